/-
  Our texts PsD to Fd3, in one.
-/
import Derived.Test.YtkhcjoomijkfbaaGreatDoorPkB11
import Derived.Deep.AppendLies
import Derived.Deep.RegionLaw
import Derived.Deep.Cut
set_option maxRecDepth 8000
set_option maxHeartbeats 8000000
namespace Go.Proofs.YtkhcjoomijkfbaaGreatDoor
open Go.RowKit
set_option maxRecDepth 100000 in
theorem value_any {w:World} {a:Option Addr} {cap:Nat} {bs:List UInt8} (hr:Row w 1 a bs.length cap (bs.map u8C)) (hn:bs.length≤400000) (at0:Int) (last:Bool) (V:PV×Int×Int) (hV:valO bs last (bs.length+2) [] at0=some V) :
   Calls Tryz.prog 55 #[.slice a bs.length cap,.int .i64 at0,.bool last] w (ValEnd w V):=by
 obtain ⟨r,hrr⟩:∃r,r=w.heap.size:=⟨_,rfl⟩
 have hs0 : zav w ((w.alloc (.cells #[.int .i64 0, .int .i64 0, .string ⟨#[]⟩, .slice none 0 0] 48)).alloc (.cells #[.slice a bs.length cap, .int .i64 at0, .bool last, .slice none 0 0] 161)) (fun _ => False) (fun b => b = r) (r + 1) a cap bs last [] at0 [] (.slice none 0 0) :=
   ⟨zac _ (by rw [zas,hrr]),by omega,by omega,World.ownsRow_nil _ _ _ _,fun b hb=>(by cases hb),rfl,fun b hb=>hb.elim,fun b hb=>by rw [zas,zas];omega,zcn w _ _,hr,hn,by simp⟩
 have HAT := Lib.hid (show VAt w ((w.alloc (.cells #[.int .i64 0, .int .i64 0, .string ⟨#[]⟩, .slice none 0 0] 48)).alloc (.cells #[.slice a bs.length cap, .int .i64 at0, .bool last, .slice none 0 0] 161)) (fun _ => False) r (r + 1) a cap bs last V (bs.length + 2) [] at0 from
   ⟨⟨_,_,hs0⟩,zao _ (zac _ hrr),hV,fun v hv=>(by cases hv),.inl rfl⟩)
 have HRR:=Lib.hid hrr
 clear hs0 hV hr hn hrr
 go_enter Tryz.func55,Tryz.ntmps55
 go_wp2
 refine zcq 0 (ValI w r (r+1) a cap bs last at0 V) rfl ?first ?pass
 case first =>
   intro hpass
   have HPASS:=Lib.hid hpass
   clear hpass
   go_wp2
   rw [←HRR.out]
   refine wp_label ?_
   rename_i K hK
   exact hK _ _ (HPASS.out _ _ _ ⟨_,[],at0,_,_,_,_,_,_,_,_,_,_,_,_,_,_,_,_,_,_,_,_,_,_,_,_,_,_,_,_,_,_,_,_,_,_,_,_,_,_,_,_,_,_,_,_,_,_,_,_,_,_,_,_,HAT,rfl⟩)
 case pass =>
   rintro n act W ⟨F,st,at_,u10,u11,u12,u13,u14,u15,u16,u17,u18,u19,u20,u21,u22,u23,u24,u25,u26,u27,u28,u29,u30,u31,u32,u33,u34,u35,u36,u37,u38,u39,u40,u41,u42,u43,u44,u45,u46,u47,u48,u49,u50,u51,u52,u53,u54,u55,u56,u57,u58,u59,u60,u61,HA,rfl⟩
   obtain ⟨p,hp⟩:∃p,p=r+1:=⟨_,rfl⟩
   rw [←hp] at HA ⊢
   have HP:=Lib.hid hp
   clear hp HAT
   obtain ⟨gs,osl,hs⟩:=HA.out.stk
   have HS:=Lib.hid hs
   have HNX:=Lib.hid (pnext_any hs)
   have HFU:=Lib.hid HA.out.fuel
   have HRES:=Lib.hid HA.out.res
   have hrl:r<W.heap.size:=zaj HA.out.res
   have hpr:p≠r:=hs.gp
   have HLEN:=Lib.hid HA.out.len
   have HSM:=Lib.hid HA.out.small
   have HRNG:=Lib.hid HA.out.rng
   have HHR:=Lib.hid (show w.heap.size≤r by rw [HRR.out];exact Nat.le_refl _)
   have hfu:=HFU.out
   cases n with
   | zero=>cases hfu
   | succ n =>
   unfold valO at hfu
   simp only at hfu
   obtain ⟨T,hT⟩:∃T,T=zai bs at_ last:=⟨_,rfl⟩
   rw [←hT] at hfu HNX
   have HT:=Lib.hid hT
   obtain ⟨x,tf,tt,er⟩:=T
   simp only at hfu HNX
   clear hs hT HFU HA
   by_cases her:er=0
   case neg =>
     have hv:=hfu
     rw [if_pos her] at hv
     have HV:=Lib.hid (Option.some.inj hv).symm
     have e1:(er==0)=false:=by rw [beq_eq_false_iff_ne];exact her
     have e2:(er != 0)=true:=by simp only [bne,e1,Bool.not_false]
     clear hfu hv her
     unfold tokN at HNX
     go_wp2_with fail
     refine HNX.out.mono ?_
     rintro e w1 ⟨rfl,hs1,hk1⟩
     have HR1:=Lib.hid ((hk1.alloc (.cells (tokN x tf tt) 112)).obj HRES.out (Ne.symm hpr))
     have HB1:=Lib.hid (hs1.bel.alloc hs1.bel.size (.cells (tokN x tf tt) 112))
     unfold tokN at HR1 HB1
     obtain ⟨⟨k0,k1,k2,k3⟩,m0,m1,m2,m3⟩:=zae HR1.out
     clear hs1 hk1
     go_upto_region 3 with fail
     generalize w1.alloc _=W2 at *
     go_wp2
     try simp only [Exit.jump]
     refine bodyPost_ret (zah rfl _ _ r 48 _ (0,0) _ rfl (by exact set4 HR1.out _ _ _ _) Tryz.underlying48 rfl (by exact zap) _ _ rfl rfl) rfl ?_
     rw [HV.out]
     exact ⟨.slice none 0 0,rfl,IsV.leaf _ _ _ rfl,zad HB1.out HHR.out _ _ _ _⟩
   subst her
   have hv:=hfu
   rw [if_neg (by simp)] at hv
   have hrng:0≤at_∧at_≤bs.length:=by
     have h:=HT.out
     by_cases ho:at_<0∨(bs.length:Int)<at_
     · unfold zai at h
       rw [if_pos ho] at h
       have h2:=congrArg (fun z:Tk×Int×Int×Int=>z.2.2.2) h
       simp at h2
     · omega
   have hst:=fun w1 (h1:zav w w1 F (fun b=>b=r) p a cap bs last st tt gs osl)=>step_any h1 x tf tt HSM.out
   have HST:=Lib.hid hst
   have hat:=fun h=>zcW (bs:=bs) (k:=at_) (last:=last) hrng.1 hrng.2 (by rw [←HT.out]) h
   rw [←HT.out] at hat
   have hto:=zbe (bs:=bs) (k:=at_) last hrng.1 hrng.2
   rw [←HT.out] at hto
   simp only at hat hto
   have hsa:=stepV_at (bs:=bs) (last:=last) (k:=tt) (by omega) hto.2 st x
   have hsk:=fun h=>zfJ (bs:=bs) (last:=last) (k:=tt) (st:=st) (t:=x) h
   have hsl:=stepV_len (bs:=bs) (last:=last) (st:=st) (k:=tt) (t:=x) (N:=at_) hrng.1 HLEN.out
   obtain ⟨R,hRR⟩:∃R,R=za5 bs last st tt x:=⟨_,rfl⟩
   rw [←hRR] at hsa hsk hsl hv
   have HST2:=Lib.hid (show ∀w1,zav w w1 F (fun b=>b=r) p a cap bs last st tt gs osl→Calls Tryz.prog 96 #[.pointer (some ⟨p,0,none⟩),.agg (tokN x tf tt)] w1 (PStep w w1 F (fun b=>b=r) p a cap bs last R) from fun w1 h1=>by rw [hRR];exact hst w1 h1)
   obtain ⟨o,st2,at2,er2⟩:=R
   simp only at hsa hsk hsl hv
   have HV:=Lib.hid hv
   have HSL:=Lib.hid hsl
   have HSA:=Lib.hid hsa
   have HSK:=Lib.hid (fun h=>hat (hsk h))
   have HTO:=Lib.hid hto
   have HR0:=Lib.hid hrng
   clear hst HST hat hto hsa hsk hsl hRR hv hfu hrng HT
   unfold tokN at HNX HST2
   go_wp2_with fail
   refine HNX.out.mono ?_
   rintro e w1 ⟨rfl,hs1,hk1⟩
   have HR1:=Lib.hid (hk1.obj HRES.out (Ne.symm hpr))
   have HS1:=Lib.hid hs1
   clear hs1 hk1 HNX
   go_wp2_with fail
   refine (HST2.out _ (HS1.out.alloc _)).mono ?_
   rintro e w3 ⟨F',sa,sn,sc,X,rfl,hX,hN⟩
   have HX:=Lib.hid hX
   have HN:=Lib.hid hN
   have HR3:=Lib.hid (zb7 hN.sg (zao (.cells #[.int .i64 x.kind,.int .i64 tf,.int .i64 tt,.int .i64 x.vk,.int .i64 x.vn,.string (mkB x.vs),.slice none 0 0,.string (mkB x.s)] 112) HR1.out) rfl)
   have HB3:=Lib.hid (show Below w.heap.size w w3 from (let ⟨_,_,h⟩:=hN.stk;h.bel))
   clear hX hN HST2 HS1 HR1
   unfold pvA
   by_cases her2:er2=0
   case neg =>
     have hv:=HV.out
     rw [if_pos her2] at hv
     have HVV:=Lib.hid (Option.some.inj hv).symm
     have e1:(er2==0)=false:=by rw [beq_eq_false_iff_ne];exact her2
     have e2:(er2 != 0)=true:=by simp only [bne,e1,Bool.not_false]
     clear hv her2
     simp only
     generalize o.isSome=io at *
     go_upto_region 6 with fail
     have HR4:=Lib.hid (zao (.cells #[.int .i64 X.kind,.int .i64 X.n,.string (mkB X.s),.slice sa sn sc] 48) HR3.out)
     have HB4:=Lib.hid (HB3.out.alloc HB3.out.size (.cells #[.int .i64 X.kind,.int .i64 X.n,.string (mkB X.s),.slice sa sn sc] 48))
     generalize w3.alloc _=W4 at *
     obtain ⟨⟨k0,k1,k2,k3⟩,m0,m1,m2,m3⟩:=zae HR4.out
     go_wp2
     refine bodyPost_ret (zah rfl _ _ r 48 _ (0,0) _ rfl (by exact set4 HR4.out _ _ _ _) Tryz.underlying48 rfl (by exact zap) _ _ rfl rfl) rfl ?_
     rw [HVV.out]
     exact ⟨.slice none 0 0,rfl,IsV.leaf _ _ _ rfl,zad HB4.out HHR.out _ _ _ _⟩
   subst her2
   have hv:=HV.out
   rw [if_neg (by simp)] at hv
   have hlt:at_<tt:=HSK.out rfl
   have hrng:=HR0.out
   have hsa:=HSA.out
   have hsl:=HSL.out
   cases o with
   | none =>
     simp only at hv
     have HVA:=Lib.hid (show ∀o:Obj,VAt w (w3.alloc o) F' r p a cap bs last V n st2 at2 from fun o =>
       ⟨(let ⟨gs2,osl2,h⟩:=HN.out.stk;⟨gs2,osl2,h.alloc o⟩),zao o HR3.out,hv,fun v hv=>by have:=hsl v hv;omega,.inr ⟨by omega,hsa.2⟩⟩)
     clear hv hlt hsa hsl HN HX hrng
     simp only [Option.isSome_none]
     go_wp2
     go_step3
     exact ⟨rfl,n,Nat.lt_succ_self _,F',st2,at2,_,_,_,_,_,_,_,_,_,_,_,_,_,_,_,_,_,_,_,_,_,_,_,_,_,_,_,_,_,_,_,_,_,_,_,_,_,_,_,_,_,_,_,_,_,_,_,_,_,_,_,_,Lib.hid (HVA.out _),rfl⟩
   | some x0 =>
     simp only [Option.isSome_some]
     obtain ⟨rfl,hv0⟩:=HX.out x0 rfl
     have HV0:=Lib.hid hv0
     obtain ⟨gs2,osl2,hs2⟩:=HN.out.stk
     have HS2:=Lib.hid hs2
     simp only at hv
     go_upto_region 9 with fail
     obtain ⟨v4,hv4⟩:∃v4,v4=w3.heap.size:=⟨_,rfl⟩
     have hb4:=zam w3 (.cells #[.int .i64 X.kind,.int .i64 X.n,.string (mkB X.s),.slice sa sn sc] 48)
     have hk4:=zac (w:=w3) (b:=v4) (.cells #[.int .i64 X.kind,.int .i64 X.n,.string (mkB X.s),.slice sa sn sc] 48) hv4
     have HS4:=Lib.hid (hs2.mono hb4)
     have HG4:=Lib.hid (hs2.res (G':=fun b=>b=r∨b=v4) hb4 (fun b hb=>hb.imp id fun e=>by rw [e,hv4,zas];omega))
     have HV4:=Lib.hid (hv0.below hb4)
     have HR4:=Lib.hid (zab hb4 HR3.out)
     have HB4:=Lib.hid (HB3.out.trans (hb4.mono HB3.out.size))
     have HK4:=Lib.hid hk4
     have HV3:=Lib.hid hv4
     have hv4r:v4≠r:=by have:=zaj HR3.out;omega
     have hv4p:v4≠p:=by have:=hs2.lt;omega
     rw [←hv4]
     clear hv0 hs2 HX HN HS2 HV0 HR3 HB3 hb4 hk4
     generalize w3.alloc _=W4 at *
     clear hv4
     have HTOP:=Lib.hid (zgF HS4.out)
     go_wp2_with fail
     refine HTOP.out.mono ?_
     rintro e w5 ⟨rfl,q,rfl⟩
     have HS5:=Lib.hid (HS4.out.drewN q)
     have HG5:=Lib.hid (HG4.out.drewN q)
     have HV5:=Lib.hid (HV4.out.below (zag (Below.refl _ _) q))
     have HR5:=Lib.hid (show (W4.drewN q).heap[r]?=_ from HR4.out)
     have HB5:=Lib.hid (zag HB4.out q)
     have HK5:=Lib.hid (show (W4.drewN q).heap[v4]?=_ from HK4.out)
     clear HS4 HG4 HV4 HR4 HB4 HK4 HTOP
     generalize W4.drewN q=W5 at *
     obtain ⟨⟨k0,k1,k2,k3⟩,m0,m1,m2,m3⟩:=zae HR5.out
     obtain ⟨⟨d0,d1,d2,d3⟩,-⟩:=zae HK5.out
     cases st2 with
     | nil =>
       have hg:gs2=[]:=List.eq_nil_of_length_eq_zero (by rw [HS5.out.lvs.len];rfl)
       subst hg
       have HVV:=Lib.hid (Option.some.inj hv).symm
       obtain ⟨⟨c0,c1,c2,c3⟩,-⟩:=HS5.out.cells
       clear hv hlt hsa hsl hrng
       unfold topP
       go_wp2
       go_region
       all_goals
         go_wp2
         refine bodyPost_ret (zah rfl _ _ r 48 _ (0,0) _ rfl (by exact set4 HR5.out _ _ _ _) Tryz.underlying48 rfl (by exact zap) _ _ rfl rfl) rfl ?_
         rw [HVV.out]
         exact ⟨_,rfl,(IsV.setr HV5.out HS5.out _ _ _ _).drew,(zad HB5.out HHR.out _ _ _ _).drew⟩
     | cons top rest =>
       obtain ⟨g,t,ta,tc,cs,rfl,ht1,ht2,hgB,hgG,hgl,hO,hVs,hown⟩:=HG5.out.lastL
       obtain ⟨tn,htn⟩:∃tn,tn=top.l.length:=⟨_,rfl⟩
       rw [←htn] at ht1 hO hgl hown
       have htn2:tn≤400000:=by
         have h1:=hsl top List.mem_cons_self
         have h2:=HS5.out.small
         omega
       have hgc:W5.cell? ⟨g,1,none⟩=some (.slice ta tn tc):=by rw [cell_of_row W5 g 1 _ _ _ hgl];rfl
       have hgf:W5.frozen? ⟨g,1,none⟩=false:=frozen_of_row W5 g 1 _ _ hgl
       have hv4l:v4<W5.heap.size:=zaj HK5.out
       have hgll:g<W5.heap.size:=zaj hgl
       have hgt:(Value.slice ta tn tc).ownBlock≠some g:=fun e=>by obtain ⟨ds,hc⟩:=zaT hO e;exact zbj hc hgl (by decide) rfl
       have hvt:(Value.slice ta tn tc).ownBlock≠some v4:=fun e=>(hown v4 e).2 (.inr rfl)
       have HC0:Hid (S5v W5 v4 (.int .i64 X.kind) (.int .i64 X.n) (.string (mkB X.s)) (.slice sa sn sc)):=Lib.hid ⟨d0,d1,d2,d3⟩
       have HO:=Lib.hid hO
       have HGL:=Lib.hid hgl
       have HVS:=Lib.hid hVs
       have HTN:=Lib.hid htn
       have HBA:=Lib.hid (HS5.out.bel.size)
       have HGT:=Lib.hid hgt
       have HVT:=Lib.hid hvt
       have HVG:=Lib.hid (show v4≠g from fun e=>hgG (.inr e.symm))
       clear k0 k1 k2 k3 m0 m1 m2 m3 hO hgl hVs htn hown
       unfold topP
       go_upto_region 11 with fail
       have i1:(0:Int)≤(tn:Int):=by omega
       have i2:(tn:Int)≤400000:=by omega
       have i3:(tn:Int)<(tn:Int)+1:=by omega
       have i4:(tn:Int)<((tn+1:Nat):Int):=by omega
       have i5:tn<tn+1:=by omega
       have i6:(tn:Int).toNat=tn:=by omega
       obtain ⟨iB,hiB,hzB,hsB,hbB⟩:=info_parts EPV.info
       go_region_law (first|(refine step_append_lies _ (by rfl) _ _ _ (by rfl) w.heap.size 48 iB _ 4 56 EPV.und hiB hzB hsB hbB rfl (by omega) (.slice ta tn tc) tn cs (by rfl) ((HO.out.alloc _).drew) ⟨W5.heap.size,0,none⟩ 1 1 [.int .i64 0,.int .i64 0,.string ⟨#[]⟩,.slice none 0 0] (by rfl) (by rfl) (World.news_of_block (cs:=#[.int .i64 0,.int .i64 0,.string ⟨#[]⟩,.slice none 0 0]) (t:=48) (fr:=(0,0)) (heap_alloc_new W5 _)) (by simp [Value.oneCell']) (by omega) (by unfold maxLen;omega) (by omega) (by simp;have:=HBA.out;omega) (W5.heap.size+1) (by simp) ?_;intro g7 cap7 w7 hO7 hgrow hat hlt7;have HGV:Hid (g≠g7∧v4≠g7):=(by rcases hat with e|e;exact Lib.hid ⟨fun e2=>hgt (e2▸e),fun e2=>hvt (e2▸e)⟩;exact Lib.hid ⟨by omega,by omega⟩);have hs7:=(HC0.out.alloc (.cells #[.int .i64 0,.int .i64 0,.string ⟨#[]⟩,.slice none 0 0] 48)).drew.grown hgrow hvt;obtain ⟨s0,s1,s2,s3⟩:=hs7;obtain ⟨⟨z0,z1,z2,z3⟩,zf⟩:=owns_lastC hO7;have hgl7:=Lib.hid ((hgrow.block g (show g<(W5.alloc _).heap.size by rw [zas];omega) (fun e=>hgt e.symm)).trans (zao (.cells #[.int .i64 0,.int .i64 0,.string ⟨#[]⟩,.slice none 0 0] 48) HGL.out));have hgf7:=frozen_of_row w7 g 1 _ _ hgl7.out;have hgne:g≠g7:=HGV.out.1;have zf0:=zf (tn * 4);have zf1:=zf (tn * 4+1);have zf2:=zf (tn * 4+2);have zf3:=zf (tn * 4+3);have hc7:w7.cell? ⟨g,1,none⟩=some (.slice ta tn tc):=(by rw [cell_of_row w7 g 1 _ _ _ hgl7.out];rfl);have HG7:=Lib.hid hgrow;have HO7:=Lib.hid hO7;have HAT:=Lib.hid hat;clear zf hgrow hO7 hat hlt7))
       all_goals
         first
           | rw [zgx w7 hgne]
           | skip
         have HVA:=Lib.hid (VAt.put HG5.out HR5.out HGL.out HVS.out HV5.out HTN.out HG7.out HO7.out HAT.out hv (fun v hv=>by have:=hsl v hv;omega) ⟨by omega,hsa.2⟩)
         clear hv hlt hsa hsl hrng HG5 HR5 HGL HVS HV5 HTN HG7 HO7 HAT HO
         go_wp2
         go_step3
         exact ⟨rfl,n,Nat.lt_succ_self _,F',_,at2,_,_,_,_,_,_,_,_,_,_,_,_,_,_,_,_,_,_,_,_,_,_,_,_,_,_,_,_,_,_,_,_,_,_,_,_,_,_,_,_,_,_,_,_,_,_,_,_,_,_,_,_,HVA,rfl⟩
def zc5 (w:World) (V:Tk×Int×Int×Int) (e:Ending) (w':World):Prop:=e=.returned (.tuple #[.int .i64 V.1.vn,.int .i64 V.2.2.1,.int .i64 V.2.2.2])∧Below w.heap.size w w'
def zcV (w:World) (V:Tk×Int×Int×Int) (e:Ending) (w':World):Prop:=e=.returned (.tuple #[.int .i64 V.2.2.1,.int .i64 V.2.2.2])∧Below w.heap.size w w'
def OneEnd (w:World) (V:Tk×Int×Int×Int) (e:Ending) (w':World):Prop:=e=.returned (.tuple #[.agg (tokN V.1 V.2.1 V.2.2.1),.int .i64 V.2.2.2])∧Below w.heap.size w w'
theorem zeE {w:World} {a:Option Addr} {cap:Nat} {bs:List UInt8} (hr:Row w 1 a bs.length cap (bs.map u8C)) (hn:bs.length≤400000) (k:Int) (last:Bool) :
   Calls Tryz.prog 41 #[.slice a bs.length cap,.int .i64 k,.bool last] w (zc5 w (oneW zaC (zai bs k last))):=by
 have HN:=Lib.hid (zbR hr hn k last)
 obtain ⟨R,hR⟩:∃R,R=oneW zaC (zai bs k last):=⟨_,rfl⟩
 rw [←hR]
 unfold oneW at hR
 generalize zai bs k last=V at *
 obtain ⟨x,f,t,er⟩:=V
 have HWH:=Lib.hid (fun W=>zfm x f t W)
 unfold tokN at HWH
 simp only at hR
 unfold zax tokN at HN
 simp only at HN
 have HR:=Lib.hid hR
 clear hr hR hn
 generalize hwx:zaC x=xw at *
 clear hwx
 generalize x.kind=xk at *
 generalize x.vk=xvk at *
 obtain ⟨xvn,hxvn⟩:∃n,n=x.vn:=⟨_,rfl⟩
 rw [←hxvn] at HN HWH
 have HXN:=Lib.hid hxvn
 clear hxvn
 generalize mkB x.vs=xvb at *
 generalize mkB x.s=xb at *
 generalize bs.length=L at *
 go_enter Tryz.func41,Tryz.ntmps41
 go_wp2_with fail
 refine HN.out.mono ?_
 rintro e w2 ⟨rfl,hb2⟩
 have HB2:=Lib.hid (hb2.alloc hb2.size (.cells #[.int .i64 xk,.int .i64 f,.int .i64 t,.int .i64 xvk,.int .i64 xvn,.string xvb,.slice none 0 0,.string xb] 91))
 have HT2:=Lib.hid (zac (w:=w2) (b:=w2.heap.size) (.cells #[.int .i64 xk,.int .i64 f,.int .i64 t,.int .i64 xvk,.int .i64 xvn,.string xvb,.slice none 0 0,.string xb] 91) rfl)
 clear hb2 HN
 go_upto_region 2 with fail
 obtain ⟨r2,hr2⟩:∃r2,r2=w2.heap.size:=⟨_,rfl⟩
 rw [←hr2] at HT2 ⊢
 clear hr2
 generalize w2.alloc _=W2 at *
 obtain ⟨⟨t0,t1,t2,t3,t4,t5,t6,t7⟩,-⟩:=zaf HT2.out
 have hR:=HR.out
 by_cases her:er=0
 case neg =>
   have e0:(er==0)=false:=by rw [beq_eq_false_iff_ne];exact her
   have e1:(er != 0)=true:=by simp only [bne,e0,Bool.not_false]
   rw [if_pos her] at hR
   subst hR
   clear HR her
   go_wp2
   go_ret3
   exact ⟨rfl,HB2.out⟩
 subst her
 rw [if_neg (by simp)] at hR
 by_cases hk:xk=0
 · have e0 : (xk == 0) = true := by rw [hk]; rfl
   rw [if_pos hk] at hR
   subst hR
   clear HR hk
   go_wp2
   go_ret3
   exact ⟨rfl,HB2.out⟩
 have e0:(xk==0)=false:=by rw [beq_eq_false_iff_ne];exact hk
 rw [if_neg hk] at hR
 clear HR hk
 have HR:=Lib.hid hR
 clear hR
 go_wp2_with fail
 refine (HWH.out _).mono ?_
 rintro e w3 ⟨rfl,hb3⟩
 have HB3:=Lib.hid (HB2.out.trans (hb3.mono HB2.out.size))
 have HT3:=Lib.hid (zab hb3 HT2.out)
 clear hb3 t0 t1 t2 t3 t4 t5 t6 t7
 obtain ⟨⟨t0,t1,t2,t3,t4,t5,t6,t7⟩,-⟩:=zaf HT3.out
 cases xw with
 | false =>
   have hR:=HR.out
   rw [if_pos rfl] at hR
   subst hR
   clear HR
   go_wp2
   go_ret3
   exact ⟨rfl,HB3.out⟩
 | true =>
   have hR:=HR.out
   rw [if_neg (by decide)] at hR
   have HR2:=Lib.hid hR
   clear HR hR
   go_wp2
   go_quiet (fail)
   go_wp2
   go_ret3
   rw [HR2.out]
   exact ⟨by rw [HXN.out];rfl,zag HB3.out _⟩
theorem rword_any {w:World} {a:Option Addr} {cap:Nat} {bs:List UInt8} (hr:Row w 1 a bs.length cap (bs.map u8C)) (hn:bs.length≤400000) (k:Int) (last:Bool) (s:List UInt8) :
   Calls Tryz.prog 42 #[.slice a bs.length cap,.int .i64 k,.bool last,.string (mkB s)] w (zcV w (oneW (zcS s) (zai bs k last))):=by
 have HN:=Lib.hid (zbR hr hn k last)
 obtain ⟨R,hR⟩:∃R,R=oneW (zcS s) (zai bs k last):=⟨_,rfl⟩
 rw [←hR]
 unfold oneW at hR
 generalize zai bs k last=V at *
 obtain ⟨x,f,t,er⟩:=V
 have HQ:=Lib.hid (show ((mkB x.s).toList==(mkB s).toList)=decide (x.s=s) by rw [zaM s];exact zbI x.s s)
 simp only at hR
 unfold zax tokN at HN
 simp only at HN
 have HR:=Lib.hid hR
 clear hr hR hn
 generalize hxs:x.s=xs at *
 generalize hxw:zcS s x=xw at *
 have HXW:=Lib.hid (show xw=(x.kind==6&&xs==s) by rw [←hxw,←hxs];rfl)
 clear hxs hxw
 generalize x.kind=xk at *
 generalize x.vk=xvk at *
 generalize x.vn=xvn at *
 generalize mkB x.vs=xvb at *
 generalize mkB xs=xb at *
 generalize mkB s=sb at *
 generalize bs.length=L at *
 go_enter Tryz.func42,Tryz.ntmps42
 go_wp2_with fail
 refine HN.out.mono ?_
 rintro e w2 ⟨rfl,hb2⟩
 have HB2:=Lib.hid (hb2.alloc hb2.size (.cells #[.int .i64 xk,.int .i64 f,.int .i64 t,.int .i64 xvk,.int .i64 xvn,.string xvb,.slice none 0 0,.string xb] 91))
 have HT2:=Lib.hid (zac (w:=w2) (b:=w2.heap.size) (.cells #[.int .i64 xk,.int .i64 f,.int .i64 t,.int .i64 xvk,.int .i64 xvn,.string xvb,.slice none 0 0,.string xb] 91) rfl)
 clear hb2 HN
 go_upto_region 2 with fail
 obtain ⟨r2,hr2⟩:∃r2,r2=w2.heap.size:=⟨_,rfl⟩
 rw [←hr2] at HT2 ⊢
 clear hr2
 generalize w2.alloc _=W2 at *
 obtain ⟨⟨t0,t1,t2,t3,t4,t5,t6,t7⟩,-⟩:=zaf HT2.out
 have hR:=HR.out
 by_cases her:er=0
 case neg =>
   have e0:(er==0)=false:=by rw [beq_eq_false_iff_ne];exact her
   have e1:(er != 0)=true:=by simp only [bne,e0,Bool.not_false]
   rw [if_pos her] at hR
   subst hR
   clear HR her
   go_wp2
   go_ret2
   exact ⟨rfl,HB2.out⟩
 subst her
 rw [if_neg (by simp)] at hR
 by_cases hk:xk=0
 · have e0 : (xk == 0) = true := by rw [hk]; rfl
   rw [if_pos hk] at hR
   subst hR
   clear HR hk
   go_wp2
   go_ret2
   exact ⟨rfl,HB2.out⟩
 have e0:(xk==0)=false:=by rw [beq_eq_false_iff_ne];exact hk
 rw [if_neg hk] at hR
 have hq:=HQ.out
 have hxw:=HXW.out
 by_cases h6:xk=6
 case neg =>
   have e6:(xk==6)=false:=by rw [beq_eq_false_iff_ne];exact h6
   have e7:(xk != 6)=true:=by simp only [bne,e6,Bool.not_false]
   rw [if_pos (by rw [hxw,e6];rfl)] at hR
   subst hR
   clear HR hk h6 hq hxw HQ HXW
   go_wp2
   go_ret2
   exact ⟨rfl,HB2.out⟩
 have e6:(xk==6)=true:=by rw [h6];rfl
 have e7:(xk != 6)=false:=by simp only [bne,e6,Bool.not_true]
 by_cases hs:xs=s
 case neg =>
   rw [decide_eq_false hs] at hq
   have e8:(xb.toList != sb.toList)=true:=by simp only [bne,hq,Bool.not_false]
   rw [if_pos (by rw [hxw,e6];simp [hs])] at hR
   subst hR
   clear HR hk h6 hxw HQ HXW hs
   go_wp2
   go_ret2
   exact ⟨rfl,HB2.out⟩
 rw [decide_eq_true hs] at hq
 have e8:(xb.toList != sb.toList)=false:=by simp only [bne,hq,Bool.not_true]
 rw [if_neg (by rw [hxw,e6,hs];simp)] at hR
 subst hR
 clear HR hk h6 hxw HQ HXW hs
 go_wp2
 go_ret2
 exact ⟨rfl,HB2.out⟩
theorem one_any {w:World} {a:Option Addr} {cap:Nat} {bs:List UInt8} (hr:Row w 1 a bs.length cap (bs.map u8C)) (hn:bs.length≤400000) (k:Int) (last:Bool) (g:FuncId) (cb:Array Value) (p:Tk→Bool)
   (henter:∀args w,(callFunc g args).run Tryz.prog w=.ok (.enter g args) w)
   (hp:∀W,Below w.heap.size w W→∀x f t,Calls Tryz.prog g (#[.agg (tokN x f t)]++cb) W fun e w'=>e=.returned (.bool (p x))∧Below W.heap.size W w') :
   Calls Tryz.prog 92 #[.slice a bs.length cap,.int .i64 k,.bool last,.func (.func g) #[] cb] w (OneEnd w (oneW p (zai bs k last))):=by
 have HN:=Lib.hid (fun (W:World) (h:Below w.heap.size w W)=>zdq (hr.mono h) hn k last)
 obtain ⟨R,hR⟩:∃R,R=oneW p (zai bs k last):=⟨_,rfl⟩
 rw [←hR]
 unfold oneW at hR
 generalize zai bs k last=V at *
 obtain ⟨x,f,t,er⟩:=V
 have HP:=Lib.hid (fun W h=>hp W h x f t)
 simp only at hR
 unfold zax tokN at HN
 unfold tokN at HP
 simp only at HN
 have HR:=Lib.hid hR
 clear hr hR hn hp
 generalize p x=px at *
 obtain ⟨xk,xvk,xvn,xvs,xs⟩:=x
 simp only at HN HP HR
 generalize bs.length=L at *
 go_enter Tryz.func92,Tryz.ntmps92
 obtain ⟨B,hB⟩:∃B,B=w.heap.size:=⟨_,rfl⟩
 have HZ:=Lib.hid (zac (w:=w) (b:=B) (.cells #[.int .i64 0,.int .i64 0,.int .i64 0,.int .i64 0,.int .i64 0,.string ⟨#[]⟩,.slice none 0 0,.string ⟨#[]⟩] 112) hB)
 have HBW:=Lib.hid (zam w (.cells #[.int .i64 0,.int .i64 0,.int .i64 0,.int .i64 0,.int .i64 0,.string ⟨#[]⟩,.slice none 0 0,.string ⟨#[]⟩] 112))
 have HBB:=Lib.hid (Nat.le_of_eq hB.symm)
 go_upto_region 1 with fail
 rw [←hB]
 clear hB
 generalize w.alloc _=W1 at *
 go_wp2_with fail
 refine (HN.out _ HBW.out).mono ?_
 rintro e w2 ⟨rfl,hb2⟩
 have hb2a:=hb2.alloc hb2.size (.cells #[.int .i64 xk,.int .i64 f,.int .i64 t,.int .i64 xvk,.int .i64 xvn,.string (mkB xvs),.slice none 0 0,.string (mkB xs)] 112)
 have HB2:=Lib.hid (HBW.out.trans (hb2a.mono HBW.out.size))
 have HT2:=Lib.hid (zac (w:=w2) (b:=w2.heap.size) (.cells #[.int .i64 xk,.int .i64 f,.int .i64 t,.int .i64 xvk,.int .i64 xvn,.string (mkB xvs),.slice none 0 0,.string (mkB xs)] 112) rfl)
 have HZ2:=Lib.hid (zab hb2a HZ.out)
 clear hb2 hb2a HN HZ
 go_upto_region 2 with fail
 obtain ⟨r2,hr2⟩:∃r2,r2=w2.heap.size:=⟨_,rfl⟩
 rw [←hr2] at HT2 ⊢
 clear hr2
 generalize w2.alloc _=W2 at *
 obtain ⟨⟨t0,t1,t2,t3,t4,t5,t6,t7⟩,-⟩:=zaf HT2.out
 obtain ⟨⟨z0,z1,z2,z3,z4,z5,z6,z7⟩,zf0,zf1,zf2,zf3,zf4,zf5,zf6,zf7⟩:=zaf HZ2.out
 have hR:=HR.out
 by_cases her:er=0
 case neg =>
   have e0:(er==0)=false:=by rw [beq_eq_false_iff_ne];exact her
   have e1:(er != 0)=true:=by simp only [bne,e0,Bool.not_false]
   rw [if_pos her] at hR
   subst hR
   clear HR her HP henter
   go_wp2
   refine bodyPost_ret (zaa rfl _ _ B 112 _ (0,0) _ rfl (by exact set8 HZ2.out _ _ _ _ _ _ _ _) Tryz.underlying112 rfl (by exact zaI) _ rfl) rfl ?_
   exact ⟨rfl,zbk HB2.out HBB.out _ _ _ _ _ _ _ _⟩
 subst her
 rw [if_neg (by simp)] at hR
 by_cases hk:xk=0
 · have e0 : (xk == 0) = true := by rw [hk]; rfl
   rw [if_pos hk] at hR
   subst hR
   clear HR hk HP henter
   go_wp2
   refine bodyPost_ret (zaa rfl _ _ B 112 _ (0,0) _ rfl (by exact set8 HZ2.out _ _ _ _ _ _ _ _) Tryz.underlying112 rfl (by exact zaI) _ rfl) rfl ?_
   exact ⟨rfl,zbk HB2.out HBB.out _ _ _ _ _ _ _ _⟩
 have e0:(xk==0)=false:=by rw [beq_eq_false_iff_ne];exact hk
 rw [if_neg hk] at hR
 clear HR
 have HR:=Lib.hid hR
 clear hR hk
 go_wp2_with fail
 refine (HP.out _ HB2.out).mono ?_
 rintro e w3 ⟨rfl,hb3⟩
 have HB3:=Lib.hid (HB2.out.trans (hb3.mono HB2.out.size))
 have HT3:=Lib.hid (zab hb3 HT2.out)
 have HZ3:=Lib.hid (zab hb3 HZ2.out)
 clear hb3 HP henter t0 t1 t2 t3 t4 t5 t6 t7 z0 z1 z2 z3 z4 z5 z6 z7 zf0 zf1 zf2 zf3 zf4 zf5 zf6 zf7
 obtain ⟨⟨t0,t1,t2,t3,t4,t5,t6,t7⟩,-⟩:=zaf HT3.out
 obtain ⟨⟨z0,z1,z2,z3,z4,z5,z6,z7⟩,zf0,zf1,zf2,zf3,zf4,zf5,zf6,zf7⟩:=zaf HZ3.out
 have hR:=HR.out
 cases px with
 | false =>
   rw [if_pos rfl] at hR
   subst hR
   clear HR
   go_wp2
   refine bodyPost_ret (zaa rfl _ _ B 112 _ (0,0) _ rfl (by exact set8 HZ3.out _ _ _ _ _ _ _ _) Tryz.underlying112 rfl (by exact zaI) _ rfl) rfl ?_
   exact ⟨rfl,zbk HB3.out HBB.out _ _ _ _ _ _ _ _⟩
 | true =>
   rw [if_neg (by decide)] at hR
   subst hR
   clear HR
   go_wp2
   refine bodyPost_ret (zaa rfl _ _ B 112 _ (0,0) _ rfl (by exact set8 HZ3.out _ _ _ _ _ _ _ _) Tryz.underlying112 rfl (by exact zaI) _ rfl) rfl ?_
   exact ⟨rfl,zbk HB3.out HBB.out _ _ _ _ _ _ _ _⟩
theorem pnumber_any {w:World} {a:Option Addr} {cap:Nat} {bs:List UInt8} (hr:Row w 1 a bs.length cap (bs.map u8C)) (hn:bs.length≤400000) (k:Int) (last:Bool) :
   Calls Tryz.prog 53 #[.slice a bs.length cap,.int .i64 k,.bool last] w (zc5 w (oneW zaC (zai bs k last))):=by
 have HO:=Lib.hid (one_any hr hn k last 93 #[] zaC (enters_of Tryz.func93 (by kernel_rfl) rfl) (fun W _ x f t=>zga x f t W))
 generalize oneW zaC (zai bs k last)=R at *
 obtain ⟨x,f,t,er⟩:=R
 unfold OneEnd tokN at HO
 unfold zc5
 simp only at HO ⊢
 clear hr hn
 generalize x.kind=xk at *
 generalize x.vk=xvk at *
 generalize x.vn=xvn at *
 generalize mkB x.vs=xvb at *
 generalize mkB x.s=xb at *
 generalize bs.length=L at *
 go_enter Tryz.func53,Tryz.ntmps53
 go_wp2_with fail
 refine HO.out.mono ?_
 rintro e w2 ⟨rfl,hb2⟩
 have HB2:=Lib.hid (hb2.alloc hb2.size (.cells #[.int .i64 xk,.int .i64 f,.int .i64 t,.int .i64 xvk,.int .i64 xvn,.string xvb,.slice none 0 0,.string xb] 112))
 have HT2:=Lib.hid (zac (w:=w2) (b:=w2.heap.size) (.cells #[.int .i64 xk,.int .i64 f,.int .i64 t,.int .i64 xvk,.int .i64 xvn,.string xvb,.slice none 0 0,.string xb] 112) rfl)
 clear hb2 HO
 go_upto_region 2 with fail
 obtain ⟨r2,hr2⟩:∃r2,r2=w2.heap.size:=⟨_,rfl⟩
 rw [←hr2] at HT2 ⊢
 clear hr2
 generalize w2.alloc _=W2 at *
 obtain ⟨⟨t0,t1,t2,t3,t4,t5,t6,t7⟩,-⟩:=zaf HT2.out
 go_wp2
 go_quiet (fail)
 go_wp2
 go_ret3
 exact ⟨rfl,zag HB2.out _⟩
theorem pword1_any {w:World} {b:Nat} {s:List UInt8} (hb:w.cell? ⟨b,0,none⟩=some (.string (mkB s))) (x:Tk) (f t:Int) :
   Calls Tryz.prog 94 #[.agg (tokN x f t),.pointer (some ⟨b,0,none⟩)] w fun e w'=>e=.returned (.bool (zcS s x))∧Below w.heap.size w w':=by
 have hq:((mkB x.s).toList==(mkB s).toList)=decide (x.s=s):=by rw [zaM s];exact zbI x.s s
 have hw:zcS s x=(x.kind==6&&decide (x.s=s)):=by unfold zcS;by_cases e:x.s=s<;>simp [e]
 rw [hw]
 unfold tokN
 have hb2:=cell?_keep (zam w (.cells #[.int .i64 x.kind,.int .i64 f,.int .i64 t,.int .i64 x.vk,.int .i64 x.vn,.string (mkB x.vs),.slice none 0 0,.string (mkB x.s)] 112)) hb
 generalize decide (x.s=s)=ds at *
 clear hw
 generalize x.kind=a0 at *
 generalize x.vk=a1 at *
 generalize x.vn=a2 at *
 generalize mkB x.vs=s1 at *
 generalize mkB x.s=s2 at *
 generalize mkB s=s3 at *
 have HK:=Lib.hid (zac (w:=w) (b:=w.heap.size) (.cells #[.int .i64 a0,.int .i64 f,.int .i64 t,.int .i64 a1,.int .i64 a2,.string s1,.slice none 0 0,.string s2] 112) rfl)
 have HB:=Lib.hid (zam w (.cells #[.int .i64 a0,.int .i64 f,.int .i64 t,.int .i64 a1,.int .i64 a2,.string s1,.slice none 0 0,.string s2] 112))
 cases h0:(a0==6)
 · go_enter Tryz.func94,Tryz.ntmps94
   go_upto_region 1 with fail
   obtain ⟨r,hr⟩:∃r,r=w.heap.size:=⟨_,rfl⟩
   rw [←hr] at HK ⊢
   clear hr
   generalize w.alloc _=W1 at *
   obtain ⟨⟨k0,k1,k2,k3,k4,k5,k6,k7⟩,-⟩:=zaf HK.out
   go_wp2
   go_ret
   exact ⟨rfl,HB.out⟩
 · cases ds
   · go_enter Tryz.func94,Tryz.ntmps94
     go_upto_region 1 with fail
     obtain ⟨r,hr⟩:∃r,r=w.heap.size:=⟨_,rfl⟩
     rw [←hr] at HK ⊢
     clear hr
     generalize w.alloc _=W1 at *
     obtain ⟨⟨k0,k1,k2,k3,k4,k5,k6,k7⟩,-⟩:=zaf HK.out
     go_wp2
     go_ret
     exact ⟨rfl,HB.out⟩
   · go_enter Tryz.func94,Tryz.ntmps94
     go_upto_region 1 with fail
     obtain ⟨r,hr⟩:∃r,r=w.heap.size:=⟨_,rfl⟩
     rw [←hr] at HK ⊢
     clear hr
     generalize w.alloc _=W1 at *
     obtain ⟨⟨k0,k1,k2,k3,k4,k5,k6,k7⟩,-⟩:=zaf HK.out
     go_wp2
     go_ret
     exact ⟨rfl,HB.out⟩
theorem pword12_any {w:World} {a:Option Addr} {cap:Nat} {bs:List UInt8} (hr:Row w 1 a bs.length cap (bs.map u8C)) (hn:bs.length≤400000) (k:Int) (last:Bool) (s:List UInt8) :
   Calls Tryz.prog 54 #[.slice a bs.length cap,.int .i64 k,.bool last,.string (mkB s)] w (zcV w (oneW (zcS s) (zai bs k last))):=by
 have hbw:=zam w (.cells #[.string (mkB s)] 9)
 have hkw:=zac (w:=w) (b:=w.heap.size) (.cells #[.string (mkB s)] 9) rfl
 have hcw:(w.alloc (.cells #[.string (mkB s)] 9)).cell? ⟨w.heap.size,0,none⟩=some (.string (mkB s)):=by rw [cell_of_row _ _ 0 _ _ _ hkw];rfl
 have HO:=Lib.hid (one_any (hr.mono hbw) hn k last 94 #[.pointer (some ⟨w.heap.size,0,none⟩)] (zcS s) (enters_of Tryz.func94 (by kernel_rfl) rfl) (fun W hW x f t=>pword1_any (cell?_keep hW hcw) x f t))
 have HBW:=Lib.hid hbw
 generalize oneW (zcS s) (zai bs k last)=R at *
 obtain ⟨x,f,t,er⟩:=R
 unfold OneEnd tokN at HO
 unfold zcV
 simp only at HO ⊢
 clear hr hn hbw hkw hcw
 generalize x.kind=xk at *
 generalize x.vk=xvk at *
 generalize x.vn=xvn at *
 generalize mkB x.vs=xvb at *
 generalize mkB x.s=xb at *
 generalize bs.length=L at *
 generalize mkB s=sb at *
 go_enter Tryz.func54,Tryz.ntmps54
 go_upto_region 1 with fail
 obtain ⟨B,hB⟩:∃B,B=w.heap.size:=⟨_,rfl⟩
 rw [←hB] at HO ⊢
 have HBB:=Lib.hid (Nat.le_of_eq hB.symm)
 clear hB
 generalize w.alloc _=W1 at *
 go_wp2_with fail
 refine HO.out.mono ?_
 rintro e w2 ⟨rfl,hb2⟩
 have HB2:=Lib.hid (HBW.out.trans ((hb2.alloc hb2.size (.cells #[.int .i64 xk,.int .i64 f,.int .i64 t,.int .i64 xvk,.int .i64 xvn,.string xvb,.slice none 0 0,.string xb] 112)).mono HBW.out.size))
 have HT2:=Lib.hid (zac (w:=w2) (b:=w2.heap.size) (.cells #[.int .i64 xk,.int .i64 f,.int .i64 t,.int .i64 xvk,.int .i64 xvn,.string xvb,.slice none 0 0,.string xb] 112) rfl)
 clear hb2 HO
 go_upto_region 2 with fail
 obtain ⟨r2,hr2⟩:∃r2,r2=w2.heap.size:=⟨_,rfl⟩
 rw [←hr2] at HT2 ⊢
 clear hr2
 generalize w2.alloc _=W2 at *
 obtain ⟨⟨t0,t1,t2,t3,t4,t5,t6,t7⟩,-⟩:=zaf HT2.out
 go_wp2
 go_ret2
 exact ⟨rfl,HB2.out⟩
theorem fN_step {key:List UInt8} {l:List PV} {k:Nat} {x:PV} (hx:l[k]?=some x):fN key (l.drop k)=if x.kind=5∧x.s=key then some 0 else (fN key (l.drop (k+2))).map (· + 2):=by
 have hk:k<l.length:=by
   rcases Nat.lt_or_ge k l.length with h|h
   · exact h
   · rw [List.getElem?_eq_none h] at hx;cases hx
 rw [List.getElem?_eq_getElem hk] at hx
 have hx:=Option.some.inj hx
 subst hx
 rw [List.drop_eq_getElem_cons hk]
 by_cases h2:k+1<l.length
 · rw [List.drop_eq_getElem_cons h2]
   rfl
 · rw [List.drop_eq_nil_of_le (show l.length ≤ k + 1 by omega), List.drop_eq_nil_of_le (show l.length ≤ k + 2 by omega)]
   unfold fN
   by_cases h:l[k].kind=5∧l[k].s=key
   · rw [if_pos h,if_pos h]
   · rw [if_neg h,if_neg h];rfl
theorem fN_end {key:List UInt8} {l:List PV} {k:Nat} (h:l.length≤k):fN key (l.drop k)=none:=by
 rw [List.drop_eq_nil_of_le h];rfl
theorem fN_lt {key:List UInt8}:∀ {l:List PV} {k:Nat},fN key l=some k→k<l.length
 | [],_,h=>by cases h
 | [x], k, h => by
   unfold fN at h
   split at h
   · cases h;simp
   · cases h
 | x :: y :: l, k, h => by
   unfold fN at h
   split at h
   · cases h;simp
   · obtain ⟨j,hj,rfl⟩:=Option.map_eq_some_iff.1 h
     have:=fN_lt hj
     simp;omega
def zfb (o:Option Nat):Int:=match o with|none=>-1|some k=>k
def zfh (w:World) (o:Option Nat) (e:Ending) (w':World):Prop:=e=.returned (.int .i64 (zfb o))∧Below w.heap.size w w'
theorem findN_no {v:PV} {key:List UInt8} (h:¬v.kind=7):zcr v key=none:=by unfold zcr;rw [if_neg h]
theorem findN_yes {v:PV} {key:List UInt8} (h:v.kind=7):zcr v key=fN key v.l:=by unfold zcr;rw [if_pos h]
theorem vfind_any {w:World} {F:Nat→Prop} {v:PV} {sl:Value} (h:IsV w F v sl) (hev:v.kind=7→v.l.length % 2=0) (key:List UInt8):Calls Tryz.prog 65 #[pvA v sl,.string (mkB key)] w (zfh w (zcr v key)):=by
 obtain ⟨a,cap,rfl,g1,g2,g3⟩:=h.len
 have hl63:(v.l.length:Int)≤9223372036854775807:=by unfold maxLen at g2;omega
 have HV:=Lib.hid h
 have HNO:=Lib.hid (fun h=>findN_no (v:=v) (key:=key) h)
 have HYE:=Lib.hid (fun h=>findN_yes (v:=v) (key:=key) h)
 obtain ⟨R,hR⟩:∃R,R=zcr v key:=⟨_,rfl⟩
 rw [←hR] at HNO HYE ⊢
 clear hR h g2 g3
 unfold pvA
 obtain ⟨l,hl⟩:∃l,l=v.l:=⟨_,rfl⟩
 rw [←hl] at HV HYE hl63 g1 hev ⊢
 have HL:=Lib.hid hl
 clear hl
 obtain ⟨B,hB⟩:∃B,B=w.heap.size:=⟨_,rfl⟩
 have HB1:=Lib.hid (zam w (.cells #[.int .i64 v.kind,.int .i64 v.n,.string (mkB v.s),.slice a l.length cap] 48))
 have HZ1:=Lib.hid (zac (w:=w) (b:=B) (.cells #[.int .i64 v.kind,.int .i64 v.n,.string (mkB v.s),.slice a l.length cap] 48) hB)
 have HV1:=Lib.hid (HV.out.below HB1.out)
 generalize v.kind=vk at *
 generalize v.n=vn at *
 generalize mkB v.s=vb at *
 go_enter Tryz.func65,Tryz.ntmps65
 go_upto_region 1 with fail
 rw [←hB]
 clear hB HV
 generalize w.alloc _=W1 at *
 obtain ⟨⟨z0,z1,z2,z3⟩,-⟩:=zae HZ1.out
 by_cases h7:vk=7
 case neg =>
   have HR:=Lib.hid (HNO.out h7)
   have e0:(vk==7)=false:=by rw [beq_eq_false_iff_ne];exact h7
   have e1:(vk != 7)=true:=by simp only [bne,e0,Bool.not_false]
   clear h7 HYE HNO hev
   go_wp2
   go_ret
   exact ⟨by rw [HR.out];rfl,HB1.out⟩
 have HR:=Lib.hid (HYE.out h7)
 have hl2:=hev h7
 clear hev
 subst h7
 clear HNO HYE
 go_wp2_with fail
 go_loop [5] (fun v5=>∃k:Nat,v5=.int .i64 k∧k≤l.length∧k % 2=0∧Hid (R=(fN key (l.drop k)).map (· + k))) (fun v5=>l.length+2-(intOf v5).toNat)
 case atStart=>exact ⟨0,rfl,by omega,rfl,Lib.hid (by rw [HR.out,List.drop_zero];cases fN key l<;>rfl)⟩
 case round =>
   obtain ⟨k,rfl,hk,hk2,HQ⟩:=hrel
   by_cases hlt:k<l.length
   · have hcd : decide ((k : Int) < (l.length : Int)) = true := decide_eq_true (by omega)
     have hcd2:decide (k<l.length)=true:=decide_eq_true hlt
     have hkb:(k:Int)+2≤9223372036854775807:=by omega
     have hkc:k+2≤l.length:=by omega
     have hv1:=HV1.out
     obtain ⟨-,-,-,b,off,rfl,-,-,hc⟩:=hv1.at (by omega)
     obtain ⟨x,hx⟩:∃x,l[k]?=some x:=⟨_,List.getElem?_eq_getElem hlt⟩
     obtain ⟨slx,-,c0,-,c2,-⟩:=hc k x (by rw [←HL.out];exact hx)
     have HST:=Lib.hid (fN_step (key:=key) hx)
     have hq:((mkB x.s).toList==(mkB key).toList)=decide (x.s=key):=by rw [zaM key];exact zbI x.s key
     clear hv1 hc hx
     by_cases h5:x.kind=5
     case neg =>
       have e0:(x.kind==5)=false:=by rw [beq_eq_false_iff_ne];exact h5
       have HQ2:=Lib.hid (show R=(fN key (l.drop (k+2))).map (· + (k+2)) by rw [HQ.out,HST.out,if_neg (fun h=>h5 h.1),Option.map_map];congr 1;funext q;show q+2+k=q+(k+2);omega)
       clear h5 HST HQ hq
       generalize x.kind=xk at *
       go_wp2_with fail
       go_round
       case rel=>exact ⟨k+2,by go_num,hkc,by omega,HQ2⟩
       case measure=>simp [intOf];omega
     have e0:(x.kind==5)=true:=by rw [beq_iff_eq];exact h5
     by_cases hs:x.s=key
     · have HQ2 := Lib.hid (show R = some k by rw [HQ.out, HST.out, if_pos ⟨h5, hs⟩]; show some (0 + k) = _; rw [Nat.zero_add])
       rw [decide_eq_true hs] at hq
       clear h5 HST HQ hs
       generalize x.kind=xk at *
       generalize mkB x.s=xb at *
       go_wp2_with fail
       go_ret
       exact ⟨by rw [HQ2.out];rfl,HB1.out⟩
     · have HQ2 := Lib.hid (show R = (fN key (l.drop (k + 2))).map (· + (k + 2)) by rw [HQ.out, HST.out, if_neg (fun h => hs h.2), Option.map_map]; congr 1; funext q; show q + 2 + k = q + (k + 2); omega)
       rw [decide_eq_false hs] at hq
       clear h5 HST HQ hs
       generalize x.kind=xk at *
       generalize mkB x.s=xb at *
       go_wp2_with fail
       go_round
       case rel=>exact ⟨k+2,by go_num,hkc,by omega,HQ2⟩
       case measure=>simp [intOf];omega
   · have hcd : decide ((k : Int) < (l.length : Int)) = false := decide_eq_false (by omega)
     have hcd2:decide (k<l.length)=false:=decide_eq_false hlt
     have HQ2:=Lib.hid (show R=none by rw [HQ.out,fN_end (by omega)];rfl)
     clear HQ
     go_wp2_with fail
     go_ret
     exact ⟨by rw [HQ2.out];rfl,HB1.out⟩
def zfE (w:World) (F:Nat→Prop) (V:PV×Bool) (e:Ending) (w':World):Prop:=∃sl,e=.returned (.tuple #[pvA V.1 sl,.bool V.2])∧IsV w' F V.1 sl∧Below w.heap.size w w'
theorem vget_any {w:World} {F:Nat→Prop} {v:PV} {sl:Value} (h:IsV w F v sl) (hev:v.kind=7→v.l.length % 2=0) (key:List UInt8):Calls Tryz.prog 40 #[pvA v sl,.string (mkB key)] w (zfE w F (getP (getV v key))):=by
 obtain ⟨a,cap,rfl,g1,g2,g3⟩:=h.len
 have hl63:(v.l.length:Int)≤9223372036854775807:=by unfold maxLen at g2;omega
 have HV:=Lib.hid (IsV.lt _ h)
 have HF:=Lib.hid (fun (W:World) (hb:Below w.heap.size w W)=>vfind_any (h.below hb) hev key)
 obtain ⟨R,hR⟩:∃R,R=zcr v key:=⟨_,rfl⟩
 have HLT := Lib.hid (show ∀ k, R = some k → k < v.l.length from fun k hk => by
   rw [hR] at hk
   unfold zcr at hk
   split at hk
   · exact fN_lt hk
   · cases hk)
 obtain ⟨V,hV⟩:∃V,V=getP (getV v key):=⟨_,rfl⟩
 have HVN:=Lib.hid (show R=none→V=(PV.none,false) from fun h=>by rw [hV];unfold getV;rw [←hR,h];rfl)
 have HVS:=Lib.hid (show ∀k,R=some k→V=(v.l.getD (k+1) PV.none,true) from fun k h=>by rw [hV];unfold getV;rw [←hR,h];rfl)
 rw [←hR] at HF
 rw [←hV]
 clear hR hV h g2 g3
 unfold zfh pvA at HF
 unfold pvA
 obtain ⟨l,hl⟩:∃l,l=v.l:=⟨_,rfl⟩
 clear hev
 rw [←hl] at HV HF HLT HVS hl63 g1 ⊢
 have HL:=Lib.hid hl
 clear hl
 obtain ⟨B,hB⟩:∃B,B=w.heap.size:=⟨_,rfl⟩
 have HB1:=Lib.hid (zcn w (.cells #[.int .i64 v.kind,.int .i64 v.n,.string (mkB v.s),.slice a l.length cap] 48) (.cells #[.int .i64 0,.int .i64 0,.string ⟨#[]⟩,.slice none 0 0] 48))
 have HZ1:=Lib.hid (zao (w:=w.alloc (.cells #[.int .i64 v.kind,.int .i64 v.n,.string (mkB v.s),.slice a l.length cap] 48)) (.cells #[.int .i64 0,.int .i64 0,.string ⟨#[]⟩,.slice none 0 0] 48) (zac (w:=w) (b:=B) (.cells #[.int .i64 v.kind,.int .i64 v.n,.string (mkB v.s),.slice a l.length cap] 48) hB))
 have HY1:=Lib.hid (zac (w:=w.alloc (.cells #[.int .i64 v.kind,.int .i64 v.n,.string (mkB v.s),.slice a l.length cap] 48)) (b:=B+1) (.cells #[.int .i64 0,.int .i64 0,.string ⟨#[]⟩,.slice none 0 0] 48) (by rw [zas,hB]))
 have HW:=Lib.hid (show w.heap.size≤B+1 by omega)
 generalize v.kind=vk at *
 generalize v.n=vn at *
 generalize mkB v.s=vb at *
 go_enter Tryz.func40,Tryz.ntmps40
 go_upto_region 1 with fail
 try rw [←hB]
 generalize World.alloc _ _=W1 at *
 clear hB
 generalize B+1=r at *
 obtain ⟨⟨z0,z1,z2,z3⟩,-⟩:=zae HZ1.out
 go_wp2_with fail
 refine (HF.out _ HB1.out).mono ?_
 rintro e w2 ⟨rfl,hb2⟩
 have HZ2:=Lib.hid (zab hb2 HZ1.out)
 have HY2:=Lib.hid (zab hb2 HY1.out)
 have HB2:=Lib.hid (HB1.out.trans (hb2.mono HB1.out.size))
 have HV2:=Lib.hid (HV.out.below HB2.out)
 clear hb2 HZ1 HY1 HB1 HV HF z0 z1 z2 z3
 obtain ⟨⟨z0,z1,z2,z3⟩,-⟩:=zae HZ2.out
 obtain ⟨⟨y0,y1,y2,y3⟩,f0,f1,f2,f3⟩:=zae HY2.out
 cases R with
 | none =>
   have HE:=Lib.hid (HVN.out rfl)
   clear HVN HVS HLT
   unfold zfb
   go_wp2
   refine bodyPost_ret (zaa rfl _ _ r 48 _ (0,0) _ rfl (by exact set4 HY2.out _ _ _ _) Tryz.underlying48 rfl (by exact zap) _ rfl) rfl ?_
   rw [HE.out]
   exact ⟨_,rfl,IsV.leaf _ _ _ rfl,zad HB2.out HW.out _ _ _ _⟩
 | some k =>
   have hkl:=HLT.out k rfl
   have HE:=Lib.hid (HVS.out k rfl)
   have hd0:decide ((k:Int)<0)=false:=decide_eq_false (by omega)
   clear HVN HVS HLT
   unfold zfb
   simp only
   by_cases hle:k+1=l.length
   · have hq : ((k : Int) + 1 == (l.length : Int)) = true := by rw [beq_iff_eq]; omega
     have hq2:((k:Int)==(l.length:Int)-1)=true:=by rw [beq_iff_eq];omega
     have hg:l.getD (k+1) PV.none=PV.none:=by rw [List.getD_eq_getElem?_getD,List.getElem?_eq_none (by omega)];rfl
     have HE2:=Lib.hid (HE.out.trans (by rw [hg]))
     clear hg HE hle
     go_wp2
     refine bodyPost_ret (zaa rfl _ _ r 48 _ (0,0) _ rfl (by exact set4 HY2.out _ _ _ _) Tryz.underlying48 rfl (by exact zap) _ rfl) rfl ?_
     rw [HE2.out]
     exact ⟨_,rfl,IsV.leaf _ _ _ rfl,zad HB2.out HW.out _ _ _ _⟩
   · have hq : ((k : Int) + 1 == (l.length : Int)) = false := by rw [beq_eq_false_iff_ne]; omega
     have hq2:((k:Int)==(l.length:Int)-1)=false:=by rw [beq_eq_false_iff_ne];omega
     have hk1:k+1<l.length:=by omega
     have hv2:=HV2.out
     obtain ⟨-,-,-,b,off,rfl,-,-,hc⟩:=hv2.at (by omega)
     obtain ⟨x,hx⟩:∃x,l[k+1]?=some x:=⟨_,List.getElem?_eq_getElem hk1⟩
     obtain ⟨slx,hsx,c0,c1,c2,c3⟩:=hc (k+1) x (by rw [←HL.out];exact hx)
     have hg:l.getD (k+1) PV.none=x:=by rw [List.getD_eq_getElem?_getD,hx];rfl
     have HE2:=Lib.hid (HE.out.trans (by rw [hg]))
     obtain ⟨xa,xc,rfl,-,-,-⟩:=hsx.len
     have HSX:=Lib.hid hsx
     have HPA:=Lib.hid (show pvA x (.slice xa x.l.length xc)=.agg #[.int .i64 x.kind,.int .i64 x.n,.string (mkB x.s),.slice xa x.l.length xc] from rfl)
     have HRW:=Lib.hid (zaj HY2.out)
     obtain ⟨j,hj⟩:∃j,j=k+1:=⟨_,rfl⟩
     have hji:(k:Int)+1=(j:Int):=by omega
     rw [←hj] at c0 c1 c2 c3 hk1
     have HJ:=Lib.hid hj
     clear hj hv2 hc hx hg HE hle hsx
     generalize x.kind=xk at *
     generalize x.n=xn at *
     generalize mkB x.s=xb at *
     go_wp2
     refine bodyPost_ret (zaa rfl _ _ r 48 _ (0,0) _ rfl (by exact set4 HY2.out _ _ _ _) Tryz.underlying48 rfl (by exact zap) _ rfl) rfl ?_
     rw [HE2.out]
     refine ⟨.slice xa x.l.length xc,by rw [HPA.out];rfl,?_,zad HB2.out HW.out _ _ _ _⟩
     exact IsV.keep ⟨by rw [zaN];exact Nat.le_refl _,fun b _ hb=>zaO (by have:=HW.out;have:=hb.2;omega) _ _ _ _⟩ (fun b hb=>hb.1) _ HSX.out
theorem zfF (h:PV):(¬h.kind=6)∨(h.kind=6∧h.l.length<2)∨(∃x y t,h.kind=6∧h.l=x::y::t∧¬x.kind=2)∨(∃x y t,h.kind=6∧h.l=x::y::t∧x.kind=2∧¬y.kind=2)∨(∃x y t,h.kind=6∧h.l=x::y::t∧x.kind=2∧y.kind=2):=by
 by_cases h6:h.kind=6
 · match hl:h.l with
   | []=>exact .inr (.inl ⟨h6,by simp⟩)
   | [x]=>exact .inr (.inl ⟨h6,by simp⟩)
   | x::y::t =>
     by_cases hx:x.kind=2
     · by_cases hy:y.kind=2
       · exact .inr (.inr (.inr (.inr ⟨x,y,t,h6,rfl,hx,hy⟩)))
       · exact .inr (.inr (.inr (.inl ⟨x,y,t,h6,rfl,hx,hy⟩)))
     · exact .inr (.inr (.inl ⟨x,y,t,h6,rfl,hx⟩))
 · exact .inl h6
def zd5 (h:PV):Int×Int×Bool :=
 if h.kind=6∧2≤h.l.length∧(h.l.getD 0 PV.none).kind=2∧(h.l.getD 1 PV.none).kind=2 then ((h.l.getD 0 PV.none).n,(h.l.getD 1 PV.none).n,true) else (0,0,false)
theorem hintV_is (v:PV):zcG v=zd5 (getP (getV v kH)).1:=rfl
def HintEnd (w:World) (R:Int×Int×Bool) (e:Ending) (w':World):Prop:=e=.returned (.tuple #[.int .i64 R.1,.int .i64 R.2.1,.bool R.2.2])∧Below w.heap.size w w'
theorem hint_any {w:World} {F:Nat→Prop} {v:PV} {sl:Value} (h:IsV w F v sl) (hev:v.kind=7→v.l.length % 2=0):Calls Tryz.prog 39 #[pvA v sl] w (HintEnd w (zcG v)):=by
 rw [hintV_is]
 obtain ⟨a,c,rfl,-,-,-⟩:=h.len
 have HG:=Lib.hid (fun W (hb:Below w.heap.size w W)=>vget_any (h.below hb) hev kH)
 have HB1:=Lib.hid (zam w (.cells #[.int .i64 v.kind,.int .i64 v.n,.string (mkB v.s),.slice a v.l.length c] 48))
 have HK1:=Lib.hid (zac (w:=w) (b:=w.heap.size) (.cells #[.int .i64 v.kind,.int .i64 v.n,.string (mkB v.s),.slice a v.l.length c] 48) rfl)
 generalize getP (getV v kH)=G at *
 obtain ⟨g,is⟩:=G
 unfold zfE at HG
 unfold HintEnd
 unfold pvA at HG ⊢
 dsimp only at HG ⊢
 have hcs:=zfF g
 clear h hev
 generalize v.kind=k at *
 generalize v.n=n at *
 generalize mkB v.s=s at *
 generalize v.l.length=l at *
 go_enter Tryz.func39,Tryz.ntmps39
 go_upto_region 1 with fail
 generalize w.heap.size=r at HK1 ⊢
 generalize w.alloc _=W1 at *
 obtain ⟨⟨t0,t1,t2,t3⟩,-⟩:=zae HK1.out
 go_wp2_with fail
 refine (HG.out _ HB1.out).mono ?_
 rintro e w2 ⟨sl2,rfl,hx,hb2⟩
 obtain ⟨ta,tc,rfl,hcp1,hcp2,-⟩:=hx.len
 have HB3:=Lib.hid (HB1.out.trans ((hb2.alloc hb2.size (.cells #[.int .i64 g.kind,.int .i64 g.n,.string (mkB g.s),.slice ta g.l.length tc] 48)).mono HB1.out.size))
 have HK3:=Lib.hid (zac (w:=w2) (b:=w2.heap.size) (.cells #[.int .i64 g.kind,.int .i64 g.n,.string (mkB g.s),.slice ta g.l.length tc] 48) rfl)
 have HX3:=Lib.hid (hx.below (zam w2 (.cells #[.int .i64 g.kind,.int .i64 g.n,.string (mkB g.s),.slice ta g.l.length tc] 48)))
 clear hb2 hx t0 t1 t2 t3 HK1 HB1 HG
 go_upto_region 2 with fail
 obtain ⟨o,ho⟩:∃o,o=w2.heap.size:=⟨_,rfl⟩
 rw [←ho] at HK3 ⊢
 clear ho
 generalize w2.alloc _=W3 at *
 obtain ⟨⟨t0,t1,t2,t3⟩,-⟩:=zae HK3.out
 unfold maxLen at hcp2
 rcases hcs with h6|⟨h6,hl⟩|⟨x,y,t,h6,hl,hk⟩|⟨x,y,t,h6,hl,hk,hk2⟩|⟨x,y,t,h6,hl,hk,hk2⟩
 · have e1 : (g.kind == 6) = false := by rw [beq_eq_false_iff_ne]; exact h6
   have e2:(g.kind != 6)=true:=by simp only [bne,e1,Bool.not_false]
   have HR:=Lib.hid (show zd5 g=(0,0,false) from if_neg fun h=>h6 h.1)
   clear h6 HX3
   generalize g.kind=gk at *
   go_wp2_with fail
   go_ret3
   rw [HR.out]
   exact ⟨rfl,HB3.out⟩
 · have e1 : (g.kind == 6) = true := by rw [h6]; rfl
   have e2:(g.kind != 6)=false:=by simp only [bne,e1,Bool.not_true]
   have e3:decide ((g.l.length:Int)<2)=true:=decide_eq_true (by omega)
   have HR:=Lib.hid (show zd5 g=(0,0,false) from if_neg fun h=>by have:=h.2.1;omega)
   clear h6 hl HX3
   generalize g.kind=gk at *
   generalize g.l.length=gl at *
   go_wp2_with fail
   go_ret3
   rw [HR.out]
   exact ⟨rfl,HB3.out⟩
 all_goals
   have e1:(g.kind==6)=true:=by rw [h6];rfl
   have e2:(g.kind != 6)=false:=by simp only [bne,e1,Bool.not_true]
   have hlen:g.l.length=t.length+2:=by rw [hl];simp
   have e3:decide ((g.l.length:Int)<2)=false:=decide_eq_false (by omega)
   obtain ⟨-,-,-,b,off,rfl,hbW,-,hat⟩:=HX3.out.at (by omega)
   obtain ⟨s0,-,x0,x1,-,-⟩:=hat 0 x (by rw [hl];rfl)
   obtain ⟨s1,-,y0,y1,-,-⟩:=hat 1 y (by rw [hl];rfl)
   rw [Nat.zero_mul,Nat.add_zero] at x0 x1
   rw [Nat.one_mul] at y0 y1
   have hn0:(0:Int)<(g.l.length:Int):=by omega
   have hn1:(1:Int)<(g.l.length:Int):=by omega
   clear hat
 · have HR := Lib.hid (show zd5 g = (0, 0, false) from if_neg fun h => hk (by have := h.2.2.1; rw [hl] at this; exact this))
   have e4:(x.kind==2)=false:=by rw [beq_eq_false_iff_ne];exact hk
   have e5:(x.kind != 2)=true:=by simp only [bne,e4,Bool.not_false]
   clear h6 hl HX3 hk hlen
   generalize g.kind=gk at *
   generalize g.l.length=gl at *
   generalize x.kind=xk at *
   go_wp2_with fail
   go_ret3
   rw [HR.out]
   exact ⟨rfl,HB3.out⟩
 · have HR := Lib.hid (show zd5 g = (0, 0, false) from if_neg fun h => hk2 (by have := h.2.2.2; rw [hl] at this; exact this))
   have e4:(x.kind==2)=true:=by rw [hk];rfl
   have e5:(x.kind != 2)=false:=by simp only [bne,e4,Bool.not_true]
   have e6:(y.kind==2)=false:=by rw [beq_eq_false_iff_ne];exact hk2
   have e7:(y.kind != 2)=true:=by simp only [bne,e6,Bool.not_false]
   clear h6 hl HX3 hk hk2 hlen
   generalize g.kind=gk at *
   generalize g.l.length=gl at *
   generalize x.kind=xk at *
   generalize y.kind=yk at *
   go_wp2_with fail
   go_ret3
   rw [HR.out]
   exact ⟨rfl,HB3.out⟩
 · have HR := Lib.hid (show zd5 g = (x.n, y.n, true) from by unfold zd5; rw [hl]; exact if_pos ⟨h6, by simp, hk, hk2⟩)
   have e4:(x.kind==2)=true:=by rw [hk];rfl
   have e5:(x.kind != 2)=false:=by simp only [bne,e4,Bool.not_true]
   have e6:(y.kind==2)=true:=by rw [hk2];rfl
   have e7:(y.kind != 2)=false:=by simp only [bne,e6,Bool.not_true]
   clear h6 hl HX3 hk hk2 hlen
   generalize g.kind=gk at *
   generalize g.l.length=gl at *
   generalize x.kind=xk at *
   generalize y.kind=yk at *
   generalize x.n=xn at *
   generalize y.n=yn at *
   go_wp2_with fail
   go_quiet (fail)
   go_wp2_with fail
   go_ret3
   rw [HR.out]
   exact ⟨rfl,zag HB3.out _⟩
end Go.Proofs.YtkhcjoomijkfbaaGreatDoor
namespace Go.Proofs.YtkhcjoomijkfbaaGreatDoor
open Go.RowKit
structure IsFd (w0 w:World) (p:Nat) (a:Option Addr) (cap:Nat) (bs:List UInt8) (last:Bool) (s:Int×Int):Prop where
 blk:w.heap[p]?=some (.cells #[.slice a bs.length cap,.int .i64 s.1,.bool last,.int .i64 s.2] 77 (0,0))
 new:w0.heap.size≤p
 row:Row w0 1 a bs.length cap (bs.map u8C)
 bel:Below w0.heap.size w0 w
 small:bs.length≤399999
theorem fd_set {w:World} {b:Nat} {x0 x1 x2 x3:Value} {t:TypeId} (h:w.heap[b]?=some (.cells #[x0,x1,x2,x3] t (0,0))) (y1 y3:Value):((w.setCell ⟨b,1,none⟩ y1).setCell ⟨b,3,none⟩ y3).heap[b]?=some (.cells #[x0,y1,x2,y3] t (0,0)):=by
 rw [heap_setCell_same _ b 3 _ _ _ (heap_setCell_same w b 1 _ _ _ h)];rfl
theorem fd_set1 {w:World} {b:Nat} {x0 x1 x2 x3:Value} {t:TypeId} (h:w.heap[b]?=some (.cells #[x0,x1,x2,x3] t (0,0))) (y1:Value):(w.setCell ⟨b,1,none⟩ y1).heap[b]?=some (.cells #[x0,y1,x2,x3] t (0,0)):=by
 rw [heap_setCell_same w b 1 _ _ _ h];rfl
theorem fd_set3 {w:World} {b:Nat} {x0 x1 x2 x3:Value} {t:TypeId} (h:w.heap[b]?=some (.cells #[x0,x1,x2,x3] t (0,0))) (y3:Value):(w.setCell ⟨b,3,none⟩ y3).heap[b]?=some (.cells #[x0,x1,x2,y3] t (0,0)):=by
 rw [heap_setCell_same w b 3 _ _ _ h];rfl
section
variable {w0 w w' : World} {p : Nat} {a : Option Addr} {cap : Nat} {bs : List UInt8} {last : Bool} {s : Int × Int}
theorem IsFd.lt (h:IsFd w0 w p a cap bs last s):p<w.heap.size:=zaj h.blk
theorem IsFd.mono (h:IsFd w0 w p a cap bs last s) (hb:Below w.heap.size w w'):IsFd w0 w' p a cap bs last s :=
 ⟨zab hb h.blk,h.new,h.row,h.bel.trans (hb.mono h.bel.size),h.small⟩
theorem IsFd.bytes (h:IsFd w0 w p a cap bs last s):Row w 1 a bs.length cap (bs.map u8C):=h.row.mono h.bel
theorem IsFd.cells (h:IsFd w0 w p a cap bs last s):(w.cell? ⟨p,0,none⟩=some (.slice a bs.length cap)∧w.cell? ⟨p,1,none⟩=some (.int .i64 s.1)∧w.cell? ⟨p,2,none⟩=some (.bool last)∧w.cell? ⟨p,3,none⟩=some (.int .i64 s.2)) ∧
   w.frozen? ⟨p,0,none⟩=false∧w.frozen? ⟨p,1,none⟩=false∧w.frozen? ⟨p,2,none⟩=false∧w.frozen? ⟨p,3,none⟩=false :=
 ⟨⟨by rw [cell_of_row _ _ _ _ _ _ h.blk]; rfl, by rw [cell_of_row _ _ _ _ _ _ h.blk]; rfl, by rw [cell_of_row _ _ _ _ _ _ h.blk]; rfl, by rw [cell_of_row _ _ _ _ _ _ h.blk]; rfl⟩,
   frozen_of_row _ _ _ _ _ h.blk,frozen_of_row _ _ _ _ _ h.blk,frozen_of_row _ _ _ _ _ h.blk,frozen_of_row _ _ _ _ _ h.blk⟩
theorem IsFd.set (h:IsFd w0 w p a cap bs last s) (x y:Int):IsFd w0 ((w.setCell ⟨p,1,none⟩ (.int .i64 x)).setCell ⟨p,3,none⟩ (.int .i64 y)) p a cap bs last (x,y) :=
 ⟨fd_set h.blk _ _,h.new,h.row,(h.bel.setCell h.new _).setCell h.new _,h.small⟩
theorem IsFd.setAt (h:IsFd w0 w p a cap bs last s) (x:Int):IsFd w0 (w.setCell ⟨p,1,none⟩ (.int .i64 x)) p a cap bs last (x,s.2) :=
 ⟨fd_set1 h.blk _,h.new,h.row,h.bel.setCell h.new _,h.small⟩
theorem IsFd.setE (h:IsFd w0 w p a cap bs last s) (y:Int):IsFd w0 (w.setCell ⟨p,3,none⟩ (.int .i64 y)) p a cap bs last (s.1,y) :=
 ⟨fd_set3 h.blk _,h.new,h.row,h.bel.setCell h.new _,h.small⟩
theorem fail_any (h : IsFd w0 w p a cap bs last s) (e : Int) : Calls Tryz.prog 57 #[.pointer (some ⟨p, 0, none⟩), .int .i64 e] w fun x w' => x = .returned (.tuple #[]) ∧ IsFd w0 w' p a cap bs last (s.1, if s.2 = 0 then e else s.2) ∧ zak (fun b => b = p) w w' := by
 obtain ⟨at0,er0⟩:=s
 have HS:=Lib.hid h
 obtain ⟨⟨c0,c1,c2,c3⟩,f0,f1,f2,f3⟩:=h.cells
 clear h
 dsimp only at c1 c3 ⊢
 by_cases he:er0=0
 · subst he
   go_enter Tryz.func57,Tryz.ntmps57
   go_wp2_with fail
   go_end0
   exact ⟨rfl,HS.out.setE e,(zak.refl (fun b=>b=p) w).setCell (a:=⟨p,3,none⟩) (.inl rfl) _⟩
 · have e1 : (er0 == 0) = false := by rw [beq_eq_false_iff_ne]; exact he
   rw [if_neg he]
   clear he
   go_enter Tryz.func57,Tryz.ntmps57
   go_wp2_with fail
   go_end0
   exact ⟨rfl,HS.out,zak.refl _ _⟩
theorem zeY (h:IsFd w0 w p a cap bs last s) (lo hi:Int):Calls Tryz.prog 33 #[.pointer (some ⟨p,0,none⟩),.int .i64 lo,.int .i64 hi] w fun e w' =>
   e=.returned (.int .i64 (numS bs last lo hi s).1)∧IsFd w0 w' p a cap bs last (numS bs last lo hi s).2∧zak (fun b=>b=p) w w':=by
 obtain ⟨at0,er0⟩:=s
 have HN:=Lib.hid (fun (W:World) (hb:Below w.heap.size w W)=>pnumber_any (h.bytes.mono hb) (by have:=h.small;omega) at0 last)
 have HS:=Lib.hid h
 obtain ⟨⟨c0,c1,c2,c3⟩,f0,f1,f2,f3⟩:=h.cells
 dsimp only at c1 c3
 by_cases he:er0=0
 case neg =>
   have e1:(er0==0)=false:=by rw [beq_eq_false_iff_ne];exact he
   have e2:(er0 != 0)=true:=by simp only [bne,e1,Bool.not_false]
   unfold numS
   rw [if_pos he]
   clear HN h he
   go_enter Tryz.func33,Tryz.ntmps33
   go_wp2_with fail
   go_ret
   exact ⟨rfl,HS.out,zak.refl _ _⟩
 subst he
 unfold numS
 rw [if_neg (by simp)]
 dsimp only
 generalize oneW zaC (zai bs at0 last)=R at *
 obtain ⟨x,f,t,er⟩:=R
 unfold zc5 at HN
 dsimp only at HN ⊢
 generalize x.vn=n at *
 obtain ⟨E,hE⟩:∃E,E=(if er=0∧(n<lo∨hi<n) then (18:Int) else er):=⟨_,rfl⟩
 rw [←hE]
 have hc:((er==0)=false∧E=er)∨((er==0)=true∧decide (n<lo)=true∧E=18)∨((er==0)=true∧decide (n<lo)=false∧decide (n > hi)=true∧E=18)∨((er==0)=true∧decide (n<lo)=false∧decide (n > hi)=false∧E=er):=by
   by_cases g1:er=0
   · by_cases g2:n<lo
     · exact .inr (.inl ⟨by rw [g1];rfl,decide_eq_true g2,by rw [hE,if_pos ⟨g1,.inl g2⟩]⟩)
     · by_cases g3:hi<n
       · exact .inr (.inr (.inl ⟨by rw [g1];rfl,decide_eq_false g2,decide_eq_true g3,by rw [hE,if_pos ⟨g1,.inr g3⟩]⟩))
       · exact .inr (.inr (.inr ⟨by rw [g1];rfl,decide_eq_false g2,decide_eq_false g3,by rw [hE,if_neg (by rintro ⟨-,h|h⟩;exact g2 h;exact g3 h)]⟩))
   · exact .inl ⟨by rw [beq_eq_false_iff_ne];exact g1,by rw [hE,if_neg (fun h=>g1 h.1)]⟩
 have HC:=Lib.hid hc
 have HK:Hid (S3 w p 0 (.slice a bs.length cap) p 1 (.int .i64 at0) p 2 (.bool last)):=Lib.hid ⟨c0,c1,c2⟩
 clear h hc hE
 go_enter Tryz.func33,Tryz.ntmps33
 go_wp2_with fail
 go_region_held3 (fun w' => w'.cell? ⟨p, 0, none⟩ = some (.slice a bs.length cap) ∧ w'.cell? ⟨p, 1, none⟩ = some (.int .i64 at0) ∧ w'.cell? ⟨p, 2, none⟩ = some (.bool last))
   ((show S3 _ p 0 (.slice a bs.length cap) p 1 (.int .i64 at0) p 2 (.bool last);(first
     | (with_reducible exact HK.out.drew)
     | (with_reducible exact HK.out)
     | (with_reducible exact Hid.out (by assumption)))))
   ((go_at_call 53;(with_reducible refine (HN.out _ (Below.refl _ _).drew).mono ?_);rintro e wN ⟨rfl,hbN⟩;have hbM:Below w.heap.size w wN:=(Below.refl _ _).drew.trans hbN;have HSN:=Lib.hid (HK.out.below hbM)))
 have HS2:=Lib.hid (HS.out.mono hbM)
 obtain ⟨⟨d0,d1,d2,d3⟩,k0,k1,k2,k3⟩:=HS2.out.cells
 dsimp only at d1 d3
 have HKE:=Lib.hid (((zaZ hbM:zak (fun b=>b=p) w wN).setCell (a:=⟨p,1,none⟩) (.inl rfl) (.int .i64 t)).setCell (a:=⟨p,3,none⟩) (.inl rfl) (.int .i64 E))
 clear HSN HK c0 c1 c2 c3 f0 f1 f2 f3 hbN hbM HN
 rcases HC.out with ⟨g1,rfl⟩|⟨g1,g2,rfl⟩|⟨g1,g2,g3,rfl⟩|⟨g1,g2,g3,rfl⟩<;>(
   clear HC
   go_wp2_with fail
   go_ret
   exact ⟨rfl,HS2.out.set _ _,HKE.out⟩)
theorem fword_any (h:IsFd w0 w p a cap bs last s) (k:List UInt8):Calls Tryz.prog 34 #[.pointer (some ⟨p,0,none⟩),.string (mkB k)] w fun e w' =>
   e=.returned (.tuple #[])∧IsFd w0 w' p a cap bs last (zd6 bs last k s)∧zak (fun b=>b=p) w w':=by
 obtain ⟨at0,er0⟩:=s
 have HN:=Lib.hid (fun (W:World) (hb:Below w.heap.size w W)=>pword12_any (h.bytes.mono hb) (by have:=h.small;omega) at0 last k)
 have HS:=Lib.hid h
 obtain ⟨⟨c0,c1,c2,c3⟩,f0,f1,f2,f3⟩:=h.cells
 dsimp only at c1 c3
 by_cases he:er0=0
 case neg =>
   have e1:(er0==0)=false:=by rw [beq_eq_false_iff_ne];exact he
   have e2:(er0 != 0)=true:=by simp only [bne,e1,Bool.not_false]
   unfold zd6
   rw [if_pos he]
   clear HN h he
   generalize mkB k=kb at *
   go_enter Tryz.func34,Tryz.ntmps34
   go_wp2_with fail
   refine bodyPost_ret (results_none rfl _ _ _) rfl ?_
   exact ⟨rfl,HS.out,zak.refl _ _⟩
 subst he
 unfold zd6
 rw [if_neg (by simp)]
 dsimp only
 generalize oneW (zcS k) (zai bs at0 last)=R at *
 obtain ⟨x,f,t,er⟩:=R
 unfold zcV at HN
 dsimp only at HN ⊢
 generalize mkB k=kb at *
 have HK:Hid (S3 w p 0 (.slice a bs.length cap) p 1 (.int .i64 at0) p 2 (.bool last)):=Lib.hid ⟨c0,c1,c2⟩
 clear h
 go_enter Tryz.func34,Tryz.ntmps34
 go_upto_region 1 with fail
 go_region_with ((go_at_call 54;(with_reducible refine (HN.out _ (Below.refl _ _).drew).mono ?_);rintro e wN ⟨rfl,hbN⟩;have hbM:Below w.heap.size w wN:=(Below.refl _ _).drew.trans hbN;have HS2:=Lib.hid (HS.out.mono hbM);obtain ⟨⟨d0,d1,d2,d3⟩,k0,k1,k2,k3⟩:=HS2.out.cells;have HKE:=Lib.hid (((zaZ hbM:zak (fun b=>b=p) w wN).setCell (a:=⟨p,1,none⟩) (.inl rfl) (.int .i64 t)).setCell (a:=⟨p,3,none⟩) (.inl rfl) (.int .i64 er))))
 all_goals
   go_end0
   exact ⟨rfl,HS2.out.set _ _,HKE.out⟩
end
end Go.Proofs.YtkhcjoomijkfbaaGreatDoor
namespace Go.Proofs.YtkhcjoomijkfbaaGreatDoor
open Go.RowKit
section
variable {w0 w w' : World} {p : Nat} {a : Option Addr} {cap : Nat} {bs : List UInt8} {last : Bool} {s : Int × Int}
theorem zgG {W:World} {b r k:Nat} (hb:b≠r) (y0 y1 y2 y3:Value) :
   ((((W.setCell ⟨r,0,none⟩ y0).setCell ⟨r,1,none⟩ y1).setCell ⟨r,2,none⟩ y2).setCell ⟨r,3,none⟩ y3).cell? ⟨b,k,none⟩=W.cell? ⟨b,k,none⟩ :=
 World.cell?_of_block (w:=W) (a:=⟨b,k,none⟩) (zaO hb y0 y1 y2 y3)
theorem S3.set4 {w:World} {p o0 o1 o2 r:Nat} {x0 x1 x2:Value} (h:S3 w p o0 x0 p o1 x1 p o2 x2) (hp:p≠r) (y0 y1 y2 y3:Value) :
   S3 ((((w.setCell ⟨r,0,none⟩ y0).setCell ⟨r,1,none⟩ y1).setCell ⟨r,2,none⟩ y2).setCell ⟨r,3,none⟩ y3) p o0 x0 p o1 x1 p o2 x2 :=
 ⟨(zgG hp y0 y1 y2 y3).trans h.1,(zgG hp y0 y1 y2 y3).trans h.2.1,(zgG hp y0 y1 y2 y3).trans h.2.2⟩
structure TvM (w W:World) (r:Nat) (x:PV) (sl:Value):Prop where
 bel:Below w.heap.size w W
 blk:W.heap[r]?=some (.cells #[.int .i64 x.kind,.int .i64 x.n,.string (mkB x.s),sl] 48 (0,0))
 new:w.heap.size≤r
 val:IsV W (fun b=>w.heap.size≤b) x sl
def FvEnd (w0 w:World) (p:Nat) (a:Option Addr) (cap:Nat) (bs:List UInt8) (last:Bool) (V:PV×Int×Int) (e:Ending) (w':World):Prop :=
 ∃sl,e=.returned (pvA V.1 sl)∧IsV w' (fun b=>w.heap.size≤b) V.1 sl∧IsFd w0 w' p a cap bs last V.2∧zak (fun b=>b=p) w w'
theorem fd_set4 {w:World} {b:Nat} {x0 x1 x2 x3:Value} {t:TypeId} (h:w.heap[b]?=some (.cells #[x0,x1,x2,x3] t (0,0))) (y0 y1 y2 y3:Value) :
   ((((w.setCell ⟨b,0,none⟩ y0).setCell ⟨b,1,none⟩ y1).setCell ⟨b,2,none⟩ y2).setCell ⟨b,3,none⟩ y3).heap[b]?=some (.cells #[y0,y1,y2,y3] t (0,0)):=by
 rw [heap_setCell_same _ _ 3 _ _ _ (heap_setCell_same _ _ 2 _ _ _ (heap_setCell_same _ _ 1 _ _ _ (heap_setCell_same w _ 0 _ _ _ h)))];rfl
theorem IsFd.set4 (h:IsFd w0 w p a cap bs last s) {q:Nat} (hq:p≠q) (h0:w0.heap.size≤q) (y0 y1 y2 y3:Value) :
   IsFd w0 ((((w.setCell ⟨q,0,none⟩ y0).setCell ⟨q,1,none⟩ y1).setCell ⟨q,2,none⟩ y2).setCell ⟨q,3,none⟩ y3) p a cap bs last s :=
 ⟨(heap_setCell_other _ _ _ _ hq).trans ((heap_setCell_other _ _ _ _ hq).trans ((heap_setCell_other _ _ _ _ hq).trans ((heap_setCell_other _ _ _ _ hq).trans h.blk))),h.new,h.row,(((h.bel.setCell h0 _).setCell h0 _).setCell h0 _).setCell h0 _,h.small⟩
theorem fd_beside {W : World} {X : PV} {sl : Value} {Q B : Nat} (h : IsV W (fun b => Q ≤ b) X sl) (hB : B < Q) (y0 y1 y2 y3 : Value) :
   IsV ((((W.setCell ⟨B,0,none⟩ y0).setCell ⟨B,1,none⟩ y1).setCell ⟨B,2,none⟩ y2).setCell ⟨B,3,none⟩ y3) (fun b=>Q≤b) X sl :=
 IsV.keep ⟨by simp,fun b _ hF=>zaO (by have:Q≤b:=hF;omega) _ _ _ _⟩ (fun _ h=>h) X h
theorem fd_beside2 {W : World} {X : PV} {sl : Value} {Q B : Nat} (h : IsV W (fun b => Q ≤ b) X sl) (hB : B < Q) (y1 y3 : Value) :
   IsV ((W.setCell ⟨B,1,none⟩ y1).setCell ⟨B,3,none⟩ y3) (fun b=>Q≤b) X sl :=
 IsV.keep ⟨by simp,fun b _ hF=>by have:Q≤b:=hF;rw [heap_setCell_other _ _ _ _ (by show b≠B;omega),heap_setCell_other _ _ _ _ (by show b≠B;omega)]⟩ (fun _ h=>h) X h
theorem fvalue_any (h:IsFd w0 w p a cap bs last s) (hin:InB bs.length s):Calls Tryz.prog 36 #[.pointer (some ⟨p,0,none⟩)] w (FvEnd w0 w p a cap bs last (valS bs last s)):=by
 obtain ⟨at0,er0⟩:=s
 have HS:=Lib.hid h
 have hpw:=h.lt
 have HB1:=Lib.hid (zam w (.cells #[.int .i64 0,.int .i64 0,.string ⟨#[]⟩,.slice none 0 0] 48))
 have HK1:=Lib.hid (zac (w:=w) (b:=w.heap.size) (.cells #[.int .i64 0,.int .i64 0,.string ⟨#[]⟩,.slice none 0 0] 48) rfl)
 have HV : er0 = 0 → Hid (∀ W, Below w.heap.size w W → Calls Tryz.prog 55 #[.slice a bs.length cap, .int .i64 at0, .bool last] W (ValEnd W (zbE bs last at0))) := fun he => Lib.hid fun W hb => by
   obtain ⟨q1,q2⟩:=hin he
   exact value_any (h.bytes.mono hb) (by have:=h.small;omega) at0 last _ (parse_doc q1 q2)
 unfold valS FvEnd
 by_cases he:er0=0
 case neg =>
   rw [if_pos he]
   have HS1:=Lib.hid (HS.out.mono HB1.out)
   have e1:(er0==0)=false:=by rw [beq_eq_false_iff_ne];exact he
   have e2:(er0 != 0)=true:=by simp only [bne,e1,Bool.not_false]
   clear HV h he hin
   go_enter Tryz.func36,Tryz.ntmps36
   go_upto_region 1 with fail
   obtain ⟨q,hq⟩:∃q,q=w.heap.size:=⟨_,rfl⟩
   rw [←hq] at HK1 ⊢
   have HQ:=Lib.hid (show w.heap.size≤q from Nat.le_of_eq hq.symm)
   have hpq:p≠q:=by omega
   clear hq hpw
   generalize w.alloc _=W1 at *
   obtain ⟨⟨c0,c1,c2,c3⟩,f0,f1,f2,f3⟩:=HS1.out.cells
   obtain ⟨⟨t0,t1,t2,t3⟩,g0,g1,g2,g3⟩:=zae HK1.out
   dsimp only at c1 c3
   have HE:=Lib.hid (fun y0 y1 y2 y3=>show IsFd w0 ((((W1.setCell ⟨q,0,none⟩ y0).setCell ⟨q,1,none⟩ y1).setCell ⟨q,2,none⟩ y2).setCell ⟨q,3,none⟩ y3) p a cap bs last (at0,er0)∧zak (fun b=>b=p) w ((((W1.setCell ⟨q,0,none⟩ y0).setCell ⟨q,1,none⟩ y1).setCell ⟨q,2,none⟩ y2).setCell ⟨q,3,none⟩ y3) from ⟨HS1.out.set4 hpq (Nat.le_trans HS.out.bel.size HQ.out) y0 y1 y2 y3,za6 (zaZ HB1.out) HQ.out y0 y1 y2 y3⟩)
   clear HS HS1
   go_wp2_with fail
   refine bodyPost_ret (results_cell_row rfl _ _ q 48 _ (0,0) _ rfl (by exact fd_set4 HK1.out _ _ _ _) Tryz.underlying48 rfl (by kernel_rfl)) rfl ?_
   exact ⟨.slice none 0 0,rfl,IsV.leaf _ _ _ rfl,(HE.out _ _ _ _).1,(HE.out _ _ _ _).2⟩
 subst he
 rw [if_neg (by simp)]
 have HN:=HV rfl
 clear HV h hin
 generalize zbE bs last at0=V at *
 obtain ⟨x,t,er⟩:=V
 unfold ValEnd pvA at HN
 dsimp only at HN ⊢
 have HS1:=Lib.hid (HS.out.mono HB1.out)
 go_enter Tryz.func36,Tryz.ntmps36
 go_upto_region 1 with fail
 obtain ⟨q,hq⟩:∃q,q=w.heap.size:=⟨_,rfl⟩
 rw [←hq] at HK1 ⊢
 have HQ:=Lib.hid (show w.heap.size≤q from Nat.le_of_eq hq.symm)
 have hpq:p≠q:=by omega
 clear hq hpw
 generalize w.alloc _=W1 at *
 obtain ⟨⟨c0,c1,c2,c3⟩,f0,f1,f2,f3⟩:=HS1.out.cells
 dsimp only at c1 c3
 have HK:Hid (S3 W1 p 0 (.slice a bs.length cap) p 1 (.int .i64 at0) p 2 (.bool last)):=Lib.hid ⟨c0,c1,c2⟩
 have HA1:=Lib.hid (fun o:Obj=>(zam W1 o).drew)
 have HA2:=Lib.hid (fun o:Obj=>HB1.out.trans ((HA1.out o).mono (show w.heap.size≤W1.heap.size from HB1.out.size)))
 go_wp2_with fail
 go_region_held3 (fun w' => w'.cell? ⟨p, 0, none⟩ = some (.slice a bs.length cap) ∧ w'.cell? ⟨p, 1, none⟩ = some (.int .i64 at0) ∧ w'.cell? ⟨p, 2, none⟩ = some (.bool last))
   ((show S3 _ p 0 (.slice a bs.length cap) p 1 (.int .i64 at0) p 2 (.bool last);(first
     | (with_reducible exact HK.out.drew)
     | (with_reducible exact HK.out)
     | (with_reducible exact (HK.out.alloc _).drew)
     | (with_reducible exact Hid.out (by assumption))
     | (with_reducible exact S3.alloc (Hid.out (by assumption)) _)
     | (with_reducible exact HST.out _ _ _ _))))
   ((go_at_call 55;first
     | ((with_reducible refine (HN.out _ HB1.out.drew).mono ?_);rintro e wN ⟨sl,rfl,hx,hbN⟩;obtain ⟨sa,sc,rfl,-,-,-⟩:=hx.len;have hbM:Below W1.heap.size W1 wN:=(Below.refl _ _).drew.trans hbN;have HSN:=Lib.hid (HK.out.below hbM))
     | ((with_reducible refine (HN.out _ (HA2.out _)).mono ?_);rintro e wN ⟨sl,rfl,hx,hbN⟩;obtain ⟨sa,sc,rfl,-,-,-⟩:=hx.len;have hbM:Below W1.heap.size W1 wN:=(HA1.out _).trans (hbN.mono (HA1.out _).size);have HSN:=Lib.hid (HK.out.below hbM);have HZ:=Lib.hid (zab hbN (zac (w:=W1) (b:=W1.heap.size) (.cells #[.int .i64 0,.int .i64 0,.string ⟨#[]⟩,.slice none 0 0] 48) rfl));obtain ⟨⟨z0,z1,z2,z3⟩,y0,y1,y2,y3⟩:=zae HZ.out;have HST:=Lib.hid (fun y0 y1 y2 y3=>S3.set4 HSN.out (Nat.ne_of_lt HS1.out.lt) y0 y1 y2 y3))))
 all_goals
   first
     | (obtain ⟨W2,hW2⟩:∃W2,W2=wN.alloc (.cells #[.int .i64 x.kind,.int .i64 x.n,.string (mkB x.s),.slice sa x.l.length sc] 48):=⟨_,rfl⟩
        rw [←hW2]
        have HT:=Lib.hid (show TvM W1 W2 wN.heap.size x (.slice sa x.l.length sc) from ⟨by rw [hW2];exact hbM.alloc hbM.size _,by rw [hW2];exact zac _ rfl,hbM.size,by rw [hW2];exact hx.below (zam _ _)⟩)
        obtain ⟨r2,hr2⟩:∃r2,r2=wN.heap.size:=⟨_,rfl⟩
        rw [←hr2] at HT ⊢)
     | (obtain ⟨W2,hW2⟩:∃W2,W2=((((wN.setCell ⟨W1.heap.size,0,none⟩ (.int .i64 x.kind)).setCell ⟨W1.heap.size,1,none⟩ (.int .i64 x.n)).setCell ⟨W1.heap.size,2,none⟩ (.string (mkB x.s))).setCell ⟨W1.heap.size,3,none⟩ (.slice sa x.l.length sc)):=⟨_,rfl⟩
        rw [←hW2]
        have HT:=Lib.hid (show TvM W1 W2 W1.heap.size x (.slice sa x.l.length sc) from ⟨by rw [hW2];exact (((hbM.setCell (Nat.le_refl _) _).setCell (Nat.le_refl _) _).setCell (Nat.le_refl _) _).setCell (Nat.le_refl _) _,by rw [hW2];exact fd_set4 HZ.out _ _ _ _,Nat.le_refl _,by rw [hW2];exact (fd_beside (hx.weaken (G:=fun b=>W1.heap.size+1≤b) fun b hb=>by have h2:(W1.alloc (.cells #[.int .i64 0,.int .i64 0,.string ⟨#[]⟩,.slice none 0 0] 48)).heap.size≤b:=hb;rw [zas] at h2;exact h2) (Q:=W1.heap.size+1) (B:=W1.heap.size) (Nat.lt_succ_self _) _ _ _ _).weaken (fun b hb=>Nat.le_of_succ_le hb)⟩)
        clear z0 z1 z2 z3 y0 y1 y2 y3 HZ HST
        obtain ⟨r2,hr2⟩:∃r2,r2=W1.heap.size:=⟨_,rfl⟩
        rw [←hr2] at HT ⊢)
   clear hW2 hr2 hbN hbM HSN
   have HS2:=Lib.hid (HS1.out.mono HT.out.bel)
   have HQ2:=Lib.hid (zab HT.out.bel HK1.out)
   have hqW:q<W1.heap.size:=zaj HK1.out
   have hpW:p<W1.heap.size:=HS1.out.lt
   have hp2:p≠r2:=by have:=HT.out.new;omega
   have hq2:q≠r2:=by have:=HT.out.new;omega
   have HB2:=Lib.hid (HB1.out.trans (HT.out.bel.mono HB1.out.size))
   have HE := Lib.hid (fun y0 y1 y2 y3 => show IsFd w0 ((((((W2.setCell ⟨p, 1, none⟩ (.int .i64 t)).setCell ⟨p, 3, none⟩ (.int .i64 er)).setCell ⟨q, 0, none⟩ y0).setCell ⟨q, 1, none⟩ y1).setCell ⟨q, 2, none⟩ y2).setCell ⟨q, 3, none⟩ y3) p a cap bs last (t, er) ∧ zak (fun b => b = p) w ((((((W2.setCell ⟨p, 1, none⟩ (.int .i64 t)).setCell ⟨p, 3, none⟩ (.int .i64 er)).setCell ⟨q, 0, none⟩ y0).setCell ⟨q, 1, none⟩ y1).setCell ⟨q, 2, none⟩ y2).setCell ⟨q, 3, none⟩ y3) ∧ IsV ((((((W2.setCell ⟨p, 1, none⟩ (.int .i64 t)).setCell ⟨p, 3, none⟩ (.int .i64 er)).setCell ⟨q, 0, none⟩ y0).setCell ⟨q, 1, none⟩ y1).setCell ⟨q, 2, none⟩ y2).setCell ⟨q, 3, none⟩ y3) (fun b => w.heap.size ≤ b) x (.slice sa x.l.length sc) ∧
       ((((((W2.setCell ⟨p,1,none⟩ (.int .i64 t)).setCell ⟨p,3,none⟩ (.int .i64 er)).setCell ⟨q,0,none⟩ y0).setCell ⟨q,1,none⟩ y1).setCell ⟨q,2,none⟩ y2).setCell ⟨q,3,none⟩ y3).heap[q]?=some (.cells #[y0,y1,y2,y3] 48 (0,0))
     from ⟨(HS2.out.set t er).set4 hpq (Nat.le_trans HS.out.bel.size HQ.out) y0 y1 y2 y3, za6 (((zaZ HB2.out : zak (fun b => b = p) w W2).setCell (a := ⟨p, 1, none⟩) (.inl rfl) _).setCell (a := ⟨p, 3, none⟩) (.inl rfl) _) HQ.out y0 y1 y2 y3, (fd_beside (fd_beside2 HT.out.val hpW _ _) hqW y0 y1 y2 y3).weaken (fun b hb => Nat.le_trans HB1.out.size hb),
       fd_set4 ((heap_setCell_other _ _ _ _ (Ne.symm hpq)).trans ((heap_setCell_other _ _ _ _ (Ne.symm hpq)).trans HQ2.out)) y0 y1 y2 y3⟩)
   clear c0 c1 c2 c3 f0 f1 f2 f3 hqW hpW
   obtain ⟨⟨c0,c1,c2,c3⟩,f0,f1,f2,f3⟩:=HS2.out.cells
   dsimp only at c1 c3
   obtain ⟨⟨t0,t1,t2,t3⟩,g0,g1,g2,g3⟩:=zae HQ2.out
   obtain ⟨⟨k0,k1,k2,k3⟩,-⟩:=zae HT.out.blk
   generalize hxk:x.kind=xk at *
   generalize hxn:x.n=xn at *
   generalize hxs:mkB x.s=xs at *
   have HXX:=Lib.hid (show pvA x (.slice sa x.l.length sc)=.agg #[.int .i64 xk,.int .i64 xn,.string xs,.slice sa x.l.length sc] from by rw [←hxk,←hxn,←hxs];rfl)
   clear HS HS1 HS2 HT HQ2 HK HN HB1 HB2 HK1 hxk hxn hxs HA1 HA2
   generalize x.l.length=xl at *
   go_wp2_with fail
   refine bodyPost_ret (results_cell_row rfl _ _ q 48 _ (0,0) _ rfl (by exact (HE.out _ _ _ _).2.2.2) Tryz.underlying48 rfl (by kernel_rfl)) rfl ?_
   exact ⟨.slice sa xl sc,by rw [HXX.out],(HE.out _ _ _ _).2.2.1,(HE.out _ _ _ _).1,(HE.out _ _ _ _).2.1⟩
end
end Go.Proofs.YtkhcjoomijkfbaaGreatDoor
namespace Go.Proofs.YtkhcjoomijkfbaaGreatDoor
open Go.RowKit
section
variable {w0 w w' : World} {p : Nat} {a : Option Addr} {cap : Nat} {bs : List UInt8} {last : Bool} {s : Int × Int}
theorem zeV {t : Int} (h : IsFd w0 w p a cap bs last (t, 0)) (e : Int) : Calls Tryz.prog 57 #[.pointer (some ⟨p, 0, none⟩), .int .i64 e] w fun x w' => x = .returned (.tuple #[]) ∧ IsFd w0 w' p a cap bs last (t, e) ∧ zak (fun b => b = p) w w' :=
 fail_any h e
def FsEnd (w0 w:World) (p:Nat) (a:Option Addr) (cap:Nat) (bs:List UInt8) (last:Bool) (B:Bool) (s:Int×Int) (e:Ending) (w':World):Prop :=
 e=.returned (.bool B)∧IsFd w0 w' p a cap bs last s∧zak (fun b=>b=p) w w'
theorem fstreams_any (h:IsFd w0 w p a cap bs last s):Calls Tryz.prog 37 #[.pointer (some ⟨p,0,none⟩)] w (FsEnd w0 w p a cap bs last (zeb bs last s).1 (zeb bs last s).2):=by
 obtain ⟨at0,er0⟩:=s
 have HN:=Lib.hid (fun (W:World) (hb:Below w.heap.size w W)=>zdq (h.bytes.mono hb) (by have:=h.small;omega) at0 last)
 have HS:=Lib.hid h
 have hpw:=h.lt
 unfold zeb FsEnd
 by_cases he:er0=0
 case neg =>
   rw [if_pos he]
   obtain ⟨⟨c0,c1,c2,c3⟩,f0,f1,f2,f3⟩:=h.cells
   dsimp only at c1 c3
   have e1:(er0==0)=false:=by rw [beq_eq_false_iff_ne];exact he
   have e2:(er0 != 0)=true:=by simp only [bne,e1,Bool.not_false]
   clear HN h he
   go_enter Tryz.func37,Tryz.ntmps37
   go_wp2_with fail
   go_ret
   exact ⟨rfl,HS.out,zak.refl _ _⟩
 subst he
 rw [if_neg (by simp)]
 dsimp only
 generalize zai bs at0 last=V at *
 obtain ⟨x,f,t,er⟩:=V
 unfold zax tokN at HN
 dsimp only at HN ⊢
 have q1:=zbI x.s zbN
 have q2:=zbI x.s zbw
 obtain ⟨E,hE⟩:∃E,E=strE (x,f,t,er):=⟨_,rfl⟩
 obtain ⟨B,hB⟩:∃B,B=decide (E=0∧x.s=zbw):=⟨_,rfl⟩
 rw [←hE,←hB]
 have hc:((er==0)=false∧E=er∧B=false)∨(er=0∧(x.kind==0)=true∧E=10∧B=false)∨(er=0∧(x.kind==0)=false∧(x.kind==6)=false∧E=18∧B=false) ∨
     (er=0∧(x.kind==0)=false∧(x.kind==6)=true∧decide (x.s=zbN)=true∧decide (x.s=zbw)=false∧E=0∧B=false) ∨
     (er=0∧(x.kind==0)=false∧(x.kind==6)=true∧decide (x.s=zbN)=false∧decide (x.s=zbw)=true∧E=0∧B=true) ∨
     (er=0∧(x.kind==0)=false∧(x.kind==6)=true∧decide (x.s=zbN)=false∧decide (x.s=zbw)=false∧E=18∧B=false):=by
   by_cases g1:er=0
   · have hE2 : E = strT x := by rw [hE]; unfold strE; rw [if_neg (by simp [g1])]
     unfold strT at hE2
     by_cases g2:x.kind=0
     · rw [if_pos g2] at hE2
       exact .inr (.inl ⟨g1,by rw [g2];rfl,hE2,by rw [hB,hE2];rfl⟩)
     · rw [if_neg g2] at hE2
       have k1:(x.kind==0)=false:=by rw [beq_eq_false_iff_ne];exact g2
       by_cases g3:x.kind=6
       · have k2 : (x.kind == 6) = true := by rw [g3]; rfl
         by_cases g4:x.s=zbN
         · have g5 : ¬ x.s = zbw := by rw [g4]; decide
           rw [if_pos ⟨g3,.inl g4⟩] at hE2
           exact .inr (.inr (.inr (.inl ⟨g1,k1,k2,decide_eq_true g4,decide_eq_false g5,hE2,by rw [hB];exact decide_eq_false fun h=>g5 h.2⟩)))
         · by_cases g5:x.s=zbw
           · rw [if_pos ⟨g3,.inr g5⟩] at hE2
             exact .inr (.inr (.inr (.inr (.inl ⟨g1,k1,k2,decide_eq_false g4,decide_eq_true g5,hE2,by rw [hB];exact decide_eq_true ⟨hE2,g5⟩⟩))))
           · rw [if_neg (by rintro ⟨-, h | h⟩; exact g4 h; exact g5 h)] at hE2
             exact .inr (.inr (.inr (.inr (.inr ⟨g1,k1,k2,decide_eq_false g4,decide_eq_false g5,hE2,by rw [hB];exact decide_eq_false fun h=>g5 h.2⟩))))
       · rw [if_neg (fun h => g3 h.1)] at hE2
         exact .inr (.inr (.inl ⟨g1,k1,by rw [beq_eq_false_iff_ne];exact g3,hE2,by rw [hB,hE2];rfl⟩))
   · have k : E = er := by rw [hE]; unfold strE; rw [if_pos g1]
     exact .inl ⟨by rw [beq_eq_false_iff_ne];exact g1,k,by rw [hB];exact decide_eq_false fun h=>g1 (k▸h.1)⟩
 have HC:=Lib.hid hc
 have HQ1:=Lib.hid q1
 have HQ2:=Lib.hid q2
 clear hc hE hB h q1 q2
 unfold zbN at HC HQ1
 unfold zbw at HC HQ2
 generalize decide (x.s=[101,110,100,111,98,106])=d1 at *
 generalize decide (x.s=[115,116,114,101,97,109])=d2 at *
 generalize x.kind=a0 at *
 generalize x.vk=a1 at *
 generalize x.vn=a2 at *
 generalize mkB x.vs=s1 at *
 generalize mkB x.s=s2 at *
 obtain ⟨⟨c0,c1,c2,c3⟩,f0,f1,f2,f3⟩:=HS.out.cells
 dsimp only at c1 c3
 have HA1:=Lib.hid (fun o:Obj=>(zam w o).drew)
 have HC0:Hid (S3 w p 0 (.slice a bs.length cap) p 1 (.int .i64 at0) p 2 (.bool last)):=Lib.hid ⟨c0,c1,c2⟩
 have hpr:p≠w.heap.size:=Nat.ne_of_lt hpw
 go_enter Tryz.func37,Tryz.ntmps37
 go_wp2_with fail
 go_region_held3 (fun w' => w'.cell? ⟨p, 0, none⟩ = some (.slice a bs.length cap) ∧ w'.cell? ⟨p, 1, none⟩ = some (.int .i64 at0) ∧ w'.cell? ⟨p, 2, none⟩ = some (.bool last))
   ((show S3 _ p 0 (.slice a bs.length cap) p 1 (.int .i64 at0) p 2 (.bool last);(first
     | (with_reducible exact HC0.out.drew)
     | (with_reducible exact HC0.out)
     | (with_reducible exact (HC0.out.alloc _).drew)
     | (with_reducible exact Hid.out (by assumption))
     | (with_reducible exact S3.alloc (Hid.out (by assumption)) _)
     | (with_reducible exact S3.set8 (Hid.out (by assumption)) hpr hpr hpr _ _ _ _ _ _ _ _))))
   ((go_at_call 56;first
     | ((with_reducible refine (HN.out _ (Below.refl _ _).drew).mono ?_);rintro e wN ⟨rfl,hbN⟩;have hbM:Below w.heap.size w wN:=(Below.refl _ _).drew.trans hbN;have HSN:=Lib.hid (HC0.out.below hbM))
     | ((with_reducible refine (HN.out _ (HA1.out _)).mono ?_);rintro e wN ⟨rfl,hbN⟩;have hbM:Below w.heap.size w wN:=(HA1.out _).trans (hbN.mono (HA1.out _).size);have HSN:=Lib.hid (HC0.out.below hbM);have HZ:=Lib.hid (zab hbN (zac (w:=w) (b:=w.heap.size) (.cells #[.int .i64 0,.int .i64 0,.int .i64 0,.int .i64 0,.int .i64 0,.string ⟨#[]⟩,.slice none 0 0,.string ⟨#[]⟩] 112) rfl));obtain ⟨⟨z0,z1,z2,z3,z4,z5,z6,z7⟩,y0,y1,y2,y3,y4,y5,y6,y7⟩:=zaf HZ.out)))
 all_goals
   first
     | (obtain ⟨W2,hW2⟩:∃W2,W2=wN.alloc (.cells #[.int .i64 a0,.int .i64 f,.int .i64 t,.int .i64 a1,.int .i64 a2,.string s1,.slice none 0 0,.string s2] 112):=⟨_,rfl⟩
        rw [←hW2]
        have HT:=Lib.hid (show TkM w W2 wN.heap.size #[.int .i64 a0,.int .i64 f,.int .i64 t,.int .i64 a1,.int .i64 a2,.string s1,.slice none 0 0,.string s2] from ⟨by rw [hW2];exact hbM.alloc hbM.size _,by rw [hW2];exact zac _ rfl,hbM.size⟩)
        obtain ⟨r2,hr2⟩:∃r2,r2=wN.heap.size:=⟨_,rfl⟩
        rw [←hr2] at HT ⊢)
     | (obtain ⟨W2,hW2⟩:∃W2,W2=((((((((wN.setCell ⟨w.heap.size,0,none⟩ (.int .i64 a0)).setCell ⟨w.heap.size,1,none⟩ (.int .i64 f)).setCell ⟨w.heap.size,2,none⟩ (.int .i64 t)).setCell ⟨w.heap.size,3,none⟩ (.int .i64 a1)).setCell ⟨w.heap.size,4,none⟩ (.int .i64 a2)).setCell ⟨w.heap.size,5,none⟩ (.string s1)).setCell ⟨w.heap.size,6,none⟩ (.slice none 0 0)).setCell ⟨w.heap.size,7,none⟩ (.string s2)):=⟨_,rfl⟩
        rw [←hW2]
        have HT:=Lib.hid (show TkM w W2 w.heap.size #[.int .i64 a0,.int .i64 f,.int .i64 t,.int .i64 a1,.int .i64 a2,.string s1,.slice none 0 0,.string s2] from ⟨by rw [hW2];exact zbk hbM (Nat.le_refl _) _ _ _ _ _ _ _ _,by rw [hW2];exact set8 HZ.out _ _ _ _ _ _ _ _,Nat.le_refl _⟩)
        clear z0 z1 z2 z3 z4 z5 z6 z7 y0 y1 y2 y3 y4 y5 y6 y7 HZ
        obtain ⟨r2,hr2⟩:∃r2,r2=w.heap.size:=⟨_,rfl⟩
        rw [←hr2] at HT ⊢)
   clear hW2 hr2 hbN hbM HSN
   have HS2:=Lib.hid (HS.out.mono HT.out.bel)
   have hp2:p≠r2:=by have:=HT.out.new;omega
   clear c0 c1 c2 c3 f0 f1 f2 f3 hpr
   obtain ⟨⟨c0,c1,c2,c3⟩,f0,f1,f2,f3⟩:=HS2.out.cells
   dsimp only at c1 c3
   obtain ⟨⟨k0,k1,k2,k3,k4,k5,k6,k7⟩,m0,m1,m2,m3,m4,m5,m6,m7⟩:=zaf HT.out.blk
   have HS3:=Lib.hid (HS2.out.set t er)
   have HK3:=Lib.hid (((zaZ HT.out.bel:zak (fun b=>b=p) w W2).setCell (a:=⟨p,1,none⟩) (.inl rfl) (.int .i64 t)).setCell (a:=⟨p,3,none⟩) (.inl rfl) (.int .i64 er))
   clear HN HC0 HT HS2 HA1 HS hpw
   rcases HC.out with ⟨g1,rfl,rfl⟩|⟨rfl,g2,rfl,rfl⟩|⟨rfl,g2,g3,rfl,rfl⟩|⟨rfl,g2,g3,rfl,rfl,rfl,rfl⟩|⟨rfl,g2,g3,rfl,rfl,rfl,rfl⟩|⟨rfl,g2,g3,rfl,rfl,rfl,rfl⟩
   case inl =>
     have g4:(E != 0)=true:=by simp only [bne,g1,Bool.not_false]
     go_wp2_with fail
     go_ret
     exact ⟨rfl,HS3.out,HK3.out⟩
   case inr.inl =>
     go_wp2_with (go_at_call 57;refine (zeV HS3.out 10).mono ?_;rintro e w4 ⟨rfl,hs4,hk4⟩;have HS4:=Lib.hid hs4;have HK4:=Lib.hid (HK3.out.trans hk4 fun _ h=>.inl h);obtain ⟨⟨d0,d1,d2,d3⟩,-⟩:=hs4.cells;clear hs4 hk4 d0 d1 d2)
     go_ret
     exact ⟨rfl,HS4.out,HK4.out⟩
   case inr.inr.inl =>
     have g4:(a0 != 6)=true:=by simp only [bne,g3,Bool.not_false]
     go_wp2_with (go_at_call 57;refine (zeV HS3.out 18).mono ?_;rintro e w4 ⟨rfl,hs4,hk4⟩;have HS4:=Lib.hid hs4;have HK4:=Lib.hid (HK3.out.trans hk4 fun _ h=>.inl h);obtain ⟨⟨d0,d1,d2,d3⟩,-⟩:=hs4.cells;clear hs4 hk4 d0 d1 d2)
     go_ret
     exact ⟨rfl,HS4.out,HK4.out⟩
   case inr.inr.inr.inl =>
     have g4:(a0 != 6)=false:=by simp only [bne,g3,Bool.not_true]
     have g5:=HQ1.out
     have g6:(s2.toList != [101,110,100,111,98,106])=false:=by simp only [bne,g5,Bool.not_true]
     have g7:=HQ2.out
     go_wp2_with fail
     go_ret
     exact ⟨rfl,HS3.out,HK3.out⟩
   case inr.inr.inr.inr.inl =>
     have g4:(a0 != 6)=false:=by simp only [bne,g3,Bool.not_true]
     have g5:=HQ1.out
     have g6:(s2.toList != [101,110,100,111,98,106])=true:=by simp only [bne,g5,Bool.not_false]
     have g7:=HQ2.out
     have g8:(s2.toList != [115,116,114,101,97,109])=false:=by simp only [bne,g7,Bool.not_true]
     go_wp2_with fail
     go_ret
     exact ⟨rfl,HS3.out,HK3.out⟩
   case inr.inr.inr.inr.inr =>
     have g4:(a0 != 6)=false:=by simp only [bne,g3,Bool.not_true]
     have g5:=HQ1.out
     have g6:(s2.toList != [101,110,100,111,98,106])=true:=by simp only [bne,g5,Bool.not_false]
     have g7:=HQ2.out
     have g8:(s2.toList != [115,116,114,101,97,109])=true:=by simp only [bne,g7,Bool.not_false]
     go_wp2_with (go_at_call 57;refine (zeV HS3.out 18).mono ?_;rintro e w4 ⟨rfl,hs4,hk4⟩;have HS4:=Lib.hid hs4;have HK4:=Lib.hid (HK3.out.trans hk4 fun _ h=>.inl h);obtain ⟨⟨d0,d1,d2,d3⟩,-⟩:=hs4.cells;clear hs4 hk4 d0 d1 d2)
     go_ret
     exact ⟨rfl,HS4.out,HK4.out⟩
end
end Go.Proofs.YtkhcjoomijkfbaaGreatDoor
namespace Go.Proofs.YtkhcjoomijkfbaaGreatDoor
open Go.RowKit
theorem zaJ {w:World} {b:Nat} {x0 x1 x2 x3 x4 x5:Value} {t:TypeId} (h:w.heap[b]?=some (.cells #[x0,x1,x2,x3,x4,x5] t (0,0))) :
   (w.cell? ⟨b,0,none⟩=some x0∧w.cell? ⟨b,1,none⟩=some x1∧w.cell? ⟨b,2,none⟩=some x2∧w.cell? ⟨b,3,none⟩=some x3∧w.cell? ⟨b,4,none⟩=some x4∧w.cell? ⟨b,5,none⟩=some x5) ∧
   (w.frozen? ⟨b,0,none⟩=false∧w.frozen? ⟨b,1,none⟩=false∧w.frozen? ⟨b,2,none⟩=false∧w.frozen? ⟨b,3,none⟩=false∧w.frozen? ⟨b,4,none⟩=false∧w.frozen? ⟨b,5,none⟩=false):=by
 refine ⟨⟨?_,?_,?_,?_,?_,?_⟩,frozen_of_row w b 0 _ _ h,frozen_of_row w b 1 _ _ h,frozen_of_row w b 2 _ _ h,frozen_of_row w b 3 _ _ h,frozen_of_row w b 4 _ _ h,frozen_of_row w b 5 _ _ h⟩
 all_goals (rw [cell_of_row w b _ _ _ _ h];rfl)
theorem set6 {w:World} {b:Nat} {x0 x1 x2 x3 x4 x5:Value} {t:TypeId} (h:w.heap[b]?=some (.cells #[x0,x1,x2,x3,x4,x5] t (0,0))) (y0 y1 y2 y3 y4 y5:Value) :
   ((((((w.setCell ⟨b,0,none⟩ y0).setCell ⟨b,1,none⟩ y1).setCell ⟨b,2,none⟩ y2).setCell ⟨b,3,none⟩ y3).setCell ⟨b,4,none⟩ y4).setCell ⟨b,5,none⟩ y5).heap[b]?=some (.cells #[y0,y1,y2,y3,y4,y5] t (0,0)):=by
 rw [heap_setCell_same _ _ 5 _ _ _ (heap_setCell_same _ _ 4 _ _ _ (heap_setCell_same _ _ 3 _ _ _ (heap_setCell_same _ _ 2 _ _ _ (heap_setCell_same _ _ 1 _ _ _ (heap_setCell_same w _ 0 _ _ _ h)))))];rfl
theorem zdT {W:World} {b r:Nat} (hb:b≠r) (y0 y1 y2 y3 y4 y5:Value) :
   ((((((W.setCell ⟨r,0,none⟩ y0).setCell ⟨r,1,none⟩ y1).setCell ⟨r,2,none⟩ y2).setCell ⟨r,3,none⟩ y3).setCell ⟨r,4,none⟩ y4).setCell ⟨r,5,none⟩ y5).heap[b]?=W.heap[b]?:=by
 rw [heap_setCell_other _ _ _ _ hb,heap_setCell_other _ _ _ _ hb,zaO hb]
theorem zdX {B:Nat} {w0 w:World} (h:Below B w0 w) {b:Nat} (hb:B≤b) (y0 y1 y2 y3 y4 y5:Value) :
   Below B w0 ((((((w.setCell ⟨b,0,none⟩ y0).setCell ⟨b,1,none⟩ y1).setCell ⟨b,2,none⟩ y2).setCell ⟨b,3,none⟩ y3).setCell ⟨b,4,none⟩ y4).setCell ⟨b,5,none⟩ y5) :=
 ((zad h hb y0 y1 y2 y3).setCell hb _).setCell hb _
theorem size_set6 (W:World) (r:Nat) (y0 y1 y2 y3 y4 y5:Value):((((((W.setCell ⟨r,0,none⟩ y0).setCell ⟨r,1,none⟩ y1).setCell ⟨r,2,none⟩ y2).setCell ⟨r,3,none⟩ y3).setCell ⟨r,4,none⟩ y4).setCell ⟨r,5,none⟩ y5).heap.size=W.heap.size:=by simp
def obC (v:PV) (sl:Value) (st:Bool) (d:ByteArray):Array Value:=#[.int .i64 v.kind,.int .i64 v.n,.string (mkB v.s),sl,.bool st,.string d]
theorem object_any (v : PV) (sl : Value) (w : World) (hs : ∃ a n c, sl = .slice a n c) : Calls Tryz.prog 35 #[pvA v sl] w fun e w' => e = .returned (.agg (obC v sl false ⟨#[]⟩)) ∧ Below w.heap.size w w' := by
 obtain ⟨a,n,c,rfl⟩:=hs
 have HB:=Lib.hid ((zam w (.cells #[.int .i64 v.kind,.int .i64 v.n,.string (mkB v.s),.slice a n c] 48)).alloc (by rw [zas];omega) (.cells #[.int .i64 v.kind,.int .i64 v.n,.string (mkB v.s),.slice a n c,.bool false,.string ⟨#[]⟩] 56))
 have HK:=Lib.hid (zac (w:=w.alloc (.cells #[.int .i64 v.kind,.int .i64 v.n,.string (mkB v.s),.slice a n c] 48)) (b:=w.heap.size+1) (.cells #[.int .i64 v.kind,.int .i64 v.n,.string (mkB v.s),.slice a n c,.bool false,.string ⟨#[]⟩] 56) (by rw [zas]))
 unfold pvA obC
 generalize v.kind=k at *
 generalize v.n=m at *
 generalize mkB v.s=s at *
 go_enter Tryz.func35,Tryz.ntmps35
 go_wp2
 refine bodyPost_ret (results_cell_row rfl _ _ (w.heap.size+1) 56 _ (0,0) _ rfl (by exact HK.out) Tryz.underlying56 rfl (by kernel_rfl)) rfl ?_
 exact ⟨rfl,HB.out⟩
def StEnd (w0 w:World) (p:Nat) (a:Option Addr) (cap:Nat) (bs:List UInt8) (last:Bool) (F:Nat→Prop) (v:PV) (at_:Int) (e:Ending) (w':World):Prop :=
 ∃ (v2 : PV) (sl2 : Value) (d : ByteArray) (at2 er : Int), e = .returned (.agg (obC v2 sl2 true d)) ∧ IsV w' (fun b => F b ∨ w.heap.size ≤ b) v2 sl2 ∧ (v2.kind = 7 → v2.l.length % 2 = 0) ∧ IsFd w0 w' p a cap bs last (at2, er) ∧ zak (fun b => b = p) w w' ∧
   ((zfu bs last v at_).2≠0→er=(zfu bs last v at_).2)∧((zfu bs last v at_).2=0→er=0∨er=18)
def StreamC (a:Option Addr) (cap:Nat) (bs:List UInt8) (last:Bool):Prop :=
 ∀(w0 w:World) (p:Nat) (at_:Int) (v:PV) (sl:Value) (F:Nat→Prop),IsFd w0 w p a cap bs last (at_,0)→0≤at_→at_≤bs.length→IsV w F v sl→¬F p→(v.kind=7→v.l.length % 2=0) →
   Calls Tryz.prog 38 #[.pointer (some ⟨p,0,none⟩),pvA v sl] w (StEnd w0 w p a cap bs last F v at_)
def zbM (w:World) (R:Int×Bool) (V:PV) (e:Ending) (w':World):Prop :=
 ∃(v:PV) (sl:Value) (st:Bool) (d:ByteArray) (n at_ er:Int),e=.returned (.tuple #[.int .i64 n,.agg (obC v sl st d),.int .i64 at_,.int .i64 er]) ∧
   IsV w' anyF v sl∧(v.kind=7→v.l.length % 2=0)∧Below w.heap.size w w' ∧
   (er=6↔R.1=6)∧(R=(0,false)→er=0∧st=false∧v=V)∧(R.1≠0∨R.2=true→er≠0∨st=true)
theorem zbM.bad {w w':World} {R:Int×Bool} {V:PV} {er:Int} (hb:Below w.heap.size w w') (h0:er≠0) (h6:er=6↔R.1=6) (hR:R.1≠0∨R.2=true):zbM w R V (.returned (.tuple #[.int .i64 0,.agg (obC PV.none (.slice none 0 0) false ⟨#[]⟩),.int .i64 0,.int .i64 er])) w' :=
 ⟨_,_,_,_,_,_,_,rfl,IsV.leaf _ _ _ rfl,fun h=>absurd h (by show ¬(0:Int)=7;omega),hb,h6,fun h=>(by subst h;rcases hR with h|h;exact absurd rfl h;cases h),fun _=>.inl h0⟩
theorem zaP {P:Program} {fn:Func} {p u z y:Tmp} {ty:TypeId} (h:fn.results=#[.tmp y,.cell p ty,.tmp u,.tmp z]) (tmps:Array Value) (w:World) (g:Nat) (t:TypeId) (cs:Array Value) (fr:Nat×Nat) (d:TypeDesc)
   (hp:tmps.getD p undef=.pointer (some ⟨g,0,none⟩)) (hg:w.heap[g]?=some (.cells cs t fr))
   (hu:P.underlying ty=some d) (hd:(match d with | .struct _ | .array _ _=>true|_=>false)=true) (hi:(P.info? ty).map (·.size)=some cs.size) (v v2 v3:Value) (hy:tmps.getD y undef=v3) (hv:tmps.getD u undef=v) (hv2:tmps.getD z undef=v2) :
   (results fn tmps).run P w=.ok (.tuple #[v3,.agg cs,v,v2]) w:=by
 simp only [Array.getD_eq_getD_getElem?] at hp hv hv2 hy
 simp [results,h,hp,hv,hv2,hy,asAddr,Result.andThen,run_loadVar_row w g t ty cs fr d hg hu hd hi]
structure FpM (w W:World) (q p:Nat) (a:Option Addr) (cap:Nat) (bs:List UInt8) (last:Bool) (s:Int×Int):Prop where
 fd:IsFd w W p a cap bs last s
 blk:W.heap[q]?=some (.cells #[.int .i64 0,.int .i64 0,.string ⟨#[]⟩,.slice none 0 0,.bool false,.string ⟨#[]⟩] 56 (0,0))
 new:w.heap.size≤q
 ne:q≠p
theorem FpM.next {w W W' : World} {q p : Nat} {a : Option Addr} {cap : Nat} {bs : List UInt8} {last : Bool} {s s' : Int × Int} (h : FpM w W q p a cap bs last s) (hf : IsFd w W' p a cap bs last s') (hk : zak (fun b => b = p) W W') : FpM w W' q p a cap bs last s' :=
 ⟨hf,(hk.block q (zaj h.blk) h.ne).trans h.blk,h.new,h.ne⟩
theorem FpM.mono {w W W':World} {q p:Nat} {a:Option Addr} {cap:Nat} {bs:List UInt8} {last:Bool} {s:Int×Int} (h:FpM w W q p a cap bs last s) (hb:Below W.heap.size W W'):FpM w W' q p a cap bs last s :=
 ⟨h.fd.mono hb,zab hb h.blk,h.new,h.ne⟩
theorem FpM.start {w:World} {a:Option Addr} {cap:Nat} {bs:List UInt8} {last:Bool} (hr:Row w 1 a bs.length cap (bs.map u8C)) (hn:bs.length≤399999) :
   FpM w ((w.alloc (.cells #[.int .i64 0,.int .i64 0,.string ⟨#[]⟩,.slice none 0 0,.bool false,.string ⟨#[]⟩] 56)).alloc (.cells #[.slice a bs.length cap,.int .i64 0,.bool last,.int .i64 0] 77)) w.heap.size (w.heap.size+1) a cap bs last (0,0) :=
 ⟨⟨zac _ (by rw [zas]),by omega,hr,(zam w _).alloc (by rw [zas];omega) _,hn⟩,zao _ (zac _ rfl),Nat.le_refl _,by omega⟩
theorem fd_drew {W:World} {q:Nat} {o:Obj} (h:W.heap[q]?=some o):W.drew.heap[q]?=some o:=h
def putO (W:World) (q:Nat) (y0 y1 y2 y3 y4 y5:Value):World:=(((((W.setCell ⟨q,0,none⟩ y0).setCell ⟨q,1,none⟩ y1).setCell ⟨q,2,none⟩ y2).setCell ⟨q,3,none⟩ y3).setCell ⟨q,4,none⟩ y4).setCell ⟨q,5,none⟩ y5
theorem FpM.put {w W:World} {q p:Nat} {a:Option Addr} {cap:Nat} {bs:List UInt8} {last:Bool} {s:Int×Int} (h:FpM w W q p a cap bs last s) (y0 y1 y2 y3 y4 y5:Value) :
   (putO W q y0 y1 y2 y3 y4 y5).drew.heap[q]?=some (.cells #[y0,y1,y2,y3,y4,y5] 56 (0,0))∧Below w.heap.size w (putO W q y0 y1 y2 y3 y4 y5).drew :=
 ⟨fd_drew (set6 h.blk y0 y1 y2 y3 y4 y5),(zdX h.fd.bel h.new y0 y1 y2 y3 y4 y5).drew⟩
theorem put_stays {W:World} {q:Nat} {F:Nat→Prop} (hF:∀b,F b→b≠q) (y0 y1 y2 y3 y4 y5:Value):za4 F W (putO W q y0 y1 y2 y3 y4 y5) :=
 ⟨Nat.le_of_eq (size_set6 W q y0 y1 y2 y3 y4 y5).symm,fun b _ hb=>zdT (hF b hb) y0 y1 y2 y3 y4 y5⟩
theorem put_val0 {W:World} {q:Nat} {F:Nat→Prop} {v:PV} {sl:Value} (h:IsV W F v sl) (hF:∀b,F b→b≠q) (y0 y1 y2 y3 y4 y5:Value):IsV (putO W q y0 y1 y2 y3 y4 y5) F v sl :=
 IsV.keep (put_stays hF y0 y1 y2 y3 y4 y5) (fun _ h=>h) v h
theorem zgj {W:World} {q:Nat} {F:Nat→Prop} {v:PV} {sl:Value} (h:IsV W F v sl) (hF:∀b,F b→b≠q) (y0 y1 y2 y3 y4 y5:Value):IsV (putO W q y0 y1 y2 y3 y4 y5).drew anyF v sl :=
 ((put_val0 h hF y0 y1 y2 y3 y4 y5).below (Below.refl _ _).drew).weaken fun _ _=>trivial
theorem FpM.other {w W:World} {q p:Nat} {a:Option Addr} {cap:Nat} {bs:List UInt8} {last:Bool} {s:Int×Int} (h:FpM w W q p a cap bs last s) {o:Nat} (hp:o≠p) (hq:o≠q) (ho:w.heap.size≤o) (y0 y1 y2 y3 y4 y5:Value) :
   FpM w (putO W o y0 y1 y2 y3 y4 y5) q p a cap bs last s :=
 ⟨⟨(zdT (Ne.symm hp) y0 y1 y2 y3 y4 y5).trans h.fd.blk,h.fd.new,h.fd.row,zdX h.fd.bel ho y0 y1 y2 y3 y4 y5,h.fd.small⟩,(zdT (Ne.symm hq) y0 y1 y2 y3 y4 y5).trans h.blk,h.new,h.ne⟩
mutual
theorem IsV.under {w : World} {F : Nat → Prop} : ∀ (v : PV) {sl : Value}, IsV w F v sl → IsV w (fun b => F b ∧ b < w.heap.size) v sl
 | .mk _ _ _ l, _, ⟨a, cap, cs, h, hr, hF, hs⟩ => ⟨a, cap, cs, h, hr, fun h0 x hx => ⟨hF h0 x hx, by
     obtain ⟨b,off,e,hlt,-⟩:=hr.2.2.2.2 h0
     rw [hx] at e
     cases e
     exact hlt⟩,IsVs.under l hs⟩
theorem IsVs.under {w : World} {F : Nat → Prop} : ∀ (l : List PV) {cs : List Value}, IsVs w F l cs → IsVs w (fun b => F b ∧ b < w.heap.size) l cs
 | [],_,h=>h
 | v::l,_,⟨sl,t,h,hv,ht⟩=>⟨sl,t,h,IsV.under v hv,IsVs.under l ht⟩
end
theorem zbM.good {w w':World} {R:Int×Bool} {v:PV} {sl:Value} (hb:Below w.heap.size w w') (hx:IsV w' anyF v sl) (hev:v.kind=7→v.l.length % 2=0) (hR:R=(0,false)) (n at_:Int) :
   zbM w R v (.returned (.tuple #[.int .i64 n,.agg (obC v sl false ⟨#[]⟩),.int .i64 at_,.int .i64 0])) w' :=
 ⟨v,sl,false,⟨#[]⟩,n,at_,0,rfl,hx,hev,hb,by rw [hR],fun _=>⟨rfl,rfl,rfl⟩,fun h=>by rw [hR] at h;rcases h with h|h;exact absurd rfl h;cases h⟩
theorem zbM.stm {w w':World} {R:Int×Bool} {V v:PV} {sl:Value} {d:ByteArray} {E:Int} (hb:Below w.heap.size w w') (hx:IsV w' anyF v sl) (hev:v.kind=7→v.l.length % 2=0) (hR:R=(E,true)) (h0:¬E=6) (n at_:Int) :
   zbM w R V (.returned (.tuple #[.int .i64 n,.agg (obC v sl true d),.int .i64 at_,.int .i64 0])) w' :=
 ⟨v,sl,true,d,n,at_,0,rfl,hx,hev,hb,(by rw [hR];exact ⟨fun h=>(by omega),fun h=>absurd h h0⟩),fun h=>(by rw [hR] at h;cases h),fun _=>.inr rfl⟩
theorem fparse_any {w:World} {a:Option Addr} {cap:Nat} {bs:List UInt8} {last:Bool} (hr:Row w 1 a bs.length cap (bs.map u8C)) (hn:bs.length≤399999) (HST:(frE bs last).1=true→StreamC a cap bs last) :
   Calls Tryz.prog 21 #[.slice a bs.length cap,.int .i64 0,.bool last] w (zbM w (frR bs last) (frD bs last).1):=by
 have HM:=Lib.hid (FpM.start (last:=last) hr hn)
 have i0:InB bs.length ((0,0):Int×Int):=fun _=>⟨Int.le_refl _,by show (0:Int)≤_;omega⟩
 have iA:InB bs.length (frA bs last).2:=numS_in i0
 have iB:InB bs.length (frB bs last).2:=numS_in iA
 have iC:InB bs.length (frC bs last):=wordS_in iB
 have iD:=valS_in (last:=last) iC
 have iE:=strmS_in (last:=last) iD.1
 have iD2:(frD bs last).1.kind=7→(frD bs last).1.l.length % 2=0:=iD.2
 have iE2:InB bs.length (frE bs last).2∧((frE bs last).1=true→(frE bs last).2.2=0):=iE
 have hA:numS bs last 1 4096 (0,0)=frA bs last:=rfl
 have hB:numS bs last 0 0 (frA bs last).2=frB bs last:=rfl
 have hC:zd6 bs last kObj (frB bs last).2=frC bs last:=rfl
 have hD:valS bs last (frC bs last)=frD bs last:=rfl
 have hE:zeb bs last (frD bs last).2=frE bs last:=rfl
 have hRR:frR bs last=if (frE bs last).1=true then ((zfu bs last (frD bs last).1 (frE bs last).2.1).2,true) else ((frE bs last).2.2,false):=rfl
 have HA:=Lib.hid hA
 have HB:=Lib.hid hB
 have HC:=Lib.hid hC
 have HD:=Lib.hid hD
 have HE:=Lib.hid hE
 have HR:=Lib.hid hRR
 have HIC:=Lib.hid iC
 have HID:=Lib.hid iD2
 have HIE:=Lib.hid iE2
 have HSS:=Lib.hid HST
 clear hA hB hC hD hE hRR hr hn i0 iA iB iC iD iE iD2 iE2 HST
 generalize frR bs last=R at *
 generalize frA bs last=SA at *
 generalize frB bs last=SB at *
 generalize frC bs last=SC at *
 generalize frD bs last=SD at *
 generalize frE bs last=SE at *
 go_enter Tryz.func21,Tryz.ntmps21
 go_upto_region 2 with fail
 obtain ⟨p,hp⟩:∃p,p=w.heap.size+1:=⟨_,rfl⟩
 rw [←hp] at HM ⊢
 obtain ⟨q,hq⟩:∃q,q=w.heap.size:=⟨_,rfl⟩
 rw [←hq] at HM ⊢
 clear hp hq
 generalize (w.alloc _).alloc _=W0 at *
 go_wp2_with fail
 refine (zeY HM.out.fd 1 4096).mono ?_
 rintro e w1 ⟨rfl,f1,k1⟩
 rw [HA.out] at f1
 rw [HA.out]
 have HM1:=Lib.hid (HM.out.next f1 k1)
 clear f1 k1 HM HA
 go_wp2_with fail
 refine (zeY HM1.out.fd 0 0).mono ?_
 rintro e w2 ⟨rfl,f2,k2⟩
 rw [HB.out] at f2
 have HM2:=Lib.hid (HM1.out.next f2 k2)
 clear f2 k2 HM1
 go_wp2_with fail
 refine (fword_any HM2.out.fd kObj).mono ?_
 rintro e w3 ⟨rfl,f3,k3⟩
 rw [HC.out] at f3
 have HM3:=Lib.hid (HM2.out.next f3 k3)
 clear f3 k3 HM2 HB HC
 go_wp2_with fail
 refine (fvalue_any HM3.out.fd HIC.out).mono ?_
 rintro e w4 hv
 rw [HD.out] at hv
 obtain ⟨sl,rfl,hx,f4,k4⟩:=hv
 have HM4:=Lib.hid (HM3.out.next f4 k4)
 have HX4:=Lib.hid (IsV.under _ hx)
 have HP3:=Lib.hid HM3.out.fd.lt
 have HQ3:=Lib.hid (zaj HM3.out.blk)
 obtain ⟨sa,sc,rfl,-,-,-⟩:=hx.len
 clear f4 k4 HM3 HIC HD hx
 go_wp2_with fail
 refine (object_any SD.1 (.slice sa SD.1.l.length sc) w4 ⟨_,_,_,rfl⟩).mono ?_
 rintro e w5 ⟨rfl,b5⟩
 have b6:=b5.alloc b5.size (.cells (obC SD.1 (.slice sa SD.1.l.length sc) false ⟨#[]⟩) 56)
 have HO6:=Lib.hid (zac (w:=w5) (b:=w5.heap.size) (.cells (obC SD.1 (.slice sa SD.1.l.length sc) false ⟨#[]⟩) 56) rfl)
 have HM6:=Lib.hid (HM4.out.mono b6)
 have HX6:=Lib.hid (show IsV _ (fun b=>w3.heap.size≤b∧b<w5.heap.size) SD.1 (.slice sa SD.1.l.length sc) from (HX4.out.below b6).weaken fun b hb=>⟨hb.1,Nat.lt_of_lt_of_le hb.2 b5.size⟩)
 have HN6:=Lib.hid (Nat.lt_of_lt_of_le HM4.out.fd.lt b5.size)
 have HN7:=Lib.hid (Nat.lt_of_lt_of_le (zaj HM4.out.blk) b5.size)
 clear b5 b6 HM4 HX4
 unfold obC at HO6 HM6 HX6 ⊢
 go_upto_region 6 with fail
 obtain ⟨o,ho⟩:∃o,o=w5.heap.size:=⟨_,rfl⟩
 rw [←ho] at HO6 HN6 HN7 HX6 ⊢
 clear ho
 generalize w5.alloc _=W6 at *
 go_wp2_with fail
 refine (fstreams_any HM6.out.fd).mono ?_
 rintro e w7 ⟨rfl,f7,k7⟩
 rw [HE.out] at f7
 rw [HE.out]
 have hop:o≠p:=Nat.ne_of_gt HN6.out
 have hoq:o≠q:=Nat.ne_of_gt HN7.out
 have HM7:=Lib.hid (HM6.out.next f7 k7)
 have HO7:=Lib.hid ((k7.block o (zaj HO6.out) hop).trans HO6.out)
 have HX7:=Lib.hid (IsV.keep (za4.of_keeps (F:=fun b=>w3.heap.size≤b∧b<o) k7 (fun b hb e=>by have h1:w3.heap.size≤b:=hb.1;have h2:=HP3.out;have h3:b=p:=e;omega)) (fun _ h=>h) _ HX6.out)
 clear f7 k7 HM6 HO6 HX6 HE
 obtain ⟨b7,at7,e7⟩:=SE
 dsimp only at *
 cases b7 with
 | true =>
   obtain rfl:e7=0:=HIE.out.2 rfl
   obtain ⟨i1,i2⟩:=HIE.out.1 rfl
   have HST:=Lib.hid (HSS.out rfl w w7 p at7 SD.1 (.slice sa SD.1.l.length sc) (fun b=>w3.heap.size≤b∧b<o) HM7.out.fd i1 i2 HX7.out (fun h=>by have:=HP3.out;have h2:=h.1;omega) HID.out)
   have HRR:=Lib.hid (HR.out.trans (if_pos rfl))
   clear HR HSS HIE i1 i2 HID HX7
   unfold StEnd at HST
   generalize (zfu bs last SD.1 at7).2=E at *
   obtain ⟨⟨o0,o1,o2,o3,o4,o5⟩,g0,g1,g2,g3,g4,g5⟩:=zaJ HO7.out
   unfold pvA at HST
   have HQ7:=Lib.hid (zaj HM7.out.blk)
   have HO77:=Lib.hid (zaj HO7.out)
   generalize SD.1.kind=xk at *
   generalize SD.1.n=xn at *
   generalize mkB SD.1.s=xs at *
   generalize SD.1.l.length=xl at *
   go_wp2_with fail
   refine HST.out.mono ?_
   rintro e w8 ⟨v2,sl2,d2,at8,e8,rfl,hx8,hev8,f8,k8,hE1,hE2⟩
   obtain ⟨ta,tc,rfl,-,-,-⟩:=hx8.len
   have HM8:=Lib.hid (HM7.out.next f8 k8)
   have HO8:=Lib.hid ((k8.block o (zaj HO7.out) hop).trans HO7.out)
   have HE1:=Lib.hid hE1
   have HE2:=Lib.hid hE2
   have HEV:=Lib.hid hev8
   have HOW:=Lib.hid (show w.heap.size≤o from Nat.le_trans HM7.out.new (by have:=HN7.out;omega))
   have HM9:=Lib.hid (HM8.out.other hop hoq HOW.out (.int .i64 v2.kind) (.int .i64 v2.n) (.string (mkB v2.s)) (.slice ta v2.l.length tc) (.bool true) (.string d2))
   have HO9:=Lib.hid (show (putO w8 o (.int .i64 v2.kind) (.int .i64 v2.n) (.string (mkB v2.s)) (.slice ta v2.l.length tc) (.bool true) (.string d2)).heap[o]?=_ from set6 HO8.out _ _ _ _ _ _)
   have HX9:=Lib.hid (put_val0 hx8 (q:=o) (fun b hb=>by have h1:=HO77.out;rcases hb with h|h;(have:=h.2;omega);(have h3:w7.heap.size≤b:=h;omega)) (.int .i64 v2.kind) (.int .i64 v2.n) (.string (mkB v2.s)) (.slice ta v2.l.length tc) (.bool true) (.string d2))
   clear o0 o1 o2 o3 o4 o5 g0 g1 g2 g3 g4 g5 hx8 hev8 f8 k8 hE1 hE2 HST HM7 HO7
   obtain ⟨⟨o0,o1,o2,o3,o4,o5⟩,g0,g1,g2,g3,g4,g5⟩:=zaJ HO8.out
   unfold obC
   clear HO8 HM8
   go_upto_region 8 with fail
   unfold putO at HM9 HO9 HX9
   generalize World.setCell _ _ _=W9 at *
   clear o0 o1 o2 o3 o4 o5 g0 g1 g2 g3 g4 g5
   obtain ⟨⟨c0,c1,c2,c3⟩,f0,f1,f2,f3⟩:=HM9.out.fd.cells
   obtain ⟨⟨o0,o1,o2,o3,o4,o5⟩,-⟩:=zaJ HO9.out
   obtain ⟨⟨z0,z1,z2,z3,z4,z5⟩,g0,g1,g2,g3,g4,g5⟩:=zaJ HM9.out.blk
   dsimp only at c1 c3
   have hqp:=HM9.out.ne
   by_cases he:e8=0
   · subst he
     have hE0:¬E=6:=fun h=>by have:=HE1.out (by omega);omega
     have HZ:=Lib.hid (HM9.out.put (.int .i64 v2.kind) (.int .i64 v2.n) (.string (mkB v2.s)) (.slice ta v2.l.length tc) (.bool true) (.string d2))
     have hxz:=zgj (q:=q) HX9.out (fun b hb=>by have h1:=HQ3.out;have h4:=HQ7.out;rcases hb with h|h;(have:=h.1;omega);(have h3:w7.heap.size≤b:=h;omega)) (.int .i64 v2.kind) (.int .i64 v2.n) (.string (mkB v2.s)) (.slice ta v2.l.length tc) (.bool true) (.string d2)
     have HFin:=Lib.hid (zbM.stm (R:=R) (V:=SD.1) (d:=d2) HZ.out.2 hxz HEV.out HRR.out hE0)
     unfold obC at HFin
     unfold putO at HZ HFin
     clear HO9 HX9 HM9 HRR HP3 HN6 HN7 hop hoq HQ3 hxz HE1 HE2 HEV HOW HQ7 HO77 hE0
     generalize v2.kind=yk at *
     generalize v2.n=yn at *
     generalize mkB v2.s=ys at *
     generalize v2.l.length=yl at *
     go_wp2_with fail
     go_region
     all_goals
       go_wp2_with fail
       refine bodyPost_ret (zaP rfl _ _ q 56 _ (0,0) _ rfl HZ.out.1 Tryz.underlying56 rfl (by kernel_rfl) _ _ _ rfl rfl rfl) rfl ?_
       exact HFin.out _ _
   · have e1 : (e8 == 0) = false := by rw [beq_eq_false_iff_ne]; exact he
     have e2:(e8 != 0)=true:=by simp only [bne,e1,Bool.not_false]
     have hE0:e8=6↔E=6:=by
       by_cases h:E=0
       · have:=HE2.out h
         omega
       · rw [HE1.out h]
     have HZ:=Lib.hid (HM9.out.put (.int .i64 0) (.int .i64 0) (.string ⟨#[]⟩) (.slice none 0 0) (.bool false) (.string ⟨#[]⟩))
     have HFin:=Lib.hid (zbM.bad (V:=SD.1) (R:=R) HZ.out.2 he (by rw [HRR.out];exact hE0) (by rw [HRR.out];exact .inr rfl))
     unfold obC at HFin
     unfold putO at HZ HFin
     clear HO9 HX9 HM9 HRR HP3 HN6 HN7 hop hoq HQ3 HE1 HE2 HEV HOW HQ7 HO77 hE0 o0 o1 o2 o3 o4 o5 he
     go_wp2_with fail
     go_region
     all_goals
       go_wp2_with fail
       refine bodyPost_ret (zaP rfl _ _ q 56 _ (0,0) _ rfl HZ.out.1 Tryz.underlying56 rfl (by kernel_rfl) _ _ _ rfl rfl rfl) rfl ?_
       exact HFin.out
 | false =>
   have HRR:=Lib.hid (HR.out.trans (if_neg (by simp)))
   clear HR HSS HIE
   obtain ⟨⟨c0,c1,c2,c3⟩,f0,f1,f2,f3⟩:=HM7.out.fd.cells
   obtain ⟨⟨o0,o1,o2,o3,o4,o5⟩,-⟩:=zaJ HO7.out
   obtain ⟨⟨z0,z1,z2,z3,z4,z5⟩,g0,g1,g2,g3,g4,g5⟩:=zaJ HM7.out.blk
   dsimp only at c1 c3
   have hqp:=HM7.out.ne
   by_cases he:e7=0
   · subst he
     have HZ:=Lib.hid (HM7.out.put (.int .i64 SD.1.kind) (.int .i64 SD.1.n) (.string (mkB SD.1.s)) (.slice sa SD.1.l.length sc) (.bool false) (.string ⟨#[]⟩))
     have hxz:=zgj (q:=q) HX7.out (fun b hb=>by have h1:w3.heap.size≤b:=hb.1;have h2:=HQ3.out;omega) (.int .i64 SD.1.kind) (.int .i64 SD.1.n) (.string (mkB SD.1.s)) (.slice sa SD.1.l.length sc) (.bool false) (.string ⟨#[]⟩)
     have HFin:=Lib.hid (zbM.good (R:=R) HZ.out.2 hxz HID.out HRR.out)
     unfold obC at HFin
     unfold putO at HZ HFin
     clear HO7 HX7 HM7 HRR HP3 HID HN6 HN7 hop hoq HQ3 hxz
     generalize SD.1.kind=xk at *
     generalize SD.1.n=xn at *
     generalize mkB SD.1.s=xs at *
     generalize SD.1.l.length=xl at *
     go_wp2_with fail
     go_region
     all_goals
       go_wp2_with fail
       refine bodyPost_ret (zaP rfl _ _ q 56 _ (0,0) _ rfl HZ.out.1 Tryz.underlying56 rfl (by kernel_rfl) _ _ _ rfl rfl rfl) rfl ?_
       exact HFin.out _ _
   · have e1 : (e7 == 0) = false := by rw [beq_eq_false_iff_ne]; exact he
     have e2:(e7 != 0)=true:=by simp only [bne,e1,Bool.not_false]
     have HZ:=Lib.hid (HM7.out.put (.int .i64 0) (.int .i64 0) (.string ⟨#[]⟩) (.slice none 0 0) (.bool false) (.string ⟨#[]⟩))
     have HFin:=Lib.hid (zbM.bad (V:=SD.1) (R:=R) HZ.out.2 he (by rw [HRR.out]) (by rw [HRR.out];exact .inl he))
     unfold obC at HFin
     unfold putO at HZ HFin
     clear HO7 HX7 HM7 HRR HP3 HID HN6 HN7 hop hoq HQ3 o0 o1 o2 o3 o4 o5 he
     go_wp2_with fail
     go_region
     all_goals
       go_wp2_with fail
       refine bodyPost_ret (zaP rfl _ _ q 56 _ (0,0) _ rfl HZ.out.1 Tryz.underlying56 rfl (by kernel_rfl) _ _ _ rfl rfl rfl) rfl ?_
       exact HFin.out
end Go.Proofs.YtkhcjoomijkfbaaGreatDoor
