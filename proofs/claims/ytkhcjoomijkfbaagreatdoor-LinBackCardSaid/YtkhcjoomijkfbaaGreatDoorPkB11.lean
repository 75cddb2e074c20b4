/-
  Our texts Dv2 to PsE, in one.
-/
import Derived.Test.YtkhcjoomijkfbaaGreatDoorPkB10
import Derived.Deep.RegionLaw
set_option maxRecDepth 8000
set_option maxHeartbeats 8000000
namespace Go.Proofs.YtkhcjoomijkfbaaGreatDoor
open Go.RowKit
theorem value_k0 {w:World} {a:Option Addr} {cap L:Nat} (last:Bool) (x:Tk) (f tt D:Int) (hk:x.kind=0) :
   Calls Tryz.prog 67 #[.slice a L cap,.agg (tokN x f tt),.bool last,.int .i64 D] w (zb1 w (PV.none,0,10)):=by
 unfold tokN
 rw [hk]
 clear hk
 generalize x.vk=xvk at *
 generalize x.vn=xvn at *
 generalize mkB x.vs=xvb at *
 generalize mkB x.s=xb at *
 go_enter Tryz.func67,Tryz.ntmps67
 obtain ⟨B,hB⟩:∃B,B=w.heap.size:=⟨_,rfl⟩
 have HM:=Lib.hid (DvM.start w #[.int .i64 0,.int .i64 f,.int .i64 tt,.int .i64 xvk,.int .i64 xvn,.string xvb,.slice none 0 0,.string xb] hB)
 go_upto_region 2 with fail
 rw [←hB]
 clear hB
 generalize ((w.alloc _).alloc _).alloc _=W1 at *
 obtain ⟨⟨k0,k1,k2,k3,k4,k5,k6,k7⟩,-⟩:=zaf HM.out.b0
 obtain ⟨⟨n0,n1,n2,n3⟩,-⟩:=zae HM.out.b2
 obtain ⟨⟨r0,r1,r2,r3⟩,rf0,rf1,rf2,rf3⟩:=zae HM.out.b1
 go_wp2
 refine bodyPost_ret (zah rfl _ _ (B+1) 48 _ (0,0) _ rfl (by exact set4 HM.out.b1 _ _ _ _) Tryz.underlying48 rfl (by exact zap) _ _ rfl rfl) rfl ?_
 exact zaD (R:=(PV.none,0,10)) rfl (HM.out.fin _ _ _ _)
theorem value_k3 {w:World} {a:Option Addr} {cap L:Nat} (last:Bool) (x:Tk) (f tt D:Int) (hk:x.kind=3) :
   Calls Tryz.prog 67 #[.slice a L cap,.agg (tokN x f tt),.bool last,.int .i64 D] w (zb1 w (PV.none,0,11)):=by
 unfold tokN
 rw [hk]
 clear hk
 generalize x.vk=xvk at *
 generalize x.vn=xvn at *
 generalize mkB x.vs=xvb at *
 generalize mkB x.s=xb at *
 go_enter Tryz.func67,Tryz.ntmps67
 obtain ⟨B,hB⟩:∃B,B=w.heap.size:=⟨_,rfl⟩
 have HM:=Lib.hid (DvM.start w #[.int .i64 3,.int .i64 f,.int .i64 tt,.int .i64 xvk,.int .i64 xvn,.string xvb,.slice none 0 0,.string xb] hB)
 go_upto_region 2 with fail
 rw [←hB]
 clear hB
 generalize ((w.alloc _).alloc _).alloc _=W1 at *
 obtain ⟨⟨k0,k1,k2,k3,k4,k5,k6,k7⟩,-⟩:=zaf HM.out.b0
 obtain ⟨⟨n0,n1,n2,n3⟩,-⟩:=zae HM.out.b2
 obtain ⟨⟨r0,r1,r2,r3⟩,rf0,rf1,rf2,rf3⟩:=zae HM.out.b1
 go_wp2
 refine bodyPost_ret (zah rfl _ _ (B+1) 48 _ (0,0) _ rfl (by exact set4 HM.out.b1 _ _ _ _) Tryz.underlying48 rfl (by exact zap) _ _ rfl rfl) rfl ?_
 exact zaD (R:=(PV.none,0,11)) rfl (HM.out.fin _ _ _ _)
theorem value_k5 {w:World} {a:Option Addr} {cap L:Nat} (last:Bool) (x:Tk) (f tt D:Int) (hk:x.kind=5) :
   Calls Tryz.prog 67 #[.slice a L cap,.agg (tokN x f tt),.bool last,.int .i64 D] w (zb1 w (PV.none,0,11)):=by
 unfold tokN
 rw [hk]
 clear hk
 generalize x.vk=xvk at *
 generalize x.vn=xvn at *
 generalize mkB x.vs=xvb at *
 generalize mkB x.s=xb at *
 go_enter Tryz.func67,Tryz.ntmps67
 obtain ⟨B,hB⟩:∃B,B=w.heap.size:=⟨_,rfl⟩
 have HM:=Lib.hid (DvM.start w #[.int .i64 5,.int .i64 f,.int .i64 tt,.int .i64 xvk,.int .i64 xvn,.string xvb,.slice none 0 0,.string xb] hB)
 go_upto_region 2 with fail
 rw [←hB]
 clear hB
 generalize ((w.alloc _).alloc _).alloc _=W1 at *
 obtain ⟨⟨k0,k1,k2,k3,k4,k5,k6,k7⟩,-⟩:=zaf HM.out.b0
 obtain ⟨⟨n0,n1,n2,n3⟩,-⟩:=zae HM.out.b2
 obtain ⟨⟨r0,r1,r2,r3⟩,rf0,rf1,rf2,rf3⟩:=zae HM.out.b1
 go_wp2
 refine bodyPost_ret (zah rfl _ _ (B+1) 48 _ (0,0) _ rfl (by exact set4 HM.out.b1 _ _ _ _) Tryz.underlying48 rfl (by exact zap) _ _ rfl rfl) rfl ?_
 exact zaD (R:=(PV.none,0,11)) rfl (HM.out.fin _ _ _ _)
theorem value_d2 {w:World} {a:Option Addr} {cap L:Nat} (last:Bool) (x:Tk) (f tt D:Int) (hk:x.kind=2) (hD:64≤D) :
   Calls Tryz.prog 67 #[.slice a L cap,.agg (tokN x f tt),.bool last,.int .i64 D] w (zb1 w (PV.none,0,15)):=by
 unfold tokN
 rw [hk]
 clear hk
 generalize x.vk=xvk at *
 generalize x.vn=xvn at *
 generalize mkB x.vs=xvb at *
 generalize mkB x.s=xb at *
 have d1:decide (64≤D)=true:=decide_eq_true hD
 clear hD
 go_enter Tryz.func67,Tryz.ntmps67
 obtain ⟨B,hB⟩:∃B,B=w.heap.size:=⟨_,rfl⟩
 have HM:=Lib.hid (DvM.start w #[.int .i64 2,.int .i64 f,.int .i64 tt,.int .i64 xvk,.int .i64 xvn,.string xvb,.slice none 0 0,.string xb] hB)
 go_upto_region 2 with fail
 rw [←hB]
 clear hB
 generalize ((w.alloc _).alloc _).alloc _=W1 at *
 obtain ⟨⟨k0,k1,k2,k3,k4,k5,k6,k7⟩,-⟩:=zaf HM.out.b0
 obtain ⟨⟨n0,n1,n2,n3⟩,-⟩:=zae HM.out.b2
 obtain ⟨⟨r0,r1,r2,r3⟩,rf0,rf1,rf2,rf3⟩:=zae HM.out.b1
 go_wp2
 refine bodyPost_ret (zah rfl _ _ (B+1) 48 _ (0,0) _ rfl (by exact set4 HM.out.b1 _ _ _ _) Tryz.underlying48 rfl (by exact zap) _ _ rfl rfl) rfl ?_
 exact zaD (R:=(PV.none,0,15)) rfl (HM.out.fin _ _ _ _)
theorem value_d4 {w:World} {a:Option Addr} {cap L:Nat} (last:Bool) (x:Tk) (f tt D:Int) (hk:x.kind=4) (hD:64≤D) :
   Calls Tryz.prog 67 #[.slice a L cap,.agg (tokN x f tt),.bool last,.int .i64 D] w (zb1 w (PV.none,0,15)):=by
 unfold tokN
 rw [hk]
 clear hk
 generalize x.vk=xvk at *
 generalize x.vn=xvn at *
 generalize mkB x.vs=xvb at *
 generalize mkB x.s=xb at *
 have d1:decide (64≤D)=true:=decide_eq_true hD
 clear hD
 go_enter Tryz.func67,Tryz.ntmps67
 obtain ⟨B,hB⟩:∃B,B=w.heap.size:=⟨_,rfl⟩
 have HM:=Lib.hid (DvM.start w #[.int .i64 4,.int .i64 f,.int .i64 tt,.int .i64 xvk,.int .i64 xvn,.string xvb,.slice none 0 0,.string xb] hB)
 go_upto_region 2 with fail
 rw [←hB]
 clear hB
 generalize ((w.alloc _).alloc _).alloc _=W1 at *
 obtain ⟨⟨k0,k1,k2,k3,k4,k5,k6,k7⟩,-⟩:=zaf HM.out.b0
 obtain ⟨⟨n0,n1,n2,n3⟩,-⟩:=zae HM.out.b2
 obtain ⟨⟨r0,r1,r2,r3⟩,rf0,rf1,rf2,rf3⟩:=zae HM.out.b1
 go_wp2
 refine bodyPost_ret (zah rfl _ _ (B+1) 48 _ (0,0) _ rfl (by exact set4 HM.out.b1 _ _ _ _) Tryz.underlying48 rfl (by exact zap) _ _ rfl rfl) rfl ?_
 exact zaD (R:=(PV.none,0,15)) rfl (HM.out.fin _ _ _ _)
theorem value_o2 {w:World} {a:Option Addr} {cap L:Nat} (last:Bool) (x:Tk) (f tt D:Int) (hk:x.kind=2) (hD:¬64≤D) (hD0:0≤D) {R:PV×Int×Int} (hA:∀W,Below w.heap.size w W→Calls Tryz.prog 109 #[.slice a L cap,.int .i64 tt,.bool last,.int .i64 (D+1)] W (zb1 W R)) :
   Calls Tryz.prog 67 #[.slice a L cap,.agg (tokN x f tt),.bool last,.int .i64 D] w (zb1 w R):=by
 unfold tokN
 rw [hk]
 clear hk
 generalize x.vk=xvk at *
 generalize x.vn=xvn at *
 generalize mkB x.vs=xvb at *
 generalize mkB x.s=xb at *
 have d1:decide (64≤D)=false:=decide_eq_false hD
 have d2:IntKind.i64.wrap (D+1)=D+1:=IntWalk.i64_in _ (by omega)
 have d3:D<64:=by omega
 have HA:=Lib.hid hA
 clear hD hA
 go_enter Tryz.func67,Tryz.ntmps67
 obtain ⟨B,hB⟩:∃B,B=w.heap.size:=⟨_,rfl⟩
 have HM:=Lib.hid (DvM.start w #[.int .i64 2,.int .i64 f,.int .i64 tt,.int .i64 xvk,.int .i64 xvn,.string xvb,.slice none 0 0,.string xb] hB)
 go_upto_region 2 with fail
 rw [←hB]
 clear hB
 generalize ((w.alloc _).alloc _).alloc _=W1 at *
 obtain ⟨⟨k0,k1,k2,k3,k4,k5,k6,k7⟩,-⟩:=zaf HM.out.b0
 obtain ⟨⟨n0,n1,n2,n3⟩,-⟩:=zae HM.out.b2
 obtain ⟨⟨r0,r1,r2,r3⟩,rf0,rf1,rf2,rf3⟩:=zae HM.out.b1
 go_wp2_with fail
 refine (HA.out _ HM.out.bel).mono ?_
 rintro e w4 ⟨sl,rfl,hV,hb⟩
 have HM4:=Lib.hid (HM.out.keep hb)
 obtain ⟨sa,sc,rfl,-⟩:=hV.len
 have HV:=Lib.hid hV
 have hlb:B+1<W1.heap.size:=zaj HM.out.b1
 have HL:=Lib.hid hlb
 have hwB:=HM.out.hB
 have HWB:=Lib.hid (show w.heap.size≤W1.heap.size by omega)
 clear hb hV HA k0 k1 k2 k3 k4 k5 k6 k7 n0 n1 n2 n3 r0 r1 r2 r3 rf0 rf1 rf2 rf3 hlb hwB
 obtain ⟨⟨r0,r1,r2,r3⟩,rf0,rf1,rf2,rf3⟩:=zae HM4.out.b1
 unfold pvA
 go_wp2
 refine bodyPost_ret (zah rfl _ _ (B+1) 48 _ (0,0) _ rfl (by exact set4 HM4.out.b1 _ _ _ _) Tryz.underlying48 rfl (by exact zap) _ _ rfl rfl) rfl ?_
 exact ⟨_,rfl,IsV.keep (F:=fun b=>W1.heap.size≤b) ⟨by rw [zaN];exact Nat.le_refl _,fun b _ hb=>zaO (by have:=HL.out;omega) _ _ _ _⟩ (fun b hb=>Nat.le_trans HWB.out hb) _ HV.out,HM4.out.fin _ _ _ _⟩
theorem value_o4 {w:World} {a:Option Addr} {cap L:Nat} (last:Bool) (x:Tk) (f tt D:Int) (hk:x.kind=4) (hD:¬64≤D) (hD0:0≤D) {R:PV×Int×Int} (hA:∀W,Below w.heap.size w W→Calls Tryz.prog 110 #[.slice a L cap,.int .i64 tt,.bool last,.int .i64 (D+1)] W (zb1 W R)) :
   Calls Tryz.prog 67 #[.slice a L cap,.agg (tokN x f tt),.bool last,.int .i64 D] w (zb1 w R):=by
 unfold tokN
 rw [hk]
 clear hk
 generalize x.vk=xvk at *
 generalize x.vn=xvn at *
 generalize mkB x.vs=xvb at *
 generalize mkB x.s=xb at *
 have d1:decide (64≤D)=false:=decide_eq_false hD
 have d2:IntKind.i64.wrap (D+1)=D+1:=IntWalk.i64_in _ (by omega)
 have d3:D<64:=by omega
 have HA:=Lib.hid hA
 clear hD hA
 go_enter Tryz.func67,Tryz.ntmps67
 obtain ⟨B,hB⟩:∃B,B=w.heap.size:=⟨_,rfl⟩
 have HM:=Lib.hid (DvM.start w #[.int .i64 4,.int .i64 f,.int .i64 tt,.int .i64 xvk,.int .i64 xvn,.string xvb,.slice none 0 0,.string xb] hB)
 go_upto_region 2 with fail
 rw [←hB]
 clear hB
 generalize ((w.alloc _).alloc _).alloc _=W1 at *
 obtain ⟨⟨k0,k1,k2,k3,k4,k5,k6,k7⟩,-⟩:=zaf HM.out.b0
 obtain ⟨⟨n0,n1,n2,n3⟩,-⟩:=zae HM.out.b2
 obtain ⟨⟨r0,r1,r2,r3⟩,rf0,rf1,rf2,rf3⟩:=zae HM.out.b1
 go_wp2_with fail
 refine (HA.out _ HM.out.bel).mono ?_
 rintro e w4 ⟨sl,rfl,hV,hb⟩
 have HM4:=Lib.hid (HM.out.keep hb)
 obtain ⟨sa,sc,rfl,-⟩:=hV.len
 have HV:=Lib.hid hV
 have hlb:B+1<W1.heap.size:=zaj HM.out.b1
 have HL:=Lib.hid hlb
 have hwB:=HM.out.hB
 have HWB:=Lib.hid (show w.heap.size≤W1.heap.size by omega)
 clear hb hV HA k0 k1 k2 k3 k4 k5 k6 k7 n0 n1 n2 n3 r0 r1 r2 r3 rf0 rf1 rf2 rf3 hlb hwB
 obtain ⟨⟨r0,r1,r2,r3⟩,rf0,rf1,rf2,rf3⟩:=zae HM4.out.b1
 unfold pvA
 go_wp2
 refine bodyPost_ret (zah rfl _ _ (B+1) 48 _ (0,0) _ rfl (by exact set4 HM4.out.b1 _ _ _ _) Tryz.underlying48 rfl (by exact zap) _ _ rfl rfl) rfl ?_
 exact ⟨_,rfl,IsV.keep (F:=fun b=>W1.heap.size≤b) ⟨by rw [zaN];exact Nat.le_refl _,fun b _ hb=>zaO (by have:=HL.out;omega) _ _ _ _⟩ (fun b hb=>Nat.le_trans HWB.out hb) _ HV.out,HM4.out.fin _ _ _ _⟩
def dctV (ps:List (PV×PV)):PV:=.mk 7 0 [] (zaQ ps)
theorem IsV.pair {w:World} {F:Nat→Prop} {ps:List (PV×PV)} {a:Option Addr} {n cap:Nat} (h:IsV w F (dctV ps) (.slice a n cap)) {j:Nat} {y:PV×PV} (hy:ps[j]?=some y) :
   ∃b off s1 s2,a=some ⟨b,off,none⟩∧IsV w F y.1 s1∧IsV w F y.2 s2 ∧
     w.cell? ⟨b,off+2 * j * 4,none⟩=some (.int .i64 y.1.kind)∧w.cell? ⟨b,off+2 * j * 4+1,none⟩=some (.int .i64 y.1.n)∧w.cell? ⟨b,off+2 * j * 4+2,none⟩=some (.string (mkB y.1.s))∧w.cell? ⟨b,off+2 * j * 4+3,none⟩=some s1 ∧
     w.cell? ⟨b,off+(2 * j+1) * 4,none⟩=some (.int .i64 y.2.kind)∧w.cell? ⟨b,off+(2 * j+1) * 4+1,none⟩=some (.int .i64 y.2.n)∧w.cell? ⟨b,off+(2 * j+1) * 4+2,none⟩=some (.string (mkB y.2.s))∧w.cell? ⟨b,off+(2 * j+1) * 4+3,none⟩=some s2:=by
 have hjl:=(List.getElem?_eq_some_iff.1 hy).1
 have hn:n=(zaQ ps).length:=by obtain ⟨a',cap',e,_⟩:=h.len;cases e;rfl
 obtain ⟨-,-,-,b,off,rfl,-,-,hx⟩:=h.at (by rw [hn,zcU];omega)
 obtain ⟨f1,f2⟩:=flat_at ps j y hy
 obtain ⟨s1,h1,c0,c1,c2,c3⟩:=hx _ _ f1
 obtain ⟨s2,h2,d0,d1,d2,d3⟩:=hx _ _ f2
 exact ⟨b,off,s1,s2,rfl,h1,h2,c0,c1,c2,c3,d0,d1,d2,d3⟩
def zfg (key:List UInt8) (ps:List (PV×PV)):Int:=if fIx key ps<ps.length then ((2 * fIx key ps:Nat):Int) else -1
theorem zgE {w:World} {F:Nat→Prop} {ps:List (PV×PV)} {sl:Value} (hv:IsV w F (dctV ps) sl) (h5:∀y∈ps,y.1.kind=5) (key:List UInt8) :
   Calls Tryz.prog 24 #[pvA (dctV ps) sl,.string (mkB key)] w fun e w'=>e=.returned (.int .i64 (zfg key ps))∧Below w.heap.size w w':=by
 obtain ⟨a1,cap1,e1,g1,g2,-⟩:=hv.len
 subst e1
 obtain ⟨N,hN⟩:∃N,N=(dctV ps).l.length:=⟨_,rfl⟩
 have hN2:N=2 * ps.length:=by rw [hN];exact zcU ps
 rw [←hN] at hv g1 ⊢
 have HA:=Lib.hid hv
 have m1:(N:Int)≤9223372036854775807:=by unfold maxLen at g2;omega
 have HNN:=Lib.hid hN2
 have H5:=Lib.hid h5
 obtain ⟨R,hR⟩:∃R,R=zfg key ps:=⟨_,rfl⟩
 have HR:=Lib.hid hR
 rw [←hR]
 unfold pvA
 rw [show (dctV ps).kind=7 from rfl,show (dctV ps).n=0 from rfl,show mkB (dctV ps).s=⟨#[]⟩ from rfl]
 have HE:=Lib.hid (fun (x:List UInt8)=>show ((mkB x).toList==(mkB key).toList)=decide (x=key) by rw [zaM key];exact zbI x key)
 clear hv hN hN2 h5 hR
 generalize mkB key=ks at *
 go_enter Tryz.func24,Tryz.ntmps24
 obtain ⟨B,hB⟩:∃B,B=w.heap.size:=⟨_,rfl⟩
 have HX1:=Lib.hid (zac (w:=w) (b:=B) (.cells #[.int .i64 7,.int .i64 0,.string ⟨#[]⟩,.slice a1 N cap1] 48) hB)
 have HW:=Lib.hid (zam w (.cells #[.int .i64 7,.int .i64 0,.string ⟨#[]⟩,.slice a1 N cap1] 48))
 go_wp2
 rw [←hB]
 clear hB
 generalize w.alloc _=W1 at *
 obtain ⟨⟨c0,c1,c2,c3⟩,-⟩:=zae HX1.out
 go_loopw [5] (fun vk wr=>∃j K:Nat,vk=.int .i64 K∧Hid (K=2 * j)∧K≤N∧wr=W1∧Hid (j≤fIx key ps)) (fun vk _=>N-(intOf vk).toNat)
 case atStart=>exact ⟨0,0,rfl,rfl,Nat.zero_le _,rfl,Nat.zero_le _⟩
 case round =>
   obtain ⟨j,K,rfl,HK,hK,hwr,HJ⟩:=hrel
   rw [hwr]
   clear hwr
   by_cases q1:K<N
   case neg =>
     have hd1:decide (K<N)=false:=decide_eq_false q1
     have hd2:decide ((K:Int)<(N:Int))=false:=decide_eq_false (by omega)
     have hq2:¬(K:Int)<(N:Int):=by omega
     have hr:R=-1:=by
       rw [HR.out]
       unfold zfg
       have h1:=HK.out
       have h2:=HNN.out
       have h3:=HJ.out
       rw [if_neg (by omega)]
     subst hr
     clear HE H5 HK HJ HR
     go_wp2
     go_ret
     exact ⟨rfl,HW.out⟩
   have hjl:j<ps.length:=by
     have h1:=HK.out
     have h2:=HNN.out
     omega
   obtain ⟨y,hy⟩:∃y,ps[j]?=some y:=⟨_,List.getElem?_eq_getElem hjl⟩
   obtain ⟨b1,o1,sy,sz,rfl,-,-,y0,-,y2,-⟩:=(HA.out.below HW.out).pair hy
   rw [H5.out y (List.mem_of_getElem? hy),←HK.out] at y0
   rw [←HK.out] at y2
   have hE:=HE.out y.1.s
   have hNe:K+2≤N:=by have h1:=HK.out;have h2:=HNN.out;omega
   have hkl:(0:Int)≤(K:Int):=by omega
   have hki:(K:Int)<(N:Int):=by omega
   have hd1:decide (K<N)=true:=decide_eq_true q1
   have hd2:decide ((K:Int)<(N:Int))=true:=decide_eq_true hki
   by_cases hj:j=fIx key ps
   · have hs : y.1.s = key := fIx_eq key ps y (by rw [← hj]; exact hy)
     rw [decide_eq_true hs] at hE
     have hr:R=(K:Int):=by
       rw [HR.out]
       unfold zfg
       rw [if_pos (by omega),←hj,HK.out]
     subst hr
     generalize mkB y.1.s=ys at *
     clear HE H5 HK HJ HR hy hj hs hjl
     go_wp2
     go_ret
     exact ⟨rfl,HW.out⟩
   · have hj2 : j < fIx key ps := by have := HJ.out; omega
     have hs:y.1.s≠key:=fIx_ne key ps j y hj2 hy
     rw [decide_eq_false hs] at hE
     generalize mkB y.1.s=ys at *
     have HJ2:=Lib.hid hj2
     clear HE H5 HR hy hj hs hjl hj2
     go_wp2
     go_roundw
     case rel=>exact ⟨j+1,K+2,by go_num,by have:=HK.out;show K+2=2 * (j+1);omega,hNe,trivial,HJ2.out⟩
     case measure=>simp [intOf];omega
theorem one4 (k n:Int) (s:ByteArray) (a:Option Addr) (m c:Nat):∀u∈[Value.int .i64 k,.int .i64 n,.string s,.slice a m c],u.oneCell'=true:=by
 intro u hu
 simp at hu
 rcases hu with rfl|rfl|rfl|rfl<;>rfl
theorem one8 (k n:Int) (s:ByteArray) (a:Option Addr) (m c:Nat) (k2 n2:Int) (s2:ByteArray) (a2:Option Addr) (m2 c2:Nat):∀u∈[Value.int .i64 k,.int .i64 n,.string s,.slice a m c,.int .i64 k2,.int .i64 n2,.string s2,.slice a2 m2 c2],u.oneCell'=true:=by
 intro u hu
 simp at hu
 rcases hu with rfl|rfl|rfl|rfl|rfl|rfl|rfl|rfl<;>rfl
theorem zbs (w:World) (cs:Array Value) (e:TypeId) (n:Nat) (hn:cs.size=n):Row (w.alloc (.cells cs e)) n (some ⟨w.heap.size,0,none⟩) 1 1 cs.toList :=
 ⟨by simp [hn], Nat.le_refl _, by simp [maxLen], fun h => (by cases h), fun _ => ⟨w.heap.size, 0, rfl, by rw [zas]; omega, fun j u hj => by
   rw [Nat.zero_add,cell_of_row _ _ _ _ _ _ (zac _ rfl)];simpa using hj⟩⟩
theorem row_newM2 (w:World) (cs:Array Value) (e:TypeId) (hn:cs.size=8):Row (w.alloc (.cells cs e)) 4 (some ⟨w.heap.size,0,none⟩) 2 2 cs.toList :=
 ⟨by simp [hn], Nat.le_refl _, by simp [maxLen], fun h => (by cases h), fun _ => ⟨w.heap.size, 0, rfl, by rw [zas]; omega, fun j u hj => by
   rw [Nat.zero_add,cell_of_row _ _ _ _ _ _ (zac _ rfl)];simpa using hj⟩⟩
theorem put_fin {w wr W:World} {F:Nat→Prop} {L:List PV} {v:Value} {n:Nat} {cs:List Value} {Q:Nat} (hO:wr.ownsRow Q 48 4 v n cs) (hVs:IsVs w F L cs) (hQ:w.heap.size≤Q) (hk:∀b,Q≤b→W.heap[b]?=wr.heap[b]?) (hb:Below w.heap.size w W) (k:Int) :
   IsV W (fun b=>F b∨w.heap.size≤b) (.mk k 0 [] L) v:=by
 obtain ⟨a,cap,rfl,hr,hbase⟩:=Row.of_owns (zby hO (w':=W) (fun b hb=>hk b (hO.lt b hb).1))
 have h1:=hVs.length
 have h2:cs.length=n * 4:=hr.1
 have h3:n=L.length:=by omega
 subst h3
 exact IsV.mk (v:=.mk k 0 [] L) hr (fun _ x hx=>.inr (Nat.le_trans hQ (hbase x hx))) (IsVs.keep (za4.of_below hb) (fun b h=>.inl h) _ hVs)
structure PutM (w W:World) (B:Nat) (dc xc:Array Value):Prop where
 b0:W.heap[B]?=some (.cells dc 48 (0,0))
 b1:W.heap[B+1]?=some (.cells xc 48 (0,0))
 b2:W.heap[B+1+1]?=some (.cells #[.int .i64 0,.int .i64 0,.string ⟨#[]⟩,.slice none 0 0] 48 (0,0))
 bel:Below w.heap.size w W
 hB:B=w.heap.size
theorem PutM.keep {w W W':World} {B:Nat} {dc xc:Array Value} (h:PutM w W B dc xc) (hb:Below W.heap.size W W'):PutM w W' B dc xc :=
 ⟨zab hb h.b0,zab hb h.b1,zab hb h.b2,h.bel.trans (hb.mono h.bel.size),h.hB⟩
def PairAt (w:World) (b o K:Nat) (yk yn:Int) (ys:ByteArray) (yv:Value) (zk zn:Int) (zs:ByteArray) (zv:Value):Prop :=
 (w.cell? ⟨b,o+K * 4,none⟩=some (.int .i64 yk)∧w.cell? ⟨b,o+K * 4+1,none⟩=some (.int .i64 yn)∧w.cell? ⟨b,o+K * 4+2,none⟩=some (.string ys)∧w.cell? ⟨b,o+K * 4+3,none⟩=some yv) ∧
 (w.cell? ⟨b,o+(K+1) * 4,none⟩=some (.int .i64 zk)∧w.cell? ⟨b,o+(K+1) * 4+1,none⟩=some (.int .i64 zn)∧w.cell? ⟨b,o+(K+1) * 4+2,none⟩=some (.string zs)∧w.cell? ⟨b,o+(K+1) * 4+3,none⟩=some zv)
theorem PairAt.keep {w W:World} {b o K:Nat} {yk yn:Int} {ys:ByteArray} {yv:Value} {zk zn:Int} {zs:ByteArray} {zv:Value} (h:PairAt w b o K yk yn ys yv zk zn zs zv) (hb:Below w.heap.size w W):PairAt W b o K yk yn ys yv zk zn zs zv :=
 let ⟨⟨a1,a2,a3,a4⟩,c1,c2,c3,c4⟩:=h
 ⟨⟨cell?_keep hb a1,cell?_keep hb a2,cell?_keep hb a3,cell?_keep hb a4⟩,cell?_keep hb c1,cell?_keep hb c2,cell?_keep hb c3,cell?_keep hb c4⟩
theorem zgD {w W2 wr:World} {B:Nat} {dc xc:Array Value} (h:PutM w W2 B dc xc) (hb:Below W2.heap.size W2 wr) (v y0 y1 y2 y3:Value) :
   Below w.heap.size w (((((wr.setCell ⟨B,3,none⟩ v).setCell ⟨B+1+1,0,none⟩ y0).setCell ⟨B+1+1,1,none⟩ y1).setCell ⟨B+1+1,2,none⟩ y2).setCell ⟨B+1+1,3,none⟩ y3) ∧
   (∀b,W2.heap.size≤b→(((((wr.setCell ⟨B,3,none⟩ v).setCell ⟨B+1+1,0,none⟩ y0).setCell ⟨B+1+1,1,none⟩ y1).setCell ⟨B+1+1,2,none⟩ y2).setCell ⟨B+1+1,3,none⟩ y3).heap[b]?=wr.heap[b]?) ∧
   (((((wr.setCell ⟨B,3,none⟩ v).setCell ⟨B+1+1,0,none⟩ y0).setCell ⟨B+1+1,1,none⟩ y1).setCell ⟨B+1+1,2,none⟩ y2).setCell ⟨B+1+1,3,none⟩ y3).heap[B+1+1]?=some (.cells #[y0,y1,y2,y3] 48 (0,0)):=by
 have h2:=h.keep hb
 have hB:=h.hB
 have hl:=zaj h.b2
 refine ⟨zad (h2.bel.setCell (by show w.heap.size≤B;omega) _) (by omega) _ _ _ _,fun b hq=>?_,set4 ((heap_setCell_other _ _ _ _ (by show B+1+1≠B;omega)).trans h2.b2) _ _ _ _⟩
 rw [zaO (by omega),heap_setCell_other _ _ _ _ (by show b≠B;omega)]
theorem put_rep {w:World} {F:Nat→Prop} {ps:List (PV×PV)} {sl:Value} (hv:IsV w F (dctV ps) sl) (h5:∀y∈ps,y.1.kind=5) (key:List UInt8) {x:PV} {sx:Value} (hx:IsV w F x sx) (hm:ps.length≤400000) (hh:fIx key ps<ps.length) :
   Calls Tryz.prog 147 #[pvA (dctV ps) sl,.string (mkB key),pvA x sx] w fun e w'=>∃s',e=.returned (pvA (dctV (repK (.mk 5 0 key [],x) ps)) s')∧IsV w' (fun b=>F b∨w.heap.size≤b) (dctV (repK (.mk 5 0 key [],x) ps)) s'∧Below w.heap.size w w':=by
 obtain ⟨a1,cap1,e1,g1,g2,-⟩:=hv.len
 subst e1
 obtain ⟨ax,cx,ex,-⟩:=hx.len
 subst ex
 have HFI:=Lib.hid (fun (W:World) (h:Below w.heap.size w W)=>zgE (hv.below h) h5 key)
 obtain ⟨N,hN⟩:∃N,N=(dctV ps).l.length:=⟨_,rfl⟩
 have hN2:N=2 * ps.length:=by rw [hN];exact zcU ps
 rw [←hN] at hv g1 HFI ⊢
 obtain ⟨A,hA⟩:∃A,A=zfg key ps:=⟨_,rfl⟩
 rw [←hA] at HFI
 have HA:=Lib.hid hv
 have m0:N≤800000:=by omega
 have m1:(N:Int)≤9223372036854775807:=by omega
 have HNN:=Lib.hid hN2
 have H5:=Lib.hid h5
 have HX:=Lib.hid hx
 have HHH:=Lib.hid hh
 obtain ⟨X,hX⟩:∃X:PV×PV,X=(.mk 5 0 key [],x):=⟨_,rfl⟩
 rw [←hX]
 unfold pvA at HFI ⊢
 rw [show (dctV ps).kind=7 from rfl,show (dctV ps).n=0 from rfl,show mkB (dctV ps).s=⟨#[]⟩ from rfl] at HFI ⊢
 obtain ⟨M,hM⟩:∃M,M=x.l.length:=⟨_,rfl⟩
 rw [←hM] at HX ⊢
 obtain ⟨xk,hxk⟩:∃k,k=x.kind:=⟨_,rfl⟩
 obtain ⟨xn,hxn⟩:∃k,k=x.n:=⟨_,rfl⟩
 obtain ⟨xs,hxs⟩:∃k,k=mkB x.s:=⟨_,rfl⟩
 rw [←hxk,←hxn,←hxs]
 have HXV:=Lib.hid (show ∀(l:List PV) (cs:List Value),IsVs w F l cs→IsVs w F (l++[x]) (cs++[.int .i64 xk,.int .i64 xn,.string xs,.slice ax M cx]) from fun l cs h=>by rw [hxk,hxn,hxs];exact h.snoc HX.out)
 have HST:=Lib.hid (fun (j:Nat) (y:PV×PV) (hy:ps[j]?=some y)=>show zaQ ((repK X ps).take (j+1))=zaQ ((repK X ps).take j)++[y.1,if j=fIx key ps then x else y.2] by subst hX;exact rep_step _ ps j y hy)
 have HRL:=Lib.hid (show (repK X ps).length=ps.length from rep_len X ps)
 obtain ⟨A',hA1,hA2⟩:∃A':Nat,A=(A':Int)∧A'=2 * fIx key ps:=⟨2 * fIx key ps,by rw [hA];unfold zfg;rw [if_pos hh],rfl⟩
 subst hA1
 have HA2:=Lib.hid hA2
 have hAd:decide ((A':Int)<0)=false:=decide_eq_false (by omega)
 have hA0:(0:Int)≤(A':Int):=by omega
 clear hA2
 generalize mkB key=ks at *
 clear hv hN hN2 h5 hx hh hA hX hM hxk hxn hxs HX g1 g2
 go_enter Tryz.func147,Tryz.ntmps147
 obtain ⟨B,hB⟩:∃B,B=w.heap.size:=⟨_,rfl⟩
 have HM0:=Lib.hid (show PutM w (((w.alloc (.cells #[.int .i64 7,.int .i64 0,.string ⟨#[]⟩,.slice a1 N cap1] 48)).alloc (.cells #[.int .i64 xk,.int .i64 xn,.string xs,.slice ax M cx] 48)).alloc (.cells #[.int .i64 0,.int .i64 0,.string ⟨#[]⟩,.slice none 0 0] 48)) B #[.int .i64 7,.int .i64 0,.string ⟨#[]⟩,.slice a1 N cap1] #[.int .i64 xk,.int .i64 xn,.string xs,.slice ax M cx] from
   ⟨zao _ (zao _ (zac _ hB)),zao _ (zac _ (by rw [zas,hB])),zac _ (by rw [zas,zas,hB]),zfn _ _ _ _,hB⟩)
 go_upto_region 1 with fail
 rw [←hB]
 clear hB
 generalize ((w.alloc _).alloc _).alloc _=W1 at *
 obtain ⟨⟨c0,c1,c2,c3⟩,-⟩:=zae HM0.out.b0
 go_wp2_with fail
 refine (HFI.out _ HM0.out.bel).mono ?_
 rintro e W2 ⟨rfl,hb2⟩
 have HM:=Lib.hid (HM0.out.keep hb2)
 clear hb2 c0 c1 c2 c3 HFI HM0
 go_wp2
 go_loopw [7,9,10] (fun vo vd vk wr=>∃(j K n:Nat) (cs:List Value),vd=.bool false∧vk=.int .i64 K∧Hid (K=2 * j)∧K≤N∧n≤K∧Hid (wr.ownsRow W2.heap.size 48 4 vo n cs)∧Hid (IsVs w F (zaQ ((repK X ps).take j)) cs)∧Hid (Below W2.heap.size W2 wr)) (fun _ _ vk _=>N-(intOf vk).toNat)
 case atStart=>exact ⟨0,0,0,[],rfl,rfl,rfl,Nat.zero_le _,Nat.le_refl _,World.ownsRow_nil _ _ _ _,rfl,Below.refl _ _⟩
 case round =>
   obtain ⟨j,K,n,cs,rfl,rfl,HK,hK,hn,HO,HV,HB⟩:=hrel
   by_cases q1:K<N
   case neg =>
     have hd1:decide (K<N)=false:=decide_eq_false q1
     have hd2:decide ((K:Int)<(N:Int))=false:=decide_eq_false (by omega)
     have hq2:¬(K:Int)<(N:Int):=by omega
     have hfl:zaQ ((repK X ps).take j)=zaQ (repK X ps):=by
       rw [List.take_of_length_le (by have h1:=HK.out;have h2:=HNN.out;have h3:=HRL.out;omega)]
     have HV2:=Lib.hid (hfl▸HV.out)
     obtain ⟨⟨c0,c1,c2,c3⟩,fz0,fz1,fz2,fz3⟩:=zae (HM.out.keep HB.out).b0
     obtain ⟨⟨d0,d1,d2,d3⟩,-⟩:=zae (HM.out.keep HB.out).b1
     obtain ⟨⟨x0,x1,x2,x3⟩,gz0,gz1,gz2,gz3⟩:=zae (HM.out.keep HB.out).b2
     clear hfl HK HST HA2 HHH HV HNN HRL
     obtain ⟨va,vc,hve,-⟩:=zbi HO.out
     subst hve
     go_wp2
     obtain ⟨e1,e2,e3⟩:=zgD HM.out HB.out (.slice va n vc) (.int .i64 7) (.int .i64 0) (.string ⟨#[]⟩) (.slice va n vc)
     refine bodyPost_ret (results_cell_row rfl _ _ (B+1+1) 48 _ (0,0) _ rfl (by exact e3) Tryz.underlying48 rfl (by exact zap)) rfl ?_
     exact ⟨(.slice va n vc),rfl,put_fin HO.out HV2.out HM.out.bel.size e2 e1 7,e1⟩
   have hjl:j<ps.length:=by
     have h1:=HK.out
     have h2:=HNN.out
     omega
   obtain ⟨y,hy⟩:∃y,ps[j]?=some y:=⟨_,List.getElem?_eq_getElem hjl⟩
   obtain ⟨b1,o1,sy,sz,rfl,hvy,hvz,y0,y1,y2,y3,z0,z1,z2,z3⟩:=HA.out.pair hy
   obtain ⟨ya,yc,rfl,-⟩:=hvy.len
   obtain ⟨za,zc,rfl,-⟩:=hvz.len
   rw [←HK.out] at y0 y1 y2 y3 z0 z1 z2 z3
   rw [H5.out y (List.mem_of_getElem? hy)] at y0
   have HP:=Lib.hid (show PairAt w b1 o1 K 5 y.1.n (mkB y.1.s) (.slice ya y.1.l.length yc) y.2.kind y.2.n (mkB y.2.s) (.slice za y.2.l.length zc) from ⟨⟨y0,y1,y2,y3⟩,z0,z1,z2,z3⟩)
   clear y0 y1 y2 y3 z0 z1 z2 z3
   have HYV:=Lib.hid (show ∀(l:List PV) (cs:List Value),IsVs w F l cs→IsVs w F (l++[y.1]) (cs++[.int .i64 5,.int .i64 y.1.n,.string (mkB y.1.s),.slice ya y.1.l.length yc]) from fun l cs h=>by have h2:=h.snoc hvy;unfold pvC at h2;rw [H5.out y (List.mem_of_getElem? hy)] at h2;exact h2)
   have HZV:=Lib.hid (show ∀(l:List PV) (cs:List Value),IsVs w F l cs→IsVs w F (l++[y.2]) (cs++[.int .i64 y.2.kind,.int .i64 y.2.n,.string (mkB y.2.s),.slice za y.2.l.length zc]) from fun l cs h=>h.snoc hvz)
   have hkl:(0:Int)≤(K:Int):=by omega
   have hki:(K:Int)<(N:Int):=by omega
   have hd1:decide (K<N)=true:=decide_eq_true q1
   have hd2:decide ((K:Int)<(N:Int))=true:=decide_eq_true hki
   have hNe:K+2≤N:=by have h1:=HK.out;have h2:=HNN.out;omega
   have hkl1:(0:Int)≤(K:Int)+1:=by omega
   have hki1:(K:Int)+1<(N:Int):=by omega
   have hd3:decide ((K:Int)+1<(N:Int))=true:=decide_eq_true hki1
   have hkw:IntKind.i64.wrap ((K:Int)+1)=(K:Int)+1:=IntWalk.i64_in _ (by omega)
   have hkn:((K:Int)+1).toNat=K+1:=by omega
   have hst:=HST.out j y hy
   obtain ⟨⟨c0,c1,c2,c3⟩,fz0,fz1,fz2,fz3⟩:=zae (HM.out.keep HB.out).b0
   obtain ⟨⟨d0,d1,d2,d3⟩,-⟩:=zae (HM.out.keep HB.out).b1
   obtain ⟨⟨y0,y1,y2,y3⟩,z0,z1,z2,z3⟩:=HP.out.keep (HM.out.keep HB.out).bel
   by_cases hj:j=fIx key ps
   · rw [if_pos hj] at hst
     have hKA:K=A':=by have h1:=HA2.out;have h2:=HK.out;omega
     have hAe:((K:Int)==(A':Int))=true:=by rw [hKA];exact beq_self_eq_true _
     have hAf:decide (K=A')=true:=decide_eq_true hKA
     have HST2 := Lib.hid (show ∀ cs', IsVs w F (zaQ ((repK X ps).take j)) cs' → IsVs w F (zaQ ((repK X ps).take (j + 1))) ((cs' ++ [.int .i64 5, .int .i64 y.1.n, .string (mkB y.1.s), .slice ya y.1.l.length yc]) ++ [.int .i64 xk, .int .i64 xn, .string xs, .slice ax M cx]) from fun cs' h => by
       rw [hst]
       have h2:=HXV.out _ _ (HYV.out _ _ h)
       rwa [List.append_assoc] at h2)
     clear hst hvy hvz HYV HZV hKA hj hjl hy HST
     generalize y.1.n=yn at *
     generalize mkB y.1.s=ys at *
     generalize y.1.l.length=yl at *
     generalize y.2.kind=zk at *
     generalize y.2.n=zn at *
     generalize mkB y.2.s=zs at *
     generalize y.2.l.length=zl at *
     go_upto_region 13 with (at_builtin;refine zay EPV rfl _ _ rfl W2.heap.size _ n cs rfl (HO.out.alloc _) _ 1 _ _ rfl (zbs _ #[.int .i64 5,.int .i64 yn,.string ys,.slice ya yl yc] _ 4 rfl) (one4 _ _ _ _ _ _) (by unfold maxLen;omega) (by omega) (by rw [zas];have:=HB.out.size;omega) ?_;intro v5 w5 hO5 hg5 _;have HO5:=Lib.hid hO5;have HB5:=Lib.hid (show Below W2.heap.size W2 w5 from (HB.out.alloc HB.out.size _).grown hg5 (by rw [zas];have:=HB.out.size;omega) (fun q hq=>(HO.out.lt q hq).1));clear hO5 hg5)
     clear c0 c1 c2 c3 d0 d1 d2 d3 fz0 fz1 fz2 fz3 y0 y1 y2 y3 z0 z1 z2 z3
     obtain ⟨⟨c0,c1,c2,c3⟩,fz0,fz1,fz2,fz3⟩:=zae (HM.out.keep HB5.out).b0
     obtain ⟨⟨d0,d1,d2,d3⟩,-⟩:=zae (HM.out.keep HB5.out).b1
     obtain ⟨⟨y0,y1,y2,y3⟩,z0,z1,z2,z3⟩:=HP.out.keep (HM.out.keep HB5.out).bel
     go_wp2_with (at_builtin;refine zay EPV rfl _ _ rfl W2.heap.size v5 (n+1) _ rfl (HO5.out.alloc _) _ 1 _ _ rfl (zbs _ #[.int .i64 xk,.int .i64 xn,.string xs,.slice ax M cx] _ 4 rfl) (one4 _ _ _ _ _ _) (by unfold maxLen;omega) (by omega) (by rw [zas];have:=HB5.out.size;omega) ?_;intro v6 w6 hO6 hg6 _;have HO6:=Lib.hid hO6;have HB6:=Lib.hid (show Below W2.heap.size W2 w6 from (HB5.out.alloc HB5.out.size _).grown hg6 (by rw [zas];have:=HB5.out.size;omega) (fun q hq=>(HO5.out.lt q hq).1));clear hO6 hg6)
     go_roundw
     case rel=>exact ⟨j+1,K+2,n+1+1,_,rfl,by go_num,by have:=HK.out;show K+2=2 * (j+1);omega,hNe,by omega,HO6,Lib.hid (HST2.out _ HV.out),HB6⟩
     case measure=>simp [intOf];omega
   · rw [if_neg hj] at hst
     have hKA:K≠A':=by have h1:=HA2.out;have h2:=HK.out;omega
     have hAe:((K:Int)==(A':Int))=false:=by rw [beq_eq_false_iff_ne];omega
     have hAf:decide (K=A')=false:=decide_eq_false hKA
     have HST2 := Lib.hid (show ∀ cs', IsVs w F (zaQ ((repK X ps).take j)) cs' → IsVs w F (zaQ ((repK X ps).take (j + 1))) ((cs' ++ [.int .i64 5, .int .i64 y.1.n, .string (mkB y.1.s), .slice ya y.1.l.length yc]) ++ [.int .i64 y.2.kind, .int .i64 y.2.n, .string (mkB y.2.s), .slice za y.2.l.length zc]) from fun cs' h => by
       rw [hst]
       have h2:=HZV.out _ _ (HYV.out _ _ h)
       rwa [List.append_assoc] at h2)
     clear hst hvy hvz HYV HZV hKA hj hjl hy HST
     generalize y.1.n=yn at *
     generalize mkB y.1.s=ys at *
     generalize y.1.l.length=yl at *
     generalize y.2.kind=zk at *
     generalize y.2.n=zn at *
     generalize mkB y.2.s=zs at *
     generalize y.2.l.length=zl at *
     go_upto_region 13 with (at_builtin;refine zay EPV rfl _ _ rfl W2.heap.size _ n cs rfl (HO.out.alloc _) _ 1 _ _ rfl (zbs _ #[.int .i64 5,.int .i64 yn,.string ys,.slice ya yl yc] _ 4 rfl) (one4 _ _ _ _ _ _) (by unfold maxLen;omega) (by omega) (by rw [zas];have:=HB.out.size;omega) ?_;intro v5 w5 hO5 hg5 _;have HO5:=Lib.hid hO5;have HB5:=Lib.hid (show Below W2.heap.size W2 w5 from (HB.out.alloc HB.out.size _).grown hg5 (by rw [zas];have:=HB.out.size;omega) (fun q hq=>(HO.out.lt q hq).1));clear hO5 hg5)
     clear c0 c1 c2 c3 d0 d1 d2 d3 fz0 fz1 fz2 fz3 y0 y1 y2 y3 z0 z1 z2 z3
     obtain ⟨⟨c0,c1,c2,c3⟩,fz0,fz1,fz2,fz3⟩:=zae (HM.out.keep HB5.out).b0
     obtain ⟨⟨d0,d1,d2,d3⟩,-⟩:=zae (HM.out.keep HB5.out).b1
     obtain ⟨⟨y0,y1,y2,y3⟩,z0,z1,z2,z3⟩:=HP.out.keep (HM.out.keep HB5.out).bel
     go_wp2_with (at_builtin;refine zay EPV rfl _ _ rfl W2.heap.size v5 (n+1) _ rfl (HO5.out.alloc _) _ 1 _ _ rfl (zbs _ #[.int .i64 zk,.int .i64 zn,.string zs,.slice za zl zc] _ 4 rfl) (one4 _ _ _ _ _ _) (by unfold maxLen;omega) (by omega) (by rw [zas];have:=HB5.out.size;omega) ?_;intro v6 w6 hO6 hg6 _;have HO6:=Lib.hid hO6;have HB6:=Lib.hid (show Below W2.heap.size W2 w6 from (HB5.out.alloc HB5.out.size _).grown hg6 (by rw [zas];have:=HB5.out.size;omega) (fun q hq=>(HO5.out.lt q hq).1));clear hO6 hg6)
     go_roundw
     case rel=>exact ⟨j+1,K+2,n+1+1,_,rfl,by go_num,by have:=HK.out;show K+2=2 * (j+1);omega,hNe,by omega,HO6,Lib.hid (HST2.out _ HV.out),HB6⟩
     case measure=>simp [intOf];omega
theorem put_ins {w:World} {F:Nat→Prop} {ps:List (PV×PV)} {sl:Value} (hv:IsV w F (dctV ps) sl) (h5:∀y∈ps,y.1.kind=5) (key:List UInt8) {x:PV} {sx:Value} (hx:IsV w F x sx) (hm:ps.length≤400000) (hh:¬fIx key ps<ps.length) :
   Calls Tryz.prog 147 #[pvA (dctV ps) sl,.string (mkB key),pvA x sx] w fun e w'=>∃s',e=.returned (pvA (dctV (insK (.mk 5 0 key [],x) ps)) s')∧IsV w' (fun b=>F b∨w.heap.size≤b) (dctV (insK (.mk 5 0 key [],x) ps)) s'∧Below w.heap.size w w':=by
 obtain ⟨a1,cap1,e1,g1,g2,-⟩:=hv.len
 subst e1
 obtain ⟨ax,cx,ex,-⟩:=hx.len
 subst ex
 have HFI:=Lib.hid (fun (W:World) (h:Below w.heap.size w W)=>zgE (hv.below h) h5 key)
 obtain ⟨N,hN⟩:∃N,N=(dctV ps).l.length:=⟨_,rfl⟩
 have hN2:N=2 * ps.length:=by rw [hN];exact zcU ps
 rw [←hN] at hv g1 HFI ⊢
 obtain ⟨A,hA⟩:∃A,A=zfg key ps:=⟨_,rfl⟩
 rw [←hA] at HFI
 have HA:=Lib.hid hv
 have m0:N≤800000:=by omega
 have m1:(N:Int)≤9223372036854775807:=by omega
 have HNN:=Lib.hid hN2
 have H5:=Lib.hid h5
 have HX:=Lib.hid hx
 have HHH:=Lib.hid hh
 obtain ⟨X,hX⟩:∃X:PV×PV,X=(.mk 5 0 key [],x):=⟨_,rfl⟩
 rw [←hX]
 unfold pvA at HFI ⊢
 rw [show (dctV ps).kind=7 from rfl,show (dctV ps).n=0 from rfl,show mkB (dctV ps).s=⟨#[]⟩ from rfl] at HFI ⊢
 obtain ⟨M,hM⟩:∃M,M=x.l.length:=⟨_,rfl⟩
 rw [←hM] at HX ⊢
 obtain ⟨xk,hxk⟩:∃k,k=x.kind:=⟨_,rfl⟩
 obtain ⟨xn,hxn⟩:∃k,k=x.n:=⟨_,rfl⟩
 obtain ⟨xs,hxs⟩:∃k,k=mkB x.s:=⟨_,rfl⟩
 rw [←hxk,←hxn,←hxs]
 have HXV:=Lib.hid (show ∀(l:List PV) (cs:List Value),IsVs w F l cs→IsVs w F (l++[x]) (cs++[.int .i64 xk,.int .i64 xn,.string xs,.slice ax M cx]) from fun l cs h=>by rw [hxk,hxn,hxs];exact h.snoc HX.out)
 obtain rfl:A=-1:=by rw [hA];unfold zfg;rw [if_neg hh]
 have HS1:=Lib.hid (fun (j:Nat) (y:PV×PV) (hy:ps[j]?=some y) (hj:j≠gIx key ps)=>show zaQ (insT X ps (j+1))=zaQ (insT X ps j)++[y.1,y.2] by subst hX;exact insT_step _ ps j y hy hj)
 have HS2:=Lib.hid (fun (j:Nat) (y:PV×PV) (hy:ps[j]?=some y) (hj:j=gIx key ps)=>show zaQ (insT X ps (j+1))=zaQ (insT X ps j)++[PV.mk 5 0 key [],x,y.1,y.2] by subst hX;subst hj;exact insT_here _ ps y hy)
 have HSE:=Lib.hid (show insK X ps=if gIx key ps<ps.length then insT X ps ps.length else insT X ps ps.length++[(PV.mk 5 0 key [],x)] by subst hX;exact insT_end _ ps)
 have HKV:=Lib.hid (show ∀(l:List PV) (cs:List Value),IsVs w F l cs→IsVs w F (l++[PV.mk 5 0 key []]) (cs++[.int .i64 5,.int .i64 0,.string (mkB key),.slice none 0 0]) from fun l cs h=>h.snoc (IsV.leaf w F (PV.mk 5 0 key []) rfl))
 have HT0:=Lib.hid (show insT X ps 0=[] from insT_zero X ps)
 have HC1:=Lib.hid (fun (a:List UInt8)=>show Op.bytesLess (mkB key).toList (mkB a).toList=sLt key a by rw [zaM,zaM,zdy])
 have HC2:=Lib.hid (fun (a:List UInt8)=>show Op.bytesLess (mkB a).toList (mkB key).toList=sLt a key by rw [zaM,zaM,zdy])
 have HC3:=Lib.hid (fun (a:List UInt8)=>show ((mkB a).toList==(mkB key).toList)=decide (a=key) by rw [zaM key];exact zbI a key)
 have HC4:=Lib.hid (fun (a:List UInt8)=>show ((mkB key).toList==(mkB a).toList)=decide (key=a) by rw [zaM a];exact zbI key a)
 generalize mkB key=ks at *
 clear hv hN hN2 h5 hx hh hA hX hM hxk hxn hxs HX g1 g2
 go_enter Tryz.func147,Tryz.ntmps147
 obtain ⟨B,hB⟩:∃B,B=w.heap.size:=⟨_,rfl⟩
 have HM0:=Lib.hid (show PutM w (((w.alloc (.cells #[.int .i64 7,.int .i64 0,.string ⟨#[]⟩,.slice a1 N cap1] 48)).alloc (.cells #[.int .i64 xk,.int .i64 xn,.string xs,.slice ax M cx] 48)).alloc (.cells #[.int .i64 0,.int .i64 0,.string ⟨#[]⟩,.slice none 0 0] 48)) B #[.int .i64 7,.int .i64 0,.string ⟨#[]⟩,.slice a1 N cap1] #[.int .i64 xk,.int .i64 xn,.string xs,.slice ax M cx] from
   ⟨zao _ (zao _ (zac _ hB)),zao _ (zac _ (by rw [zas,hB])),zac _ (by rw [zas,zas,hB]),zfn _ _ _ _,hB⟩)
 go_upto_region 1 with fail
 rw [←hB]
 clear hB
 generalize ((w.alloc _).alloc _).alloc _=W1 at *
 obtain ⟨⟨c0,c1,c2,c3⟩,-⟩:=zae HM0.out.b0
 go_wp2_with fail
 refine (HFI.out _ HM0.out.bel).mono ?_
 rintro e W2 ⟨rfl,hb2⟩
 have HM:=Lib.hid (HM0.out.keep hb2)
 clear hb2 c0 c1 c2 c3 HFI HM0
 go_wp2
 go_loopw [7,9,10] (fun vo vd vk wr=>∃(j K n:Nat) (cs:List Value) (d:Bool),vd=.bool d∧vk=.int .i64 K∧Hid (d=decide (gIx key ps<j))∧Hid (K=2 * j)∧K≤N∧n≤K+2∧Hid (d=false→n≤K)∧Hid (wr.ownsRow W2.heap.size 48 4 vo n cs)∧Hid (IsVs w F (zaQ (insT X ps j)) cs)∧Hid (Below W2.heap.size W2 wr)) (fun _ _ vk _=>N-(intOf vk).toNat)
 case atStart=>exact ⟨0,0,0,[],false,rfl,rfl,Lib.hid (decide_eq_false (Nat.not_lt_zero _)).symm,rfl,Nat.zero_le _,Nat.zero_le _,Lib.hid fun _=>Nat.le_refl _,World.ownsRow_nil _ _ _ _,Lib.hid (by rw [HT0.out];rfl),Below.refl _ _⟩
 case round =>
   obtain ⟨j,K,n,cs,d,rfl,rfl,HD,HK,hK,hn,HND,HO,HV,HB⟩:=hrel
   by_cases q1:K<N
   case neg =>
     have hd1:decide (K<N)=false:=decide_eq_false q1
     have hd2:decide ((K:Int)<(N:Int))=false:=decide_eq_false (by omega)
     have hq2:¬(K:Int)<(N:Int):=by omega
     have hjl:j=ps.length:=by have h1:=HK.out;have h2:=HNN.out;omega
     have hSE:=HSE.out
     obtain ⟨va,vc,hve,-⟩:=zbi HO.out
     subst hve
     cases d with
     | true =>
       have hg:gIx key ps<ps.length:=by
         have h1:=of_decide_eq_true HD.out.symm
         omega
       rw [if_pos hg,←hjl] at hSE
       have HV2:=Lib.hid (show IsVs w F (zaQ (insK X ps)) cs by rw [hSE];exact HV.out)
       obtain ⟨⟨c0,c1,c2,c3⟩,fz0,fz1,fz2,fz3⟩:=zae (HM.out.keep HB.out).b0
       obtain ⟨⟨d0,d1,d2,d3⟩,-⟩:=zae (HM.out.keep HB.out).b1
       obtain ⟨⟨x0,x1,x2,x3⟩,gz0,gz1,gz2,gz3⟩:=zae (HM.out.keep HB.out).b2
       clear hSE HSE hg hjl HK HS1 HS2 HHH HV HNN HC1 HC2 HC3 HC4 HD HND HKV HXV
       go_wp2
       obtain ⟨e1,e2,e3⟩:=zgD HM.out HB.out (.slice va n vc) (.int .i64 7) (.int .i64 0) (.string ⟨#[]⟩) (.slice va n vc)
       refine bodyPost_ret (results_cell_row rfl _ _ (B+1+1) 48 _ (0,0) _ rfl (by exact e3) Tryz.underlying48 rfl (by exact zap)) rfl ?_
       exact ⟨(.slice va n vc),rfl,put_fin HO.out HV2.out HM.out.bel.size e2 e1 7,e1⟩
     | false =>
       have hg:¬gIx key ps<ps.length:=by
         have h1:=of_decide_eq_false HD.out.symm
         omega
       rw [if_neg hg,←hjl] at hSE
       have HV2:=Lib.hid (show IsVs w F (zaQ (insK X ps)) (cs++[.int .i64 5,.int .i64 0,.string ks,.slice none 0 0,.int .i64 xk,.int .i64 xn,.string xs,.slice ax M cx]) by
         rw [hSE,zdK]
         have h2:=HXV.out _ _ (HKV.out _ _ HV.out)
         rw [List.append_assoc,List.append_assoc] at h2
         exact h2)
       have hnK:=HND.out rfl
       obtain ⟨⟨c0,c1,c2,c3⟩,fz0,fz1,fz2,fz3⟩:=zae (HM.out.keep HB.out).b0
       obtain ⟨⟨d0,d1,d2,d3⟩,-⟩:=zae (HM.out.keep HB.out).b1
       obtain ⟨⟨x0,x1,x2,x3⟩,gz0,gz1,gz2,gz3⟩:=zae (HM.out.keep HB.out).b2
       clear hSE HSE hg hjl HK HS1 HS2 HHH HV HNN HC1 HC2 HC3 HC4 HD HND HKV HXV
       go_upto_region 19 with (at_builtin;refine zay EPV rfl _ _ rfl W2.heap.size _ n cs rfl (HO.out.alloc _) _ 2 _ _ rfl (row_newM2 _ #[.int .i64 5,.int .i64 0,.string ks,.slice none 0 0,.int .i64 xk,.int .i64 xn,.string xs,.slice ax M cx] _ rfl) (one8 _ _ _ _ _ _ _ _ _ _ _ _) (by unfold maxLen;omega) (by omega) (by rw [zas];have:=HB.out.size;omega) ?_;intro v5 w5 hO5 hg5 _;have HO5:=Lib.hid hO5;have HB5:=Lib.hid (show Below W2.heap.size W2 w5 from (HB.out.alloc HB.out.size _).grown hg5 (by rw [zas];have:=HB.out.size;omega) (fun q hq=>(HO.out.lt q hq).1));clear hO5 hg5)
       obtain ⟨va5,vc5,hve5,-⟩:=zbi HO5.out
       subst hve5
       clear c0 c1 c2 c3 d0 d1 d2 d3 fz0 fz1 fz2 fz3 x0 x1 x2 x3 gz0 gz1 gz2 gz3
       obtain ⟨⟨c0,c1,c2,c3⟩,fz0,fz1,fz2,fz3⟩:=zae (HM.out.keep HB5.out).b0
       obtain ⟨⟨d0,d1,d2,d3⟩,-⟩:=zae (HM.out.keep HB5.out).b1
       obtain ⟨⟨x0,x1,x2,x3⟩,gz0,gz1,gz2,gz3⟩:=zae (HM.out.keep HB5.out).b2
       go_wp2
       obtain ⟨e1,e2,e3⟩:=zgD HM.out HB5.out (.slice va5 (n+2) vc5) (.int .i64 7) (.int .i64 0) (.string ⟨#[]⟩) (.slice va5 (n+2) vc5)
       refine bodyPost_ret (results_cell_row rfl _ _ (B+1+1) 48 _ (0,0) _ rfl (by exact e3) Tryz.underlying48 rfl (by exact zap)) rfl ?_
       exact ⟨(.slice va5 (n+2) vc5),rfl,put_fin HO5.out HV2.out HM.out.bel.size e2 e1 7,e1⟩
   have hjl:j<ps.length:=by
     have h1:=HK.out
     have h2:=HNN.out
     omega
   obtain ⟨y,hy⟩:∃y,ps[j]?=some y:=⟨_,List.getElem?_eq_getElem hjl⟩
   obtain ⟨b1,o1,sy,sz,rfl,hvy,hvz,y0,y1,y2,y3,z0,z1,z2,z3⟩:=HA.out.pair hy
   obtain ⟨ya,yc,rfl,-⟩:=hvy.len
   obtain ⟨za,zc,rfl,-⟩:=hvz.len
   rw [←HK.out] at y0 y1 y2 y3 z0 z1 z2 z3
   rw [H5.out y (List.mem_of_getElem? hy)] at y0
   have HP:=Lib.hid (show PairAt w b1 o1 K 5 y.1.n (mkB y.1.s) (.slice ya y.1.l.length yc) y.2.kind y.2.n (mkB y.2.s) (.slice za y.2.l.length zc) from ⟨⟨y0,y1,y2,y3⟩,z0,z1,z2,z3⟩)
   clear y0 y1 y2 y3 z0 z1 z2 z3
   have HYV:=Lib.hid (show ∀(l:List PV) (cs:List Value),IsVs w F l cs→IsVs w F (l++[y.1]) (cs++[.int .i64 5,.int .i64 y.1.n,.string (mkB y.1.s),.slice ya y.1.l.length yc]) from fun l cs h=>by have h2:=h.snoc hvy;unfold pvC at h2;rw [H5.out y (List.mem_of_getElem? hy)] at h2;exact h2)
   have HZV:=Lib.hid (show ∀(l:List PV) (cs:List Value),IsVs w F l cs→IsVs w F (l++[y.2]) (cs++[.int .i64 y.2.kind,.int .i64 y.2.n,.string (mkB y.2.s),.slice za y.2.l.length zc]) from fun l cs h=>h.snoc hvz)
   have hkl:(0:Int)≤(K:Int):=by omega
   have hki:(K:Int)<(N:Int):=by omega
   have hd1:decide (K<N)=true:=decide_eq_true q1
   have hd2:decide ((K:Int)<(N:Int))=true:=decide_eq_true hki
   have hNe:K+2≤N:=by have h1:=HK.out;have h2:=HNN.out;omega
   have hkl1:(0:Int)≤(K:Int)+1:=by omega
   have hki1:(K:Int)+1<(N:Int):=by omega
   have hd3:decide ((K:Int)+1<(N:Int))=true:=decide_eq_true hki1
   have hkw:IntKind.i64.wrap ((K:Int)+1)=(K:Int)+1:=IntWalk.i64_in _ (by omega)
   have hkn:((K:Int)+1).toNat=K+1:=by omega
   have hKm:((K:Int)==-1)=false:=by rw [beq_eq_false_iff_ne];omega
   have hys:y.1.s≠key:=fIx_ne key ps j y (by have h1:=HHH.out;have h2:=fIx_le key ps;omega) hy
   have c4:=HC1.out y.1.s
   have c5:=HC2.out y.1.s
   have c6:=HC3.out y.1.s
   have c7:=HC4.out y.1.s
   rw [decide_eq_false hys] at c6
   rw [decide_eq_false (fun e=>hys e.symm)] at c7
   clear HC1 HC2 HC3 HC4
   by_cases hj:j=gIx key ps
   · have hyg : sLt key y.1.s = true := gIx_yes key ps y (by rw [← hj]; exact hy)
     rw [hyg] at c4
     rw [sLt_as _ _ hyg] at c5
     obtain rfl:d=false:=by rw [HD.out];exact decide_eq_false (by omega)
     have HDN:=Lib.hid (show true=decide (gIx key ps<j+1) from (decide_eq_true (by omega)).symm)
     have hst:=HS2.out j y hy hj
     have hnK:=HND.out rfl
     have HST2 := Lib.hid (show ∀ cs', IsVs w F (zaQ (insT X ps j)) cs' → IsVs w F (zaQ (insT X ps (j + 1))) (((cs' ++ [.int .i64 5, .int .i64 0, .string ks, .slice none 0 0, .int .i64 xk, .int .i64 xn, .string xs, .slice ax M cx]) ++ [.int .i64 5, .int .i64 y.1.n, .string (mkB y.1.s), .slice ya y.1.l.length yc]) ++ [.int .i64 y.2.kind, .int .i64 y.2.n, .string (mkB y.2.s), .slice za y.2.l.length zc]) from fun cs' h => by
       rw [hst]
       have h2:=HZV.out _ _ (HYV.out _ _ (HXV.out _ _ (HKV.out _ _ h)))
       rw [List.append_assoc,List.append_assoc,List.append_assoc,List.append_assoc cs'] at h2
       exact h2)
     clear hst hvy hvz HYV HZV HXV HKV hj hjl hy HS1 HS2 HSE HD HND HHH hyg hys H5 HNN HA
     generalize y.1.n=yn at *
     generalize mkB y.1.s=ys at *
     generalize y.1.l.length=yl at *
     generalize y.2.kind=zk at *
     generalize y.2.n=zn at *
     generalize mkB y.2.s=zs at *
     generalize y.2.l.length=zl at *
     obtain ⟨⟨c0,c1,c2,c3⟩,fz0,fz1,fz2,fz3⟩:=zae (HM.out.keep HB.out).b0
     obtain ⟨⟨d0,d1,d2,d3⟩,-⟩:=zae (HM.out.keep HB.out).b1
     obtain ⟨⟨y0,y1,y2,y3⟩,z0,z1,z2,z3⟩:=HP.out.keep (HM.out.keep HB.out).bel
     go_upto_region 12 with (at_builtin;refine zay EPV rfl _ _ rfl W2.heap.size _ n _ rfl (HO.out.alloc _) _ 2 _ _ rfl (row_newM2 _ #[.int .i64 5,.int .i64 0,.string ks,.slice none 0 0,.int .i64 xk,.int .i64 xn,.string xs,.slice ax M cx] _ rfl) (one8 _ _ _ _ _ _ _ _ _ _ _ _) (by unfold maxLen;omega) (by omega) (by rw [zas];have:=HB.out.size;omega) ?_;intro v5 w5 hO5 hg5 _;have HO5:=Lib.hid hO5;have HB5:=Lib.hid (show Below W2.heap.size W2 w5 from (HB.out.alloc HB.out.size _).grown hg5 (by rw [zas];have:=HB.out.size;omega) (fun q hq=>(HO.out.lt q hq).1));clear hO5 hg5)
     clear c0 c1 c2 c3 d0 d1 d2 d3 fz0 fz1 fz2 fz3 y0 y1 y2 y3 z0 z1 z2 z3
     obtain ⟨⟨c0,c1,c2,c3⟩,fz0,fz1,fz2,fz3⟩:=zae (HM.out.keep HB5.out).b0
     obtain ⟨⟨d0,d1,d2,d3⟩,-⟩:=zae (HM.out.keep HB5.out).b1
     obtain ⟨⟨y0,y1,y2,y3⟩,z0,z1,z2,z3⟩:=HP.out.keep (HM.out.keep HB5.out).bel
     go_upto_region 13 with (at_builtin;refine zay EPV rfl _ _ rfl W2.heap.size v5 (n+2) _ rfl (HO5.out.alloc _) _ 1 _ _ rfl (zbs _ #[.int .i64 5,.int .i64 yn,.string ys,.slice ya yl yc] _ 4 rfl) (one4 _ _ _ _ _ _) (by unfold maxLen;omega) (by omega) (by rw [zas];have:=HB5.out.size;omega) ?_;intro v6 w6 hO6 hg6 _;have HO6:=Lib.hid hO6;have HB6:=Lib.hid (show Below W2.heap.size W2 w6 from (HB5.out.alloc HB5.out.size _).grown hg6 (by rw [zas];have:=HB5.out.size;omega) (fun q hq=>(HO5.out.lt q hq).1));clear hO6 hg6)
     clear c0 c1 c2 c3 d0 d1 d2 d3 fz0 fz1 fz2 fz3 y0 y1 y2 y3 z0 z1 z2 z3
     obtain ⟨⟨c0,c1,c2,c3⟩,fz0,fz1,fz2,fz3⟩:=zae (HM.out.keep HB6.out).b0
     obtain ⟨⟨d0,d1,d2,d3⟩,-⟩:=zae (HM.out.keep HB6.out).b1
     obtain ⟨⟨y0,y1,y2,y3⟩,z0,z1,z2,z3⟩:=HP.out.keep (HM.out.keep HB6.out).bel
     go_wp2_with (at_builtin;refine zay EPV rfl _ _ rfl W2.heap.size v6 ((n+2)+1) _ rfl (HO6.out.alloc _) _ 1 _ _ rfl (zbs _ #[.int .i64 zk,.int .i64 zn,.string zs,.slice za zl zc] _ 4 rfl) (one4 _ _ _ _ _ _) (by unfold maxLen;omega) (by omega) (by rw [zas];have:=HB6.out.size;omega) ?_;intro v7 w7 hO7 hg7 _;have HO7:=Lib.hid hO7;have HB7:=Lib.hid (show Below W2.heap.size W2 w7 from (HB6.out.alloc HB6.out.size _).grown hg7 (by rw [zas];have:=HB6.out.size;omega) (fun q hq=>(HO6.out.lt q hq).1));clear hO7 hg7)
     go_roundw
     case rel=>exact ⟨j+1,K+2,(n+2)+1+1,_,true,rfl,by go_num,HDN,by have:=HK.out;show K+2=2 * (j+1);omega,hNe,by omega,Lib.hid (fun h=>(by cases h)),HO7,Lib.hid (HST2.out _ HV.out),HB7⟩
     case measure=>simp [intOf];omega
   by_cases hj2:j<gIx key ps
   · have hyg:sLt key y.1.s=false:=gIx_no key ps j y hj2 hy
     have hyl:sLt y.1.s key=true:=zcJ _ _ hyg (fun e=>hys e.symm)
     rw [hyg] at c4
     rw [hyl] at c5
     obtain rfl:d=false:=by rw [HD.out];exact decide_eq_false (by omega)
     have HDN:=Lib.hid (show false=decide (gIx key ps<j+1) from (decide_eq_false (by omega)).symm)
     have hnK:=HND.out rfl
     have hst:=HS1.out j y hy hj
     have HST2 := Lib.hid (show ∀ cs', IsVs w F (zaQ (insT X ps j)) cs' → IsVs w F (zaQ (insT X ps (j + 1))) ((cs' ++ [.int .i64 5, .int .i64 y.1.n, .string (mkB y.1.s), .slice ya y.1.l.length yc]) ++ [.int .i64 y.2.kind, .int .i64 y.2.n, .string (mkB y.2.s), .slice za y.2.l.length zc]) from fun cs' h => by
       rw [hst]
       have h2:=HZV.out _ _ (HYV.out _ _ h)
       rwa [List.append_assoc] at h2)
     clear hst hvy hvz HYV HZV HXV HKV hj hjl hy HS1 HS2 HSE HD HND HHH hyg hyl H5 HNN HA hj2 hys
     generalize y.1.n=yn at *
     generalize mkB y.1.s=ys at *
     generalize y.1.l.length=yl at *
     generalize y.2.kind=zk at *
     generalize y.2.n=zn at *
     generalize mkB y.2.s=zs at *
     generalize y.2.l.length=zl at *
     obtain ⟨⟨c0,c1,c2,c3⟩,fz0,fz1,fz2,fz3⟩:=zae (HM.out.keep HB.out).b0
     obtain ⟨⟨d0,d1,d2,d3⟩,-⟩:=zae (HM.out.keep HB.out).b1
     obtain ⟨⟨y0,y1,y2,y3⟩,z0,z1,z2,z3⟩:=HP.out.keep (HM.out.keep HB.out).bel
     go_upto_region 13 with (at_builtin;refine zay EPV rfl _ _ rfl W2.heap.size _ n _ rfl (HO.out.alloc _) _ 1 _ _ rfl (zbs _ #[.int .i64 5,.int .i64 yn,.string ys,.slice ya yl yc] _ 4 rfl) (one4 _ _ _ _ _ _) (by unfold maxLen;omega) (by omega) (by rw [zas];have:=HB.out.size;omega) ?_;intro v5 w5 hO5 hg5 _;have HO5:=Lib.hid hO5;have HB5:=Lib.hid (show Below W2.heap.size W2 w5 from (HB.out.alloc HB.out.size _).grown hg5 (by rw [zas];have:=HB.out.size;omega) (fun q hq=>(HO.out.lt q hq).1));clear hO5 hg5)
     clear c0 c1 c2 c3 d0 d1 d2 d3 fz0 fz1 fz2 fz3 y0 y1 y2 y3 z0 z1 z2 z3
     obtain ⟨⟨c0,c1,c2,c3⟩,fz0,fz1,fz2,fz3⟩:=zae (HM.out.keep HB5.out).b0
     obtain ⟨⟨d0,d1,d2,d3⟩,-⟩:=zae (HM.out.keep HB5.out).b1
     obtain ⟨⟨y0,y1,y2,y3⟩,z0,z1,z2,z3⟩:=HP.out.keep (HM.out.keep HB5.out).bel
     go_wp2_with (at_builtin;refine zay EPV rfl _ _ rfl W2.heap.size v5 (n+1) _ rfl (HO5.out.alloc _) _ 1 _ _ rfl (zbs _ #[.int .i64 zk,.int .i64 zn,.string zs,.slice za zl zc] _ 4 rfl) (one4 _ _ _ _ _ _) (by unfold maxLen;omega) (by omega) (by rw [zas];have:=HB5.out.size;omega) ?_;intro v6 w6 hO6 hg6 _;have HO6:=Lib.hid hO6;have HB6:=Lib.hid (show Below W2.heap.size W2 w6 from (HB5.out.alloc HB5.out.size _).grown hg6 (by rw [zas];have:=HB5.out.size;omega) (fun q hq=>(HO5.out.lt q hq).1));clear hO6 hg6)
     go_roundw
     case rel=>exact ⟨j+1,K+2,n+1+1,_,false,rfl,by go_num,HDN,by have:=HK.out;show K+2=2 * (j+1);omega,hNe,by omega,Lib.hid (fun _=>(by omega)),HO6,Lib.hid (HST2.out _ HV.out),HB6⟩
     case measure=>simp [intOf];omega
   · obtain rfl : d = true := by rw [HD.out]; exact decide_eq_true (by omega)
     have HDN:=Lib.hid (show true=decide (gIx key ps<j+1) from (decide_eq_true (by omega)).symm)
     have hst:=HS1.out j y hy hj
     have HST2 := Lib.hid (show ∀ cs', IsVs w F (zaQ (insT X ps j)) cs' → IsVs w F (zaQ (insT X ps (j + 1))) ((cs' ++ [.int .i64 5, .int .i64 y.1.n, .string (mkB y.1.s), .slice ya y.1.l.length yc]) ++ [.int .i64 y.2.kind, .int .i64 y.2.n, .string (mkB y.2.s), .slice za y.2.l.length zc]) from fun cs' h => by
       rw [hst]
       have h2:=HZV.out _ _ (HYV.out _ _ h)
       rwa [List.append_assoc] at h2)
     clear hst hvy hvz HYV HZV HXV HKV hj hjl hy HS1 HS2 HSE HD HND HHH  H5 HNN HA hj2 hys c4 c5 c6 c7
     generalize y.1.n=yn at *
     generalize mkB y.1.s=ys at *
     generalize y.1.l.length=yl at *
     generalize y.2.kind=zk at *
     generalize y.2.n=zn at *
     generalize mkB y.2.s=zs at *
     generalize y.2.l.length=zl at *
     obtain ⟨⟨c0,c1,c2,c3⟩,fz0,fz1,fz2,fz3⟩:=zae (HM.out.keep HB.out).b0
     obtain ⟨⟨d0,d1,d2,d3⟩,-⟩:=zae (HM.out.keep HB.out).b1
     obtain ⟨⟨y0,y1,y2,y3⟩,z0,z1,z2,z3⟩:=HP.out.keep (HM.out.keep HB.out).bel
     go_upto_region 13 with (at_builtin;refine zay EPV rfl _ _ rfl W2.heap.size _ n _ rfl (HO.out.alloc _) _ 1 _ _ rfl (zbs _ #[.int .i64 5,.int .i64 yn,.string ys,.slice ya yl yc] _ 4 rfl) (one4 _ _ _ _ _ _) (by unfold maxLen;omega) (by omega) (by rw [zas];have:=HB.out.size;omega) ?_;intro v5 w5 hO5 hg5 _;have HO5:=Lib.hid hO5;have HB5:=Lib.hid (show Below W2.heap.size W2 w5 from (HB.out.alloc HB.out.size _).grown hg5 (by rw [zas];have:=HB.out.size;omega) (fun q hq=>(HO.out.lt q hq).1));clear hO5 hg5)
     clear c0 c1 c2 c3 d0 d1 d2 d3 fz0 fz1 fz2 fz3 y0 y1 y2 y3 z0 z1 z2 z3
     obtain ⟨⟨c0,c1,c2,c3⟩,fz0,fz1,fz2,fz3⟩:=zae (HM.out.keep HB5.out).b0
     obtain ⟨⟨d0,d1,d2,d3⟩,-⟩:=zae (HM.out.keep HB5.out).b1
     obtain ⟨⟨y0,y1,y2,y3⟩,z0,z1,z2,z3⟩:=HP.out.keep (HM.out.keep HB5.out).bel
     go_wp2_with (at_builtin;refine zay EPV rfl _ _ rfl W2.heap.size v5 (n+1) _ rfl (HO5.out.alloc _) _ 1 _ _ rfl (zbs _ #[.int .i64 zk,.int .i64 zn,.string zs,.slice za zl zc] _ 4 rfl) (one4 _ _ _ _ _ _) (by unfold maxLen;omega) (by omega) (by rw [zas];have:=HB5.out.size;omega) ?_;intro v6 w6 hO6 hg6 _;have HO6:=Lib.hid hO6;have HB6:=Lib.hid (show Below W2.heap.size W2 w6 from (HB5.out.alloc HB5.out.size _).grown hg6 (by rw [zas];have:=HB5.out.size;omega) (fun q hq=>(HO5.out.lt q hq).1));clear hO6 hg6)
     go_roundw
     case rel=>exact ⟨j+1,K+2,n+1+1,_,true,rfl,by go_num,HDN,by have:=HK.out;show K+2=2 * (j+1);omega,hNe,by omega,Lib.hid (fun h=>(by cases h)),HO6,Lib.hid (HST2.out _ HV.out),HB6⟩
     case measure=>simp [intOf];omega
theorem put_any {w:World} {F:Nat→Prop} {ps:List (PV×PV)} {sl:Value} (hv:IsV w F (dctV ps) sl) (h5:∀y∈ps,y.1.kind=5) (key:List UInt8) {x:PV} {sx:Value} (hx:IsV w F x sx) (hm:ps.length≤400000) :
   Calls Tryz.prog 147 #[pvA (dctV ps) sl,.string (mkB key),pvA x sx] w fun e w'=>∃s',e=.returned (pvA (dctV (putK (.mk 5 0 key [],x) ps)) s')∧IsV w' (fun b=>F b∨w.heap.size≤b) (dctV (putK (.mk 5 0 key [],x) ps)) s'∧Below w.heap.size w w':=by
 have hk:=fIx_has key ps
 have hu:putK (PV.mk 5 0 key [],x) ps=if hasK key ps then repK (PV.mk 5 0 key [],x) ps else insK (PV.mk 5 0 key [],x) ps:=rfl
 rw [hu,hk]
 by_cases h:fIx key ps<ps.length
 · rw [if_pos (decide_eq_true h)]
   exact put_rep hv h5 key hx hm h
 · rw [if_neg (by rw [decide_eq_false h]; decide)]
   exact put_ins hv h5 key hx hm h
mutual
theorem IsV.lt {w : World} {F : Nat → Prop} : ∀ (v : PV) {sl : Value}, IsV w F v sl → IsV w (fun b => F b ∧ b < w.heap.size) v sl
 | .mk _ _ _ l, _, ⟨a, cap, cs, h, hr, hF, hs⟩ => ⟨a, cap, cs, h, hr, fun h0 x hx => ⟨hF h0 x hx, by
     obtain ⟨b,off,ha,hb,_⟩:=hr.2.2.2.2 h0
     rw [ha] at hx
     cases hx
     exact hb⟩,IsVs.lt l hs⟩
theorem IsVs.lt {w : World} {F : Nat → Prop} : ∀ (l : List PV) {cs : List Value}, IsVs w F l cs → IsVs w (fun b => F b ∧ b < w.heap.size) l cs
 | [],_,h=>h
 | v::l,_,⟨sl,t,h,hv,ht⟩=>⟨sl,t,h,IsV.lt v hv,IsVs.lt l ht⟩
end
theorem za4.weakenF {F G:Nat→Prop} {w w':World} (h:za4 F w w') (hG:∀b,G b→F b):za4 G w w':=⟨h.1,fun b hb hf=>h.2 b hb (hG b hf)⟩
def ArrM (Q:Nat) (w:World) (v:Value) (n:Nat) (l:List PV):Prop:=∃cs,w.ownsRow Q 48 4 v n cs∧IsVs w (fun b=>Q≤b∧b<w.heap.size∧v.ownBlock≠some b) l cs
theorem ArrM.keep {Q:Nat} {w W:World} {v:Value} {n:Nat} {l:List PV} (h:ArrM Q w v n l) (hb:Below w.heap.size w W):ArrM Q W v n l :=
 let ⟨cs,h1,h2⟩:=h
 ⟨cs,zbr h1 hb,IsVs.keep (za4.of_below hb) (fun _ h=>⟨h.1,Nat.lt_of_lt_of_le h.2.1 hb.size,h.2.2⟩) _ h2⟩
theorem ArrM.push {Q : Nat} {w w' : World} {v v' : Value} {n : Nat} {l : List PV} {cs : List Value} (h2 : IsVs w (fun b => Q ≤ b ∧ b < w.heap.size ∧ v.ownBlock ≠ some b) l cs) {x : PV} {sx : Value} (hx : IsV w (fun b => Q ≤ b ∧ b < w.heap.size ∧ v.ownBlock ≠ some b) x sx) {o : Obj}
   (hO:w'.ownsRow Q 48 4 v' (n+1) (cs++pvC x sx)) (hg:(w.alloc o).grownBy w' v.ownBlock) (hn:NewAt (w.alloc o) v v'):ArrM Q w' v' (n+1) (l++[x]):=by
 have hs:w.heap.size≤w'.heap.size:=Nat.le_trans (by rw [zas];omega) hg.size
 refine ⟨_,hO,IsVs.keep (F:=fun b=>Q≤b∧b<w.heap.size∧v.ownBlock≠some b) ⟨hs,fun b hb hF=>?_⟩ (fun b hF=>⟨hF.1,Nat.lt_of_lt_of_le hF.2.1 hs,fun e=>?_⟩) _ (h2.snoc hx)⟩
 · rw [hg.block b (by rw [zas]; omega) (fun e => hF.2.2 e.symm)]
   exact (zam w o).block b hb
 · rcases hn b e with e|e
   · exact hF.2.2 e
   · rw [zas] at e;omega
def ValD (bs:List UInt8) (last:Bool) (d:Nat):Prop:=∀(w:World) (a:Option Addr) (cap:Nat),Row w 1 a bs.length cap (bs.map u8C)→∀(x:Tk) (f tt:Int),
 Calls Tryz.prog 67 #[.slice a bs.length cap,.agg (tokN x f tt),.bool last,.int .i64 (64-(d:Int))] w (zb1 w (vlD bs last d x tt))
theorem array_doc {w:World} {a:Option Addr} {cap:Nat} {bs:List UInt8} (hr:Row w 1 a bs.length cap (bs.map u8C)) (hn:bs.length≤400000) (last:Bool) (d:Nat) (k0:Int) (hv:ValD bs last d) :
   Calls Tryz.prog 109 #[.slice a bs.length cap,.int .i64 k0,.bool last,.int .i64 (64-(d:Int))] w (zb1 w (arrD bs last (vlD bs last d) (bs.length+1) [] k0)):=by
 have HN:=Lib.hid (fun (W:World) (h:Below w.heap.size w W) (k:Int)=>zbR (hr.mono h) hn k last)
 have HVL:=Lib.hid (fun (W:World) (h:Below w.heap.size w W) (x:Tk) (f tt:Int)=>hv W a cap (hr.mono h) x f tt)
 obtain ⟨fn,hfn⟩:∃fn,fn=vlD bs last d:=⟨_,rfl⟩
 rw [←hfn] at HVL ⊢
 obtain ⟨R,hR⟩:∃R,R=arrD bs last fn (bs.length+1) [] k0:=⟨_,rfl⟩
 rw [←hR]
 have HR:=Lib.hid hR
 clear hr hv hfn hR
 generalize (64-(d:Int))=D at *
 obtain ⟨L,hL⟩:∃L,L=bs.length:=⟨_,rfl⟩
 rw [←hL] at HN HVL HR hn ⊢
 clear hL
 unfold zax tokN at HN
 unfold tokN at HVL
 go_enter Tryz.func109,Tryz.ntmps109
 obtain ⟨B,hB⟩:∃B,B=w.heap.size:=⟨_,rfl⟩
 have HZ:=Lib.hid (zac (w:=w) (b:=B) (.cells #[.int .i64 0,.int .i64 0,.string ⟨#[]⟩,.slice none 0 0] 48) hB)
 have HBW:=Lib.hid (zam w (.cells #[.int .i64 0,.int .i64 0,.string ⟨#[]⟩,.slice none 0 0] 48))
 go_upto_region 1 with fail
 rw [←hB]
 have HBB:=Lib.hid (Nat.le_of_eq hB.symm)
 clear hB
 generalize w.alloc _=W1 at *
 go_wp2
 go_loopw [1,11,12] (fun vat vl vn wr=>∃(k:Int) (i:Nat) (l:List PV),vat=.int .i64 k∧vn=.int .i64 i∧i≤L+1∧Hid (ArrM W1.heap.size wr vl i l)∧Hid (Below W1.heap.size W1 wr)∧Hid (R=arrD bs last fn (L+1-i) l k)) (fun _ _ vn _=>L+1-(intOf vn).toNat)
 case atStart=>exact ⟨k0,0,[],rfl,rfl,by omega,Lib.hid ⟨[],World.ownsRow_nil _ _ _ _,rfl⟩,Below.refl _ _,HR⟩
 case round =>
   obtain ⟨k,i,l,rfl,rfl,hi,HA,HB,HRR⟩:=hrel
   obtain ⟨cs0,hO0,-⟩:=HA.out
   obtain ⟨va,vc,hve,-⟩:=zbi hO0
   subst hve
   clear hO0 cs0
   have HBr:=Lib.hid (HBW.out.trans (HB.out.mono HBW.out.size))
   have HZr:=Lib.hid (zab HB.out HZ.out)
   by_cases q1:i≤L
   case neg =>
     obtain rfl:i=L+1:=by omega
     have hd1:decide (L+1≤L)=false:=decide_eq_false (by omega)
     have hd2:decide (((L+1:Nat):Int)≤(L:Int))=false:=decide_eq_false (by omega)
     have hd3:decide ((L:Int)+1≤(L:Int))=false:=decide_eq_false (by omega)
     have hrr:=HRR.out
     rw [Nat.sub_self] at hrr
     unfold arrD at hrr
     subst hrr
     clear HRR HA HR HN HVL q1 hi
     obtain ⟨⟨r0,r1,r2,r3⟩,rf0,rf1,rf2,rf3⟩:=zae HZr.out
     go_wp2
     refine bodyPost_ret (zah rfl _ _ B 48 _ (0,0) _ rfl (by exact set4 HZr.out _ _ _ _) Tryz.underlying48 rfl (by exact zap) _ _ rfl rfl) rfl ?_
     exact zaD (R:=(PV.none,0,10)) rfl (zad HBr.out HBB.out _ _ _ _)
   have hd1:decide (i≤L)=true:=decide_eq_true q1
   have hd2:decide ((i:Int)≤(L:Int))=true:=decide_eq_true (by omega)
   have hq2:(i:Int)≤(L:Int):=by omega
   have hi0:(0:Int)≤(i:Int):=by omega
   have hiw:IntKind.i64.wrap ((i:Int)+1)=(i:Int)+1:=IntWalk.i64_in _ (by omega)
   have hrr:=HRR.out
   rw [show L+1-i=(L-i)+1 by omega] at hrr
   unfold arrD at hrr
   have HN1:=Lib.hid (HN.out _ HBr.out k)
   generalize zai bs k last=V at *
   obtain ⟨x,f,t,er⟩:=V
   simp only at hrr HN1
   have HV1:=Lib.hid (fun (W:World) (h:Below w.heap.size w W)=>HVL.out W h x f t)
   replace HRR:=Lib.hid hrr
   clear hrr HR
   obtain ⟨xk,xvk,xvn,xvs,xs⟩:=x
   simp only at HN1 HV1 HRR
   generalize hfx:fn { kind:=xk,vk:=xvk,vn:=xvn,vs:=xvs,s:=xs } t=R1 at *
   clear hfx
   generalize mkB xvs=xvb at *
   generalize mkB xs=xb at *
   go_wp2_with fail
   refine HN1.out.mono ?_
   rintro e w2 ⟨rfl,hb2⟩
   have hb2a:=hb2.alloc hb2.size (.cells #[.int .i64 xk,.int .i64 f,.int .i64 t,.int .i64 xvk,.int .i64 xvn,.string xvb,.slice none 0 0,.string xb] 91)
   have HA2:=Lib.hid (HA.out.keep hb2a)
   have HB2:=Lib.hid (HB.out.trans (hb2a.mono HB.out.size))
   have HT2:=Lib.hid (zac (w:=w2) (b:=w2.heap.size) (.cells #[.int .i64 xk,.int .i64 f,.int .i64 t,.int .i64 xvk,.int .i64 xvn,.string xvb,.slice none 0 0,.string xb] 91) rfl)
   have HS2:=Lib.hid (show wr.heap.size≤w2.heap.size from hb2.size)
   have HW1:=Lib.hid (show W1.heap.size≤wr.heap.size from HB.out.size)
   clear hb2 hb2a HN1 HA HB HBr HZr
   go_upto_region 6 with fail
   obtain ⟨r2,hr2⟩:∃r2,r2=w2.heap.size:=⟨_,rfl⟩
   rw [←hr2] at HT2 ⊢
   have hrB:r2≠B:=by
     have h1:=zaj HZ.out
     have h2:=HS2.out
     have h3:=HW1.out
     omega
   clear hr2 HS2 HW1
   generalize w2.alloc _=W2 at *
   have HBr:=Lib.hid (HBW.out.trans (HB2.out.mono HBW.out.size))
   have HZr:=Lib.hid (zab HB2.out HZ.out)
   obtain ⟨⟨t0,t1,t2,t3,t4,t5,t6,t7⟩,-⟩:=zaf HT2.out
   obtain ⟨⟨r0,r1,r2',r3⟩,rf0,rf1,rf2,rf3⟩:=zae HZr.out
   by_cases her:er=0
   case neg =>
     have e0:(er==0)=false:=by rw [beq_eq_false_iff_ne];exact her
     have e1:(er != 0)=true:=by simp only [bne,e0,Bool.not_false]
     have hrr:=HRR.out
     rw [if_pos her] at hrr
     subst hrr
     clear HRR HA2 HN HVL her HV1 t0 t1 t2 t3 t4 t5 t6 t7
     go_wp2
     refine bodyPost_ret (zah rfl _ _ B 48 _ (0,0) _ rfl (by exact set4 HZr.out _ _ _ _) Tryz.underlying48 rfl (by exact zap) _ _ rfl rfl) rfl ?_
     exact zaD (R:=(PV.none,0,er)) rfl (zad HBr.out HBB.out _ _ _ _)
   subst her
   have hrr:=HRR.out
   rw [if_neg (by simp)] at hrr
   by_cases hk3:xk=3
   · have e3 : (xk == 3) = true := by rw [hk3]; rfl
     rw [if_pos hk3] at hrr
     subst hrr
     clear HRR HN HVL hk3 HV1
     obtain ⟨cs,hO,hVs⟩:=HA2.out
     obtain ⟨va',vc',hve,hrow,hbase⟩:=Row.of_owns hO
     cases hve
     have hlen:=hVs.length
     have hlen2:cs.length=i * 4:=hrow.1
     obtain rfl:i=l.length:=by omega
     have HROW:=Lib.hid hrow
     have HBS:=Lib.hid hbase
     have HVS:=Lib.hid hVs
     clear hO hrow hbase hVs hlen hlen2 HA2
     go_wp2
     go_region
     all_goals
       go_wp2
       refine bodyPost_ret (zah rfl _ _ B 48 _ (0,0) _ rfl (by exact set4 HZr.out _ _ _ _) Tryz.underlying48 rfl (by exact zap) _ _ rfl rfl) rfl ?_
       have hlB:B<W1.heap.size:=zaj HZ.out
       have hwW:=HBW.out.size
       have hst:∀y0 y1 y2 y3,za4 (fun b=>W1.heap.size≤b) W2 ((((W2.setCell ⟨B,0,none⟩ y0).setCell ⟨B,1,none⟩ y1).setCell ⟨B,2,none⟩ y2).setCell ⟨B,3,none⟩ y3):=fun _ _ _ _=>⟨by rw [zaN];exact Nat.le_refl _,fun b _ hb=>zaO (by omega) _ _ _ _⟩
       refine ⟨_,rfl,?_,(zad HBr.out HBB.out _ _ _ _).drew⟩
       exact (IsV.mk (v:=.mk 6 0 [] l) (HROW.out.stays (hst _ _ _ _) (fun _ x hx=>HBS.out x hx)) (fun _ x hx=>Nat.le_trans hwW (HBS.out x hx)) (IsVs.keep ((hst _ _ _ _).weakenF fun b h=>h.1) (fun b h=>Nat.le_trans hwW h.1) _ HVS.out)).below (Below.refl _ _).drew
   have e3:(xk==3)=false:=by rw [beq_eq_false_iff_ne];exact hk3
   rw [if_neg hk3] at hrr
   clear hrB
   replace HRR:=Lib.hid hrr
   clear hrr hk3
   go_wp2_with fail
   refine (HV1.out _ HBr.out).mono ?_
   rintro e w3 ⟨sl,rfl,hV3,hb3⟩
   obtain ⟨sa,sc,rfl,-⟩:=hV3.len
   obtain ⟨X,n,ev⟩:=R1
   simp only at HRR hV3
   have HV3:=Lib.hid (IsV.lt _ hV3)
   have HA3:=Lib.hid (HA2.out.keep hb3)
   have HB3:=Lib.hid (HB2.out.trans (hb3.mono HB2.out.size))
   have HO2:=Lib.hid (show ∀v n l,ArrM W1.heap.size W2 v n l→∀b,v.ownBlock=some b→b<W2.heap.size from fun v n l ⟨cs,h,_⟩ b hb=>(h.lt b hb).2)
   clear hV3 hb3 HV1 HBr HZr HT2 t0 t1 t2 t3 t4 t5 t6 t7 r0 r1 r2' r3 rf0 rf1 rf2 rf3
   have HQ2:=Lib.hid HB2.out.size
   unfold pvA
   generalize hxl:X.l.length=xl at *
   obtain ⟨O4,hO4⟩:∃O4:Obj,O4=.cells #[.int .i64 X.kind,.int .i64 X.n,.string (mkB X.s),.slice sa xl sc] 48:=⟨_,rfl⟩
   have hb4:=zam w3 O4
   have HA4:=Lib.hid (HA3.out.keep hb4)
   have HV4:=Lib.hid (IsV.keep (G:=fun b=>W2.heap.size≤b∧b<(w3.alloc O4).heap.size) (za4.of_below hb4) (fun b h=>⟨h.1,Nat.lt_of_lt_of_le h.2 hb4.size⟩) _ HV3.out)
   have HB4:=Lib.hid (HB3.out.trans (hb4.mono HB3.out.size))
   have HK4:=Lib.hid (zac (w:=w3) (b:=w3.heap.size) O4 rfl)
   rw [hO4] at HA4 HV4 HB4 HK4
   clear hb4 hO4 HA3 HV3 HB3 O4
   go_upto_region 11 with fail
   obtain ⟨r4,hr4⟩:∃r4,r4=w3.heap.size:=⟨_,rfl⟩
   rw [←hr4] at HK4 ⊢
   clear hr4
   generalize w3.alloc _=W4 at *
   have HBr:=Lib.hid (HBW.out.trans (HB4.out.mono HBW.out.size))
   have HZr:=Lib.hid (zab HB4.out HZ.out)
   obtain ⟨⟨t0,t1,t2,t3⟩,-⟩:=zae HK4.out
   obtain ⟨⟨r0,r1,r2',r3⟩,rf0,rf1,rf2,rf3⟩:=zae HZr.out
   by_cases her:ev=0
   case neg =>
     have e0:(ev==0)=false:=by rw [beq_eq_false_iff_ne];exact her
     have e1:(ev != 0)=true:=by simp only [bne,e0,Bool.not_false]
     have hrr:=HRR.out
     rw [if_pos her] at hrr
     subst hrr
     clear HRR HA2 HA4 HN HVL her
     go_wp2
     refine bodyPost_ret (zah rfl _ _ B 48 _ (0,0) _ rfl (by exact set4 HZr.out _ _ _ _) Tryz.underlying48 rfl (by exact zap) _ _ rfl rfl) rfl ?_
     exact zaD (R:=(PV.none,0,ev)) rfl (zad HBr.out HBB.out _ _ _ _)
   subst her
   have hrr:=HRR.out
   rw [if_neg (by simp)] at hrr
   replace HRR:=Lib.hid hrr
   have hob:=HO2.out _ _ _ HA2.out
   obtain ⟨cs,hO,hVs⟩:=HA4.out
   have HO:=Lib.hid hO
   have HVs:=Lib.hid hVs
   have HXV:=Lib.hid (IsV.weaken HV4.out (G:=fun b=>W1.heap.size≤b∧b<W4.heap.size∧(Value.slice va i vc).ownBlock≠some b) (fun b h=>⟨Nat.le_trans HQ2.out h.1,h.2,fun e=>by have:=hob b e;omega⟩))
   clear hrr hO hVs HA2 HA4 HV4 hob HO2
   subst hxl
   have HCS:=Lib.hid (show pvC X (.slice sa X.l.length sc)=[.int .i64 X.kind,.int .i64 X.n,.string (mkB X.s),.slice sa X.l.length sc] from rfl)
   go_wp2_with (at_builtin;refine zeS EPV rfl _ _ rfl W1.heap.size _ i cs rfl (HO.out.alloc _) _ 1 _ _ rfl (zbs _ #[.int .i64 X.kind,.int .i64 X.n,.string (mkB X.s),.slice sa X.l.length sc] _ 4 rfl) (one4 _ _ _ _ _ _) (by unfold maxLen;omega) (by omega) (by rw [zas];have:=HB4.out.size;omega) ?_;intro v6 w6 hO6 hg6 hn6;have HA6:=Lib.hid (ArrM.push HVs.out HXV.out (by rw [HCS.out];exact hO6) hg6 hn6);have HB6:=Lib.hid (show Below W1.heap.size W1 w6 from (HB4.out.alloc HB4.out.size _).grown hg6 (by rw [zas];have:=HB4.out.size;omega) (fun q hq=>(HO.out.lt q hq).1));clear hO6 hg6 hn6)
   go_roundw
   case rel=>exact ⟨n,i+1,l++[X],rfl,by go_num,by omega,HA6,HB6,by rw [show L+1-(i+1)=L-i by omega];exact HRR⟩
   case measure=>simp [intOf];omega
theorem rep_mem {x:PV×PV}:∀(l:List (PV×PV)) (y:PV×PV),y∈repK x l→∃z∈l,z.1=y.1
 | [],y,h=>by cases h
 | z :: l, y, h => by
   unfold repK at h
   split at h
   · rcases List.mem_cons.1 h with rfl|h
     · exact ⟨z,List.mem_cons_self,rfl⟩
     · exact ⟨y,List.mem_cons_of_mem _ h,rfl⟩
   · rcases List.mem_cons.1 h with rfl|h
     · exact ⟨y,List.mem_cons_self,rfl⟩
     · obtain ⟨u,hu,e⟩:=rep_mem l y h
       exact ⟨u,List.mem_cons_of_mem _ hu,e⟩
theorem put_kind {x:PV×PV} {l:List (PV×PV)} (hx:x.1.kind=5) (h:∀y∈l,y.1.kind=5):∀y∈putK x l,y.1.kind=5:=by
 intro y hy
 unfold putK at hy
 split at hy
 · obtain ⟨z,hz,e⟩:=rep_mem l y hy
   rw [←e];exact h z hz
 · rcases (zgC l).1 hy with rfl|hy
   · exact hx
   · exact h y hy
theorem put_len (x:PV×PV) (l:List (PV×PV)):(putK x l).length≤l.length+1:=by
 unfold putK
 split
 · rw [rep_len];omega
 · rw [(zfl x l).length_eq];simp
structure DicM (w wr:World) (B:Nat) (sl:Value) (ps:List (PV×PV)):Prop where
 b0:wr.heap[B]?=some (.cells #[.int .i64 0,.int .i64 0,.string ⟨#[]⟩,.slice none 0 0] 48 (0,0))
 b1:wr.heap[B+1]?=some (.cells #[.int .i64 7,.int .i64 0,.string ⟨#[]⟩,sl] 48 (0,0))
 val:IsV wr (fun b=>B+1<b) (dctV ps) sl
 kinds:∀y∈ps,y.1.kind=5
 bel:Below w.heap.size w wr
 hB:w.heap.size≤B
theorem DicM.keep {w wr W:World} {B:Nat} {sl:Value} {ps:List (PV×PV)} (h:DicM w wr B sl ps) (hb:Below wr.heap.size wr W):DicM w W B sl ps :=
 ⟨zab hb h.b0,zab hb h.b1,h.val.below hb,h.kinds,h.bel.trans (hb.mono h.bel.size),h.hB⟩
theorem DicM.start (w:World) {B:Nat} (hB:B=w.heap.size):DicM w ((w.alloc (.cells #[.int .i64 0,.int .i64 0,.string ⟨#[]⟩,.slice none 0 0] 48)).alloc (.cells #[.int .i64 7,.int .i64 0,.string ⟨#[]⟩,.slice none 0 0] 48)) B (.slice none 0 0) [] :=
 ⟨zao _ (zac _ hB),zac _ (by rw [zas,hB]),IsV.leaf _ _ _ rfl,fun y hy=>(by cases hy),zcn _ _ _,Nat.le_of_eq hB.symm⟩
theorem DicM.put {w wr W : World} {B : Nat} {sl s' : Value} {ps : List (PV × PV)} {x : PV × PV} (h : DicM w wr B sl ps) (hx : x.1.kind = 5) (hv : IsV W (fun b => B + 1 < b ∨ wr.heap.size ≤ b) (dctV (putK x ps)) s') (hb : Below wr.heap.size wr W) :
   DicM w ((((W.setCell ⟨B+1,0,none⟩ (.int .i64 7)).setCell ⟨B+1,1,none⟩ (.int .i64 0)).setCell ⟨B+1,2,none⟩ (.string ⟨#[]⟩)).setCell ⟨B+1,3,none⟩ s') B s' (putK x ps):=by
 have hl:=zaj h.b1
 have hB:=h.hB
 refine ⟨(zaO (by omega) _ _ _ _).trans (zab hb h.b0),set4 (zab hb h.b1) _ _ _ _,IsV.keep ⟨by rw [zaN];exact Nat.le_refl _,fun b _ hF=>zaO ?_ _ _ _ _⟩ (fun b hF=>?_) _ hv,put_kind hx h.kinds,zad (h.bel.trans (hb.mono h.bel.size)) (by omega) _ _ _ _,h.hB⟩
 · rcases hF with hF|hF<;>omega
 · rcases hF with hF|hF
   · exact hF
   · show B+1<b
     omega
theorem DicM.fin {w W:World} {B:Nat} {sl:Value} {ps:List (PV×PV)} (h:DicM w W B sl ps) (y0 y1 y2 y3:Value) :
   Below w.heap.size w ((((W.setCell ⟨B,0,none⟩ y0).setCell ⟨B,1,none⟩ y1).setCell ⟨B,2,none⟩ y2).setCell ⟨B,3,none⟩ y3):=zad h.bel h.hB _ _ _ _
theorem findI_ge (key:List UInt8) (ps:List (PV×PV)):decide (0≤zfg key ps)=hasK key ps:=by
 rw [fIx_has]
 unfold zfg
 by_cases h:fIx key ps<ps.length
 · rw [if_pos h,decide_eq_true h];exact decide_eq_true (by omega)
 · rw [if_neg h,decide_eq_false h];exact decide_eq_false (by omega)
theorem dict_doc {w:World} {a:Option Addr} {cap:Nat} {bs:List UInt8} (hr:Row w 1 a bs.length cap (bs.map u8C)) (hn:bs.length≤399999) (last:Bool) (d:Nat) (hd:d≤64) (k0:Int) (hv:ValD bs last d) :
   Calls Tryz.prog 110 #[.slice a bs.length cap,.int .i64 k0,.bool last,.int .i64 (64-(d:Int))] w (zb1 w (zcs bs last (vlD bs last d) d (bs.length+1) [] false k0)):=by
 have HN:=Lib.hid (fun (W:World) (h:Below w.heap.size w W) (k:Int)=>zbR (hr.mono h) (by omega) k last)
 have HVL:=Lib.hid (fun (W:World) (h:Below w.heap.size w W) (x:Tk) (f tt:Int)=>hv W a cap (hr.mono h) x f tt)
 obtain ⟨fn,hfn⟩:∃fn,fn=vlD bs last d:=⟨_,rfl⟩
 rw [←hfn] at HVL ⊢
 obtain ⟨R,hR⟩:∃R,R=zcs bs last fn d (bs.length+1) [] false k0:=⟨_,rfl⟩
 rw [←hR]
 have HR:=Lib.hid hR
 clear hr hv hfn hR
 obtain ⟨D,hD⟩:∃D:Int,D=64-(d:Int):=⟨_,rfl⟩
 have HD:=Lib.hid (show decide (64≤D)=decide (d=0) by rw [hD];by_cases e:d=0<;>simp [e];omega)
 rw [←hD] at HVL ⊢
 clear hD
 obtain ⟨L,hL⟩:∃L,L=bs.length:=⟨_,rfl⟩
 rw [←hL] at HN HVL HR hn ⊢
 clear hL hd
 unfold zax tokN at HN
 unfold tokN at HVL
 go_enter Tryz.func110,Tryz.ntmps110
 obtain ⟨B,hB⟩:∃B,B=w.heap.size:=⟨_,rfl⟩
 have HM0:=Lib.hid (DicM.start w hB)
 go_upto_region 2 with fail
 rw [←hB]
 clear hB
 generalize (w.alloc _).alloc _=W1 at *
 go_wp2
 go_loopw [1,12,13] (fun vat vt vn wr=>∃(k:Int) (i:Nat) (tw:Bool) (sl:Value) (ps:List (PV×PV)),vat=.int .i64 k∧vt=.bool tw∧vn=.int .i64 i∧i≤L+1∧ps.length≤i∧Hid (DicM w wr B sl ps)∧Hid (R=zcs bs last fn d (L+1-i) ps tw k)) (fun _ _ vn _=>L+1-(intOf vn).toNat)
 case atStart=>exact ⟨k0,0,false,_,[],rfl,rfl,rfl,by omega,Nat.le_refl _,HM0,HR⟩
 case round =>
   obtain ⟨k,i,tw,sl,ps,rfl,rfl,rfl,hi,hps,HM,HRR⟩:=hrel
   by_cases q1:i≤L
   case neg =>
     obtain rfl:i=L+1:=by omega
     have hd1:decide (L+1≤L)=false:=decide_eq_false (by omega)
     have hd2:decide (((L+1:Nat):Int)≤(L:Int))=false:=decide_eq_false (by omega)
     have hd3:decide ((L:Int)+1≤(L:Int))=false:=decide_eq_false (by omega)
     have hrr:=HRR.out
     rw [Nat.sub_self] at hrr
     unfold zcs at hrr
     subst hrr
     clear HRR HR HN HVL q1 hi hps
     obtain ⟨⟨r0,r1,r2,r3⟩,rf0,rf1,rf2,rf3⟩:=zae HM.out.b0
     go_wp2
     refine bodyPost_ret (zah rfl _ _ B 48 _ (0,0) _ rfl (by exact set4 HM.out.b0 _ _ _ _) Tryz.underlying48 rfl (by exact zap) _ _ rfl rfl) rfl ?_
     exact zaD (R:=(PV.none,0,10)) rfl (HM.out.fin _ _ _ _)
   have hd1:decide (i≤L)=true:=decide_eq_true q1
   have hd2:decide ((i:Int)≤(L:Int))=true:=decide_eq_true (by omega)
   have hq2:(i:Int)≤(L:Int):=by omega
   have hi0:(0:Int)≤(i:Int):=by omega
   have hiw:IntKind.i64.wrap ((i:Int)+1)=(i:Int)+1:=IntWalk.i64_in _ (by omega)
   have hrr:=HRR.out
   rw [show L+1-i=(L-i)+1 by omega] at hrr
   unfold zcs at hrr
   simp only at hrr
   have HN1:=Lib.hid (HN.out _ HM.out.bel k)
   generalize zai bs k last=V at *
   obtain ⟨x,f,t,er⟩:=V
   simp only at hrr HN1
   clear HRR HR
   have HRR:=Lib.hid hrr
   clear hrr
   obtain ⟨xk,xvk,xvn,xvs,xs⟩:=x
   simp only at HN1 HRR
   generalize mkB xs=xb at *
   go_wp2_with fail
   refine HN1.out.mono ?_
   rintro e w2 ⟨rfl,hb2⟩
   have hb2a:=hb2.alloc hb2.size (.cells #[.int .i64 xk,.int .i64 f,.int .i64 t,.int .i64 xvk,.int .i64 xvn,.string (mkB xvs),.slice none 0 0,.string xb] 91)
   have HM2:=Lib.hid (HM.out.keep hb2a)
   have HT2:=Lib.hid (zac (w:=w2) (b:=w2.heap.size) (.cells #[.int .i64 xk,.int .i64 f,.int .i64 t,.int .i64 xvk,.int .i64 xvn,.string (mkB xvs),.slice none 0 0,.string xb] 91) rfl)
   have HrB:=Lib.hid (show B+1<w2.heap.size from Nat.lt_of_lt_of_le (zaj HM.out.b1) hb2.size)
   clear hb2 hb2a HN1 HM
   go_upto_region 7 with fail
   obtain ⟨r2,hr2⟩:∃r2,r2=w2.heap.size:=⟨_,rfl⟩
   rw [←hr2] at HT2 HrB ⊢
   clear hr2
   generalize w2.alloc _=W2 at *
   obtain ⟨⟨t0,t1,t2,t3,t4,t5,t6,t7⟩,-⟩:=zaf HT2.out
   obtain ⟨⟨r0,r1,r2',r3⟩,rf0,rf1,rf2,rf3⟩:=zae HM2.out.b0
   by_cases her:er=0
   case neg =>
     have e0:(er==0)=false:=by rw [beq_eq_false_iff_ne];exact her
     have e1:(er != 0)=true:=by simp only [bne,e0,Bool.not_false]
     have hrr:=HRR.out
     rw [if_pos her] at hrr
     subst hrr
     clear HRR HN HVL her
     clear t0 t1 t2 t3 t4 t5 t6 t7
     go_wp2
     refine bodyPost_ret (zah rfl _ _ B 48 _ (0,0) _ rfl (by exact set4 HM2.out.b0 _ _ _ _) Tryz.underlying48 rfl (by exact zap) _ _ rfl rfl) rfl ?_
     exact zaD (R:=(PV.none,0,er)) rfl (HM2.out.fin _ _ _ _)
   subst her
   have hrr:=HRR.out
   rw [if_neg (by simp)] at hrr
   by_cases hk5:xk=5
   · have e5 : (xk == 5) = true := by rw [hk5]; rfl
     rw [if_pos hk5] at hrr
     cases tw with
     | true =>
       rw [if_pos rfl] at hrr
       subst hrr
       clear HRR HN HVL hk5
       go_wp2
       refine bodyPost_ret (zah rfl _ _ B 48 _ (0,0) _ rfl (by exact set4 HM2.out.b0 _ _ _ _) Tryz.underlying48 rfl (by exact zap) _ _ rfl rfl) rfl ?_
       exact zaD (R:=(PV.none,0,16)) rfl (HM2.out.fin _ _ _ _)
     | false =>
       rw [if_neg (by decide)] at hrr
       subst hrr
       obtain ⟨sa,sc,rfl,-⟩:=HM2.out.val.len
       have hrB:r2≠B:=by have:=HrB.out;omega
       have hB1:B+1≠B:=by omega
       obtain ⟨⟨d0,d1,d2,d3⟩,-⟩:=zae HM2.out.b1
       clear HRR HN HVL hk5
       go_wp2
       go_region
       all_goals
         go_wp2
         refine bodyPost_ret (zah rfl _ _ B 48 _ (0,0) _ rfl (by exact set4 HM2.out.b0 _ _ _ _) Tryz.underlying48 rfl (by exact zap) _ _ rfl rfl) rfl ?_
         have hwB:=HM2.out.hB
         refine ⟨_,rfl,?_,(HM2.out.fin _ _ _ _).drew⟩
         exact (IsV.keep (F:=fun b=>B+1<b) ⟨by rw [zaN];exact Nat.le_refl _,fun b _ hF=>zaO (by omega) _ _ _ _⟩ (fun b hF=>by show w.heap.size≤b;omega) _ HM2.out.val).below (Below.refl _ _).drew
   have e5:(xk==5)=false:=by rw [beq_eq_false_iff_ne];exact hk5
   rw [if_neg hk5] at hrr
   by_cases hk0:xk=0
   · have e0 : (xk == 0) = true := by rw [hk0]; rfl
     rw [if_pos hk0] at hrr
     subst hrr
     clear HRR HN HVL hk5 hk0
     go_wp2
     refine bodyPost_ret (zah rfl _ _ B 48 _ (0,0) _ rfl (by exact set4 HM2.out.b0 _ _ _ _) Tryz.underlying48 rfl (by exact zap) _ _ rfl rfl) rfl ?_
     exact zaD (R:=(PV.none,0,10)) rfl (HM2.out.fin _ _ _ _)
   have e0:(xk==0)=false:=by rw [beq_eq_false_iff_ne];exact hk0
   rw [if_neg hk0] at hrr
   by_cases hk1:xk=1
   case neg =>
     have e1:(xk==1)=false:=by rw [beq_eq_false_iff_ne];exact hk1
     have e2:(xk != 1)=true:=by simp only [bne,e1,Bool.not_false]
     rw [if_pos (.inl hk1)] at hrr
     subst hrr
     clear HRR HN HVL hk5 hk0 hk1
     go_wp2
     refine bodyPost_ret (zah rfl _ _ B 48 _ (0,0) _ rfl (by exact set4 HM2.out.b0 _ _ _ _) Tryz.underlying48 rfl (by exact zap) _ _ rfl rfl) rfl ?_
     exact zaD (R:=(PV.none,0,11)) rfl (HM2.out.fin _ _ _ _)
   have e1:(xk != 1)=false:=by rw [hk1];rfl
   by_cases hv5:xvk=5
   case neg =>
     have e3:(xvk==5)=false:=by rw [beq_eq_false_iff_ne];exact hv5
     have e4:(xvk != 5)=true:=by simp only [bne,e3,Bool.not_false]
     rw [if_pos (.inr hv5)] at hrr
     subst hrr
     clear HRR HN HVL hk5 hk0 hk1 hv5
     go_wp2
     refine bodyPost_ret (zah rfl _ _ B 48 _ (0,0) _ rfl (by exact set4 HM2.out.b0 _ _ _ _) Tryz.underlying48 rfl (by exact zap) _ _ rfl rfl) rfl ?_
     exact zaD (R:=(PV.none,0,11)) rfl (HM2.out.fin _ _ _ _)
   have e3:(xvk != 5)=false:=by rw [hv5];rfl
   rw [if_neg (by rintro (h|h);exact h hk1;exact h hv5)] at hrr
   have hDd:=HD.out
   by_cases hdz:d=0
   · rw [decide_eq_true hdz] at hDd
     rw [if_pos hdz] at hrr
     subst hrr
     clear HRR HN HVL hk5 hk0 hk1 hv5 hdz HD
     go_wp2
     refine bodyPost_ret (zah rfl _ _ B 48 _ (0,0) _ rfl (by exact set4 HM2.out.b0 _ _ _ _) Tryz.underlying48 rfl (by exact zap) _ _ rfl rfl) rfl ?_
     exact zaD (R:=(PV.none,0,15)) rfl (HM2.out.fin _ _ _ _)
   rw [decide_eq_false hdz] at hDd
   rw [if_neg hdz] at hrr
   have HN2:=Lib.hid (HN.out _ HM2.out.bel t)
   generalize zai bs t last=V at *
   obtain ⟨u,uf,ut,ue⟩:=V
   simp only at hrr HN2
   clear HRR
   have HRR:=Lib.hid hrr
   have HV3:=Lib.hid (fun (W:World) (h:Below w.heap.size w W)=>HVL.out W h u uf ut)
   clear hrr hk5 hk0 hk1 hv5 hdz
   generalize fn u ut=R1 at *
   obtain ⟨uk,uvk,uvn,uvs,us⟩:=u
   simp only at HN2 HV3
   generalize mkB uvs=uvb at *
   generalize mkB us=ub at *
   go_wp2_with fail
   refine HN2.out.mono ?_
   rintro e w3 ⟨rfl,hb3⟩
   have hb3a:=hb3.alloc hb3.size (.cells #[.int .i64 uk,.int .i64 uf,.int .i64 ut,.int .i64 uvk,.int .i64 uvn,.string uvb,.slice none 0 0,.string ub] 91)
   have HM3:=Lib.hid (HM2.out.keep hb3a)
   have HT3:=Lib.hid (zab hb3a HT2.out)
   have HU3:=Lib.hid (zac (w:=w3) (b:=w3.heap.size) (.cells #[.int .i64 uk,.int .i64 uf,.int .i64 ut,.int .i64 uvk,.int .i64 uvn,.string uvb,.slice none 0 0,.string ub] 91) rfl)
   clear t0 t1 t2 t3 t4 t5 t6 t7 r0 r1 r2' r3 rf0 rf1 rf2 rf3
   clear hb3 hb3a HN2 HM2 HT2
   go_upto_region 20 with fail
   obtain ⟨r3,hr3⟩:∃r3,r3=w3.heap.size:=⟨_,rfl⟩
   rw [←hr3] at HU3 ⊢
   clear hr3
   generalize w3.alloc _=W3 at *
   obtain ⟨⟨t0,t1,t2,t3,t4,t5,t6,t7⟩,-⟩:=zaf HT3.out
   obtain ⟨⟨u0,u1,u2,u3,u4,u5,u6,u7⟩,-⟩:=zaf HU3.out
   obtain ⟨⟨r0,r1,r2',r3⟩,rf0,rf1,rf2,rf3⟩:=zae HM3.out.b0
   by_cases hue:ue=0
   case neg =>
     have e7:(ue==0)=false:=by rw [beq_eq_false_iff_ne];exact hue
     have e8:(ue != 0)=true:=by simp only [bne,e7,Bool.not_false]
     have hrr:=HRR.out
     rw [if_pos hue] at hrr
     subst hrr
     clear HRR HN HVL hue
     go_wp2
     refine bodyPost_ret (zah rfl _ _ B 48 _ (0,0) _ rfl (by exact set4 HM3.out.b0 _ _ _ _) Tryz.underlying48 rfl (by exact zap) _ _ rfl rfl) rfl ?_
     exact zaD (R:=(PV.none,0,ue)) rfl (HM3.out.fin _ _ _ _)
   subst hue
   have hrr:=HRR.out
   rw [if_neg (by simp)] at hrr
   clear HRR
   have HRR:=Lib.hid hrr
   clear hrr
   go_wp2_with fail
   refine (HV3.out _ HM3.out.bel).mono ?_
   rintro e w4 ⟨sl4,rfl,hV4,hb4⟩
   obtain ⟨sa,sc,rfl,-⟩:=hV4.len
   obtain ⟨X,n,ev⟩:=R1
   simp only at HRR hV4
   have HM4:=Lib.hid (HM3.out.keep hb4)
   have HT4:=Lib.hid (zab hb4 HT3.out)
   have HV4:=Lib.hid (IsV.weaken hV4 (G:=fun b=>B+1<b) (fun b hb=>Nat.lt_of_lt_of_le (zaj HM3.out.b1) hb))
   clear t0 t1 t2 t3 t4 t5 t6 t7 u0 u1 u2 u3 u4 u5 u6 u7 r0 r1 r2' r3 rf0 rf1 rf2 rf3
   clear hV4 hb4 HM3 HT3 HU3 HV3
   unfold pvA
   obtain ⟨O4,hO4⟩:∃O4:Obj,O4=.cells #[.int .i64 X.kind,.int .i64 X.n,.string (mkB X.s),.slice sa X.l.length sc] 48:=⟨_,rfl⟩
   have hb5:=zam w4 O4
   have HM5:=Lib.hid (HM4.out.keep hb5)
   have HT5:=Lib.hid (zab hb5 HT4.out)
   have HV5:=Lib.hid (HV4.out.below hb5)
   have HK5:=Lib.hid (zac (w:=w4) (b:=w4.heap.size) O4 rfl)
   rw [hO4] at HM5 HT5 HV5 HK5
   clear hb5 hO4 HM4 HT4 HV4 O4
   go_upto_region 23 with fail
   obtain ⟨r5,hr5⟩:∃r5,r5=w4.heap.size:=⟨_,rfl⟩
   rw [←hr5] at HK5 ⊢
   clear hr5
   generalize w4.alloc _=W5 at *
   obtain ⟨⟨t0,t1,t2,t3,t4,t5,t6,t7⟩,-⟩:=zaf HT5.out
   obtain ⟨⟨x0,x1,x2,x3⟩,-⟩:=zae HK5.out
   obtain ⟨⟨r0,r1,r2',r3⟩,rf0,rf1,rf2,rf3⟩:=zae HM5.out.b0
   by_cases her:ev=0
   case neg =>
     have e7:(ev==0)=false:=by rw [beq_eq_false_iff_ne];exact her
     have e8:(ev != 0)=true:=by simp only [bne,e7,Bool.not_false]
     have hrr:=HRR.out
     rw [if_pos her] at hrr
     subst hrr
     clear HRR HN HVL her
     go_wp2
     refine bodyPost_ret (zah rfl _ _ B 48 _ (0,0) _ rfl (by exact set4 HM5.out.b0 _ _ _ _) Tryz.underlying48 rfl (by exact zap) _ _ rfl rfl) rfl ?_
     exact zaD (R:=(PV.none,0,ev)) rfl (HM5.out.fin _ _ _ _)
   subst her
   have hrr:=HRR.out
   rw [if_neg (by simp)] at hrr
   clear HRR
   have HRR:=Lib.hid hrr
   clear hrr
   have HFI:=Lib.hid (fun (W:World) (h:Below W5.heap.size W5 W)=>zgE (HM5.out.val.below h) HM5.out.kinds xvs)
   have HPU:=Lib.hid (fun (W:World) (h:Below W5.heap.size W5 W)=>put_any (HM5.out.val.below h) HM5.out.kinds xvs (HV5.out.below h) (by omega))
   have hge:=findI_ge xvs ps
   obtain ⟨sa5,sc5,hse,-⟩:=HM5.out.val.len
   subst hse
   obtain ⟨N5,hN5⟩:∃N5,N5=(dctV ps).l.length:=⟨_,rfl⟩
   rw [←hN5] at HM5 HFI HPU
   clear hN5
   obtain ⟨⟨g0,g1,g2,g3⟩,gf0,gf1,gf2,gf3⟩:=zae HM5.out.b1
   unfold pvA at HFI HPU
   rw [show (dctV ps).kind=7 from rfl,show (dctV ps).n=0 from rfl,show mkB (dctV ps).s=⟨#[]⟩ from rfl] at HFI HPU
   obtain ⟨FI,hFI⟩:∃FI,FI=zfg xvs ps:=⟨_,rfl⟩
   rw [←hFI] at HFI hge
   clear hFI
   have HGE:=Lib.hid hge
   clear hge
   generalize hhk:hasK xvs ps=hh at *
   clear hhk
   cases tw with
   | true =>
     clear HFI HGE
     go_upto_region 26 with fail
     go_wp2_with fail
     refine (HPU.out _ (Below.refl _ _)).mono ?_
     rintro e W7 ⟨s7,rfl,hV7,hb7⟩
     obtain ⟨sa7,sc7,hs7,-⟩:=hV7.len
     subst hs7
     have HM7:=Lib.hid (HM5.out.put rfl hV7 hb7)
     have HBB:=Lib.hid (zab hb7 HM5.out.b1)
     clear t0 t1 t2 t3 t4 t5 t6 t7 x0 x1 x2 x3 g0 g1 g2 g3 gf0 gf1 gf2 gf3 r0 r1 r2' r3 rf0 rf1 rf2 rf3
     clear hV7 hb7
     obtain ⟨⟨g0,g1,g2,g3⟩,gf0,gf1,gf2,gf3⟩:=zae HBB.out
     rw [show (dctV (putK (PV.mk 5 0 xvs [],X) ps)).kind=7 from rfl,show (dctV (putK (PV.mk 5 0 xvs [],X) ps)).n=0 from rfl,show mkB (dctV (putK (PV.mk 5 0 xvs [],X) ps)).s=⟨#[]⟩ from rfl]
     go_wp2
     go_roundw
     case rel=>exact ⟨n,i+1,true,_,_,rfl,rfl,by go_num,by omega,by have:=put_len (.mk 5 0 xvs [],X) ps;omega,HM7,by rw [show L+1-(i+1)=L-i by omega];exact HRR⟩
     case measure=>simp [intOf];omega
   | false =>
     have hge:=HGE.out
     go_upto_region 25 with fail
     go_wp2_with fail
     refine (HFI.out _ (Below.refl _ _)).mono ?_
     rintro e W6 ⟨rfl,hb6⟩
     have HM6:=Lib.hid (HM5.out.keep hb6)
     have HT6:=Lib.hid (zab hb6 HT5.out)
     have HK6:=Lib.hid (zab hb6 HK5.out)
     have HB6:=Lib.hid hb6
     clear hb6 t0 t1 t2 t3 t4 t5 t6 t7 x0 x1 x2 x3 g0 g1 g2 g3 gf0 gf1 gf2 gf3 r0 r1 r2' r3 rf0 rf1 rf2 rf3
     obtain ⟨⟨t0,t1,t2,t3,t4,t5,t6,t7⟩,-⟩:=zaf HT6.out
     obtain ⟨⟨x0,x1,x2,x3⟩,-⟩:=zae HK6.out
     obtain ⟨⟨g0,g1,g2,g3⟩,gf0,gf1,gf2,gf3⟩:=zae HM6.out.b1
     obtain ⟨⟨r0,r1,r2',r3⟩,rf0,rf1,rf2,rf3⟩:=zae HM6.out.b0
     cases hh
     · have hge:=HGE.out
       go_wp2_with fail
       refine (HPU.out _ HB6.out).mono ?_
       rintro e W7 ⟨s7,rfl,hV7,hb7⟩
       obtain ⟨sa7,sc7,hs7,-⟩:=hV7.len
       subst hs7
       have HM7:=Lib.hid (HM6.out.put rfl hV7 hb7)
       have HBB:=Lib.hid (zab hb7 HM6.out.b1)
       clear t0 t1 t2 t3 t4 t5 t6 t7 x0 x1 x2 x3 g0 g1 g2 g3 gf0 gf1 gf2 gf3 r0 r1 r2' r3 rf0 rf1 rf2 rf3
       clear hV7 hb7
       obtain ⟨⟨g0,g1,g2,g3⟩,gf0,gf1,gf2,gf3⟩:=zae HBB.out
       rw [show (dctV (putK (PV.mk 5 0 xvs [],X) ps)).kind=7 from rfl,show (dctV (putK (PV.mk 5 0 xvs [],X) ps)).n=0 from rfl,show mkB (dctV (putK (PV.mk 5 0 xvs [],X) ps)).s=⟨#[]⟩ from rfl]
       go_wp2
       go_roundw
       case rel=>exact ⟨n,i+1,false,_,_,rfl,rfl,by go_num,by omega,by have:=put_len (.mk 5 0 xvs [],X) ps;omega,HM7,by rw [show L+1-(i+1)=L-i by omega];exact HRR⟩
       case measure=>simp [intOf];omega
     · have hge:=HGE.out
       go_wp2_with fail
       refine (HPU.out _ HB6.out).mono ?_
       rintro e W7 ⟨s7,rfl,hV7,hb7⟩
       obtain ⟨sa7,sc7,hs7,-⟩:=hV7.len
       subst hs7
       have HM7:=Lib.hid (HM6.out.put rfl hV7 hb7)
       have HBB:=Lib.hid (zab hb7 HM6.out.b1)
       clear t0 t1 t2 t3 t4 t5 t6 t7 x0 x1 x2 x3 g0 g1 g2 g3 gf0 gf1 gf2 gf3 r0 r1 r2' r3 rf0 rf1 rf2 rf3
       clear hV7 hb7
       obtain ⟨⟨g0,g1,g2,g3⟩,gf0,gf1,gf2,gf3⟩:=zae HBB.out
       rw [show (dctV (putK (PV.mk 5 0 xvs [],X) ps)).kind=7 from rfl,show (dctV (putK (PV.mk 5 0 xvs [],X) ps)).n=0 from rfl,show mkB (dctV (putK (PV.mk 5 0 xvs [],X) ps)).s=⟨#[]⟩ from rfl]
       go_wp2
       go_roundw
       case rel=>exact ⟨n,i+1,true,_,_,rfl,rfl,by go_num,by omega,by have:=put_len (.mk 5 0 xvs [],X) ps;omega,HM7,by rw [show L+1-(i+1)=L-i by omega];exact HRR⟩
       case measure=>simp [intOf];omega
theorem val_doc {bs:List UInt8} (hn:bs.length≤399999) (last:Bool):∀d,d≤64→ValD bs last d
 | 0, _ => fun w a cap hr x f tt => by
   have h64:(64-((0:Nat):Int))=64:=rfl
   rw [h64]
   unfold vlD
   by_cases k0:x.kind=0
   · rw [if_pos k0];exact value_k0 last x f tt 64 k0
   rw [if_neg k0]
   by_cases k2:x.kind=2
   · rw [if_pos (.inl k2)];exact value_d2 last x f tt 64 k2 (by omega)
   by_cases k4:x.kind=4
   · rw [if_pos (.inr k4)];exact value_d4 last x f tt 64 k4 (by omega)
   rw [if_neg (by omega)]
   by_cases k3:x.kind=3
   · rw [if_pos (.inl k3)];exact value_k3 last x f tt 64 k3
   by_cases k5:x.kind=5
   · rw [if_pos (.inr k5)];exact value_k5 last x f tt 64 k5
   rw [if_neg (by omega)]
   have h:=zfw hr (by omega) last x f tt 64 ⟨k0,k2,k3,k4,k5⟩
   rw [if_pos (show (64:Int)≤64 by omega)] at h
   exact h
 | d + 1, hd => fun w a cap hr x f tt => by
   have hv:=val_doc hn last d (by omega)
   have hD:(64-((d+1:Nat):Int))+1=64-(d:Int):=by push_cast;omega
   have hD2:¬(64:Int)≤64-((d+1:Nat):Int):=by push_cast;omega
   have hD3:(0:Int)≤64-((d+1:Nat):Int):=by push_cast;omega
   unfold vlD
   by_cases k0:x.kind=0
   · rw [if_pos k0];exact value_k0 last x f tt _ k0
   rw [if_neg k0]
   by_cases k2:x.kind=2
   · rw [if_pos k2]
     refine value_o2 last x f tt _ k2 hD2 hD3 fun W hW=>?_
     rw [hD]
     exact array_doc (hr.mono hW) (by omega) last d tt hv
   rw [if_neg k2]
   by_cases k4:x.kind=4
   · rw [if_pos k4]
     refine value_o4 last x f tt _ k4 hD2 hD3 fun W hW=>?_
     rw [hD]
     exact dict_doc (hr.mono hW) hn last d (by omega) tt hv
   rw [if_neg k4]
   by_cases k3:x.kind=3
   · rw [if_pos (.inl k3)];exact value_k3 last x f tt _ k3
   by_cases k5:x.kind=5
   · rw [if_pos (.inr k5)];exact value_k5 last x f tt _ k5
   rw [if_neg (by omega)]
   have h:=zfw hr (by omega) last x f tt (64-((d+1:Nat):Int)) ⟨k0,k2,k3,k4,k5⟩
   rw [if_neg hD2] at h
   by_cases he:(zbF bs last x tt).2.2≠0
   · rw [if_pos he,←zfH bs last x tt he] at h
     exact h
   · rw [if_neg he] at h
     exact h
theorem rvalue_any {w:World} {a:Option Addr} {cap:Nat} {bs:List UInt8} (hr:Row w 1 a bs.length cap (bs.map u8C)) (hn:bs.length≤399999) (last:Bool) (k:Int) :
   Calls Tryz.prog 43 #[.slice a bs.length cap,.int .i64 k,.bool last] w (zb1 w (zbE bs last k)):=by
 have HN:=Lib.hid (fun (W:World) (h:Below w.heap.size w W)=>zbR (hr.mono h) (by omega) k last)
 have HV:=Lib.hid (fun (W:World) (h:Below w.heap.size w W) (f:Int)=>val_doc hn last 64 (Nat.le_refl _) W a cap (hr.mono h) (zai bs k last).1 f (zai bs k last).2.2.1)
 obtain ⟨R,hR⟩:∃R,R=zbE bs last k:=⟨_,rfl⟩
 rw [←hR]
 unfold zbE at hR
 generalize zai bs k last=V at *
 obtain ⟨x,f,t,er⟩:=V
 simp only at hR HV
 rw [show (64-((64:Nat):Int))=0 from rfl] at HV
 unfold zax tokN at HN
 unfold tokN at HV
 simp only at HN
 have HR:=Lib.hid hR
 clear hr hR
 generalize vlD bs last 64 x t=R1 at *
 generalize x.kind=xk at *
 generalize x.vk=xvk at *
 generalize x.vn=xvn at *
 generalize mkB x.vs=xvb at *
 generalize mkB x.s=xb at *
 generalize bs.length=L at *
 go_enter Tryz.func43,Tryz.ntmps43
 obtain ⟨B,hB⟩:∃B,B=w.heap.size:=⟨_,rfl⟩
 have HZ:=Lib.hid (zac (w:=w) (b:=B) (.cells #[.int .i64 0,.int .i64 0,.string ⟨#[]⟩,.slice none 0 0] 48) hB)
 have HBW:=Lib.hid (zam w (.cells #[.int .i64 0,.int .i64 0,.string ⟨#[]⟩,.slice none 0 0] 48))
 have HBB:=Lib.hid (Nat.le_of_eq hB.symm)
 go_upto_region 1 with fail
 rw [←hB]
 clear hB
 generalize w.alloc _=W1 at *
 go_wp2_with fail
 refine (HN.out _ HBW.out).mono ?_
 rintro e w2 ⟨rfl,hb2⟩
 have hb2a:=hb2.alloc hb2.size (.cells #[.int .i64 xk,.int .i64 f,.int .i64 t,.int .i64 xvk,.int .i64 xvn,.string xvb,.slice none 0 0,.string xb] 91)
 have HT2:=Lib.hid (zac (w:=w2) (b:=w2.heap.size) (.cells #[.int .i64 xk,.int .i64 f,.int .i64 t,.int .i64 xvk,.int .i64 xvn,.string xvb,.slice none 0 0,.string xb] 91) rfl)
 have HZ2:=Lib.hid (zab hb2a HZ.out)
 have HB2:=Lib.hid (HBW.out.trans (hb2a.mono HBW.out.size))
 have HL2:=Lib.hid (show B<w2.heap.size from Nat.lt_of_lt_of_le (zaj HZ.out) hb2.size)
 clear hb2 hb2a HN HZ
 go_upto_region 2 with fail
 obtain ⟨r2,hr2⟩:∃r2,r2=w2.heap.size:=⟨_,rfl⟩
 rw [←hr2] at HT2 ⊢
 have HWL:=Lib.hid (show B<(w2.alloc (.cells #[.int .i64 xk,.int .i64 f,.int .i64 t,.int .i64 xvk,.int .i64 xvn,.string xvb,.slice none 0 0,.string xb] 91)).heap.size by rw [zas];have:=HL2.out;omega)
 clear hr2 HL2
 generalize w2.alloc _=W2 at *
 obtain ⟨⟨t0,t1,t2,t3,t4,t5,t6,t7⟩,-⟩:=zaf HT2.out
 obtain ⟨⟨r0,r1,r2',r3⟩,rf0,rf1,rf2,rf3⟩:=zae HZ2.out
 have hR:=HR.out
 by_cases her:er=0
 case neg =>
   have e0:(er==0)=false:=by rw [beq_eq_false_iff_ne];exact her
   have e1:(er != 0)=true:=by simp only [bne,e0,Bool.not_false]
   rw [if_pos her] at hR
   subst hR
   clear HR HV her
   go_wp2
   refine bodyPost_ret (zah rfl _ _ B 48 _ (0,0) _ rfl (by exact set4 HZ2.out _ _ _ _) Tryz.underlying48 rfl (by exact zap) _ _ rfl rfl) rfl ?_
   exact zaD (R:=(PV.none,0,er)) rfl (zad HB2.out HBB.out _ _ _ _)
 subst her
 rw [if_neg (by simp)] at hR
 subst hR
 clear HR
 go_wp2_with fail
 refine (HV.out _ HB2.out f).mono ?_
 rintro e w3 ⟨sl,rfl,hV3,hb3⟩
 have HZ3:=Lib.hid (zab hb3 HZ2.out)
 obtain ⟨sa,sc,rfl,-⟩:=hV3.len
 have HV3:=Lib.hid hV3
 have HB3:=Lib.hid (HB2.out.trans (hb3.mono HB2.out.size))
 have HWS:=Lib.hid HB2.out.size
 clear hV3 hb3 t0 t1 t2 t3 t4 t5 t6 t7 r0 r1 r2' r3 rf0 rf1 rf2 rf3 HT2 HV HZ2
 obtain ⟨⟨r0,r1,r2',r3⟩,rf0,rf1,rf2,rf3⟩:=zae HZ3.out
 unfold pvA
 go_wp2
 refine bodyPost_ret (zah rfl _ _ B 48 _ (0,0) _ rfl (by exact set4 HZ3.out _ _ _ _) Tryz.underlying48 rfl (by exact zap) _ _ rfl rfl) rfl ?_
 exact ⟨_,rfl,IsV.keep (F:=fun b=>W2.heap.size≤b) ⟨by rw [zaN];exact Nat.le_refl _,fun b _ hb=>zaO (by have:=HWL.out;omega) _ _ _ _⟩ (fun b hb=>Nat.le_trans HWS.out hb) _ HV3.out,zad HB3.out HBB.out _ _ _ _⟩
structure VAt (w W:World) (F:Nat→Prop) (r p:Nat) (a:Option Addr) (cap:Nat) (bs:List UInt8) (last:Bool) (V:PV×Int×Int) (n:Nat) (st:List Lv) (at_:Int):Prop where
 stk:Stk w W F (fun b=>b=r) p a cap bs last st at_
 res:W.heap[r]?=some (.cells #[.int .i64 0,.int .i64 0,.string ⟨#[]⟩,.slice none 0 0] 48 (0,0))
 fuel:valO bs last n st at_=some V
 len:∀v∈st,(v.l.length:Int)≤at_
 rng:st=[]∨(0≤at_∧at_≤bs.length)
def ValI (w:World) (r p:Nat) (a:Option Addr) (cap:Nat) (bs:List UInt8) (last:Bool) (at0:Int) (V:PV×Int×Int) (n:Nat) (act:Act) (W:World):Prop :=
 ∃(F:Nat→Prop) (st:List Lv) (at_:Int) (u10 u11 u12 u13 u14 u15 u16 u17 u18 u19 u20 u21 u22 u23 u24 u25 u26 u27 u28 u29 u30 u31 u32 u33 u34 u35 u36 u37 u38 u39 u40 u41 u42 u43 u44 u45 u46 u47 u48 u49 u50 u51 u52 u53 u54 u55 u56 u57 u58 u59 u60 u61:Value),Hid (VAt w W F r p a cap bs last V n st at_) ∧
   act={ tmps:=#[.slice a bs.length cap,.int .i64 at0,.bool last,undef,undef,undef,.pointer (some ⟨r,0,none⟩),.int .i64 0,.int .i64 0,.pointer (some ⟨p,0,none⟩),u10,u11,u12,u13,u14,u15,u16,u17,u18,u19,u20,u21,u22,u23,u24,u25,u26,u27,u28,u29,u30,u31,u32,u33,u34,u35,u36,u37,u38,u39,u40,u41,u42,u43,u44,u45,u46,u47,u48,u49,u50,u51,u52,u53,u54,u55,u56,u57,u58,u59,u60,u61],defers:=[] }
def ValEnd (w:World) (V:PV×Int×Int) (e:Ending) (w':World):Prop :=
 ∃sl,e=.returned (.tuple #[pvA V.1 sl,.int .i64 V.2.1,.int .i64 V.2.2])∧IsV w' (fun b=>w.heap.size≤b) V.1 sl∧Below w.heap.size w w'
theorem VAt.small {w W:World} {F:Nat→Prop} {r p:Nat} {a:Option Addr} {cap:Nat} {bs:List UInt8} {last:Bool} {V:PV×Int×Int} {n:Nat} {st:List Lv} {at_:Int} (h:VAt w W F r p a cap bs last V n st at_):∀v∈st,v.l.length≤400000:=by
 intro v hv
 obtain ⟨gs,osl,hs⟩:=h.stk
 have:=h.len v hv
 have hsm:=hs.small
 rcases h.rng with h0|h0
 · subst h0;cases hv
 · omega
theorem stepV_len {bs:List UInt8} {last:Bool} {st:List Lv} {k:Int} {t:Tk} {N:Int} (hN:0≤N) (h:∀v∈st,(v.l.length:Int)≤N):∀v∈(za5 bs last st k t).2.1,(v.l.length:Int)≤N:=by
 unfold za5
 split
 · exact h
 · split
   · show ∀v∈(zcb st _).1,_
     unfold zcb
     split
     · exact h
     · split
       · exact h
       · intro v hv
         rcases List.mem_cons.1 hv with rfl|hv
         · exact hN
         · exact h v hv
   · split
     · have he:∀d,∀v∈(zbG st d).2.1,(v.l.length:Int)≤N:=by
         intro d
         unfold zbG
         split
         · exact h
         · rename_i v rest
           have hr:∀u∈rest,(u.l.length:Int)≤N:=fun u hu=>h u (List.mem_cons_of_mem _ hu)
           split
           · exact h
           · split
             · exact hr
             · split
               · exact h
               · exact hr
       simp only
       split
       · exact he _
       · exact he _
     · simp only
       split
       · exact h
       · split
         · exact h
         · exact h
theorem IsV.setr {w W : World} {F : Nat → Prop} {r p : Nat} {a : Option Addr} {cap : Nat} {bs : List UInt8} {last : Bool} {st : List Lv} {at_ : Int} {gs : List Nat} {osl : Value} {v : PV} {sl : Value} (h : IsV W F v sl) (hs : zav w W F (fun b => b = r) p a cap bs last st at_ gs osl) (y0 y1 y2 y3 : Value) :
   IsV ((((W.setCell ⟨r,0,none⟩ y0).setCell ⟨r,1,none⟩ y1).setCell ⟨r,2,none⟩ y2).setCell ⟨r,3,none⟩ y3) (fun b=>w.heap.size≤b) v sl :=
 IsV.keep ⟨by rw [zaN];exact Nat.le_refl _,fun b _ hf=>zaS (fun e=>(hs.fb b hf).2.1 e) _ _ _ _⟩ (fun b hf=>(hs.fb b hf).1) v h
def S5v (w:World) (v:Nat) (y0 y1 y2 y3:Value):Prop:=w.cell? ⟨v,0,none⟩=some y0∧w.cell? ⟨v,1,none⟩=some y1∧w.cell? ⟨v,2,none⟩=some y2∧w.cell? ⟨v,3,none⟩=some y3
theorem S5v.drew {w:World} {v:Nat} {y0 y1 y2 y3:Value} (h:S5v w v y0 y1 y2 y3):S5v w.drew v y0 y1 y2 y3:=h
theorem S5v.alloc {w:World} {v:Nat} {y0 y1 y2 y3:Value} (h:S5v w v y0 y1 y2 y3) (o:Obj):S5v (w.alloc o) v y0 y1 y2 y3 :=
 ⟨zbv o h.1,zbv o h.2.1,zbv o h.2.2.1,zbv o h.2.2.2⟩
theorem S5v.grown {w w':World} {row:Option Nat} {v:Nat} {y0 y1 y2 y3:Value} (h:S5v w v y0 y1 y2 y3) (hg:w.grownBy w' row) (h2:row≠some v):S5v w' v y0 y1 y2 y3:=by
 have k : ∀ b o y, row ≠ some b → w.cell? ⟨b, o, none⟩ = some y → w'.cell? ⟨b, o, none⟩ = some y := fun b o y hb hc => by
   rw [World.cell?_of_block (w:=w) (a:=⟨b,o,none⟩) (hg.block b (World.block_lt_of_cell? w _ hc) (fun e=>hb e.symm))];exact hc
 exact ⟨k _ _ _ h2 h.1,k _ _ _ h2 h.2.1,k _ _ _ h2 h.2.2.1,k _ _ _ h2 h.2.2.2⟩
theorem S5v.set {w:World} {v b:Nat} {y0 y1 y2 y3:Value} (h:S5v w v y0 y1 y2 y3) (h2:v≠b) (o:Nat) (z:Value):S5v (w.setCell ⟨b,o,none⟩ z) v y0 y1 y2 y3:=by
 have k : ∀ c o' y, c ≠ b → w.cell? ⟨c, o', none⟩ = some y → (w.setCell ⟨b, o, none⟩ z).cell? ⟨c, o', none⟩ = some y := fun c o' y hb hc => by
   rw [World.cell?_of_block (w:=w) (a:=⟨c,o',none⟩) (heap_setCell_other _ _ _ _ hb)];exact hc
 exact ⟨k _ _ _ h2 h.1,k _ _ _ h2 h.2.1,k _ _ _ h2 h.2.2.1,k _ _ _ h2 h.2.2.2⟩
theorem owns_lastC {w:World} {base g n cap:Nat} {cs:List Value} {z0 z1 z2 z3:Value} (h:w.ownsRow base 48 4 (.slice (some ⟨g,0,none⟩) (n+1) cap) (n+1) (cs++[z0,z1,z2,z3])) :
   (w.cell? ⟨g,n * 4,none⟩=some z0∧w.cell? ⟨g,n * 4+1,none⟩=some z1∧w.cell? ⟨g,n * 4+2,none⟩=some z2∧w.cell? ⟨g,n * 4+3,none⟩=some z3)∧(∀j,w.frozen? ⟨g,j,none⟩=false):=by
 have hl:cs.length=n * 4:=by have:=h.1;simp at this;omega
 rcases h.2 with ⟨e,-⟩|⟨g',cap',cur,e,hb,hh,hn,hm,hs,ht⟩
 · cases e
 · simp only [Value.slice.injEq,Option.some.injEq,Addr.mk.injEq] at e
   obtain ⟨⟨rfl,-⟩,-,rfl⟩:=e
   have hc : ∀ j z, (cs ++ [z0, z1, z2, z3])[j]? = some z → w.cell? ⟨g, j, none⟩ = some z := fun j z hj => by
     rw [cell_of_row w g j cur _ _ hh]
     rw [←ht,List.getElem?_take] at hj
     split at hj
     · simpa using hj
     · cases hj
   refine ⟨⟨hc _ _ ?_,hc _ _ ?_,hc _ _ ?_,hc _ _ ?_⟩,fun j=>frozen_of_row w g j cur _ hh⟩
   · rw [List.getElem?_append_right (by omega)];simp [hl]
   · rw [List.getElem?_append_right (by omega)];simp [hl]
   · rw [List.getElem?_append_right (by omega)];simp [hl]
   · rw [List.getElem?_append_right (by omega)];simp [hl]
theorem owns_setLast {w:World} {base g n cap:Nat} {cs:List Value} {z0 z1 z2 z3 y0 y1 y2 y3:Value} (h:w.ownsRow base 48 4 (.slice (some ⟨g,0,none⟩) (n+1) cap) (n+1) (cs++[z0,z1,z2,z3])) :
   ((((w.setCell ⟨g,n * 4,none⟩ y0).setCell ⟨g,n * 4+1,none⟩ y1).setCell ⟨g,n * 4+2,none⟩ y2).setCell ⟨g,n * 4+3,none⟩ y3).ownsRow base 48 4 (.slice (some ⟨g,0,none⟩) (n+1) cap) (n+1) (cs++[y0,y1,y2,y3]):=by
 have hl:cs.length=n * 4:=by have:=h.1;simp at this;omega
 rcases h.2 with ⟨e,-⟩|⟨g',cap',cur,e,hb,hh,hn,hm,hs,ht⟩
 · cases e
 · simp only [Value.slice.injEq,Option.some.injEq,Addr.mk.injEq] at e
   obtain ⟨⟨rfl,-⟩,-,rfl⟩:=e
   have e0:=heap_setCell_same w g (n * 4) cur _ y0 hh
   have e1:=heap_setCell_same _ g (n * 4+1) _ _ y1 e0
   have e2:=heap_setCell_same _ g (n * 4+2) _ _ y2 e1
   have e3:=heap_setCell_same _ g (n * 4+3) _ _ y3 e2
   refine ⟨by simp [hl];omega,.inr ⟨g,cap,_,rfl,hb,e3,hn,hm,by simpa using hs,?_⟩⟩
   have hcur : ∀ j, j < n * 4 → cur.toList[j]? = cs[j]? := fun j hj => by
     have:=congrArg (fun l=>l[j]?) ht
     simp only [List.getElem?_take] at this
     rw [if_pos (by omega),List.getElem?_append_left (by omega)] at this
     exact this
   apply List.ext_getElem?
   intro j
   rw [List.getElem?_take]
   simp only [Array.toList_setIfInBounds,List.getElem?_set,List.length_set,Array.length_toList]
   by_cases hj:j<(n+1) * 4
   · rw [if_pos hj]
     by_cases h3:n * 4+3=j
     · subst h3;rw [List.getElem?_append_right (by omega)];simp [hl];omega
     · by_cases h2:n * 4+2=j
       · subst h2;rw [List.getElem?_append_right (by omega)];simp [hl];omega
       · by_cases h1:n * 4+1=j
         · subst h1;rw [List.getElem?_append_right (by omega)];simp [hl];omega
         · by_cases h0:n * 4=j
           · subst h0;rw [List.getElem?_append_right (by omega)];simp [hl];omega
           · simp only [h0,h1,h2,h3,if_false]
             rw [List.getElem?_append_left (by omega)];exact hcur j (by omega)
   · rw [if_neg hj,List.getElem?_eq_none (by simp [hl];omega)]
theorem zcg (w:World) {g b:Nat} (h:g≠b) (i j:Nat) (u v:Value):(w.setCell ⟨g,i,none⟩ u).setCell ⟨b,j,none⟩ v=(w.setCell ⟨b,j,none⟩ v).setCell ⟨g,i,none⟩ u:=by
 unfold World.setCell
 simp only
 congr 1
 apply Array.ext_getElem?
 intro k
 simp only [Array.getElem?_modify]
 by_cases h1:g=k
 · subst h1
   have h2:¬b=g:=fun e=>h e.symm
   simp [h2]
 · by_cases h2:b=k
   · subst h2;simp [h1]
   · simp [h1,h2]
theorem zgx (w:World) {g b:Nat} (h:g≠b) (i j0 j1 j2 j3:Nat) (u v0 v1 v2 v3:Value) :
   ((((w.setCell ⟨g,i,none⟩ u).setCell ⟨b,j0,none⟩ v0).setCell ⟨b,j1,none⟩ v1).setCell ⟨b,j2,none⟩ v2).setCell ⟨b,j3,none⟩ v3=((((w.setCell ⟨b,j0,none⟩ v0).setCell ⟨b,j1,none⟩ v1).setCell ⟨b,j2,none⟩ v2).setCell ⟨b,j3,none⟩ v3).setCell ⟨g,i,none⟩ u:=by
 rw [zcg w h,zcg _ h,zcg _ h,zcg _ h]
theorem VAt.put {w W5 w7:World} {F:Nat→Prop} {r v4 p:Nat} {a:Option Addr} {cap:Nat} {bs:List UInt8} {last:Bool} {V:PV×Int×Int} {n:Nat} {top:Lv} {rest:List Lv} {at2:Int} {g:Nat} {t:List Nat} {osl:Value}
   (HG5:zav w W5 F (fun b=>b=r∨b=v4) p a cap bs last (top::rest) at2 (g::t) osl) (HR5:W5.heap[r]?=some (.cells #[.int .i64 0,.int .i64 0,.string ⟨#[]⟩,.slice none 0 0] 48 (0,0)))
   {ta:Option Addr} {tn tc:Nat} (HGL:W5.heap[g]?=some (.cells #[.bool top.dict,.slice ta tn tc] 168 (0,0))) {cs:List Value} (HVS:IsVs W5 F top.l cs) {X:PV} {sa:Option Addr} {sn sc:Nat} (HX:IsV W5 F X (.slice sa sn sc)) (HTN:tn=top.l.length)
   {o:Obj} (HG7:((W5.alloc o).drew).grownBy w7 (Value.slice ta tn tc).ownBlock) {g7 cap7:Nat} {z0 z1 z2 z3:Value}
   (HO7:w7.ownsRow w.heap.size 48 4 (.slice (some ⟨g7,0,none⟩) (tn+1) cap7) (tn+1) (cs++[z0,z1,z2,z3])) (HAT:(Value.slice ta tn tc).ownBlock=some g7∨g7=W5.heap.size+1)
   (hv:valO bs last n ({ top with l:=top.l++[X] }::rest) at2=some V) (hlen:∀v∈top::rest,(v.l.length:Int)+1≤at2) (hrng:0≤at2∧at2≤bs.length) :
   VAt w (((((w7.setCell ⟨g7,tn * 4,none⟩ (.int .i64 X.kind)).setCell ⟨g7,tn * 4+1,none⟩ (.int .i64 X.n)).setCell ⟨g7,tn * 4+2,none⟩ (.string (mkB X.s))).setCell ⟨g7,tn * 4+3,none⟩ (.slice sa sn sc)).setCell ⟨g,1,none⟩ (.slice (some ⟨g7,0,none⟩) (tn+1) cap7)) F r p a cap bs last V n ({ top with l:=top.l++[X] }::rest) at2:=by
 subst HTN
 have hk : zak (fun b => (Value.slice ta top.l.length tc).ownBlock = some b) W5 ((((w7.setCell ⟨g7, top.l.length * 4, none⟩ (.int .i64 X.kind)).setCell ⟨g7, top.l.length * 4 + 1, none⟩ (.int .i64 X.n)).setCell ⟨g7, top.l.length * 4 + 2, none⟩ (.string (mkB X.s))).setCell ⟨g7, top.l.length * 4 + 3, none⟩ (.slice sa sn sc)) := by
   have h0 : zak (fun b => (Value.slice ta top.l.length tc).ownBlock = some b) W5 w7 :=
     (zaZ (zam W5 o).drew).grown HG7 fun k hk=>.inl hk
   have hg7:(Value.slice ta top.l.length tc).ownBlock=some g7∨W5.heap.size≤g7:=by rcases HAT with h|h;exact .inl h;exact .inr (by omega)
   exact (((h0.setCell (a:=⟨g7,_,none⟩) hg7 _).setCell (a:=⟨g7,_,none⟩) hg7 _).setCell (a:=⟨g7,_,none⟩) hg7 _).setCell (a:=⟨g7,_,none⟩) hg7 _
 have N := HG5.put HGL HVS HX (v' := .slice (some ⟨g7, 0, none⟩) (top.l.length + 1) cap7) (owns_setLast HO7) hk (fun b hb => by
   have hb:g7=b:=by simpa [Value.ownBlock] using hb
   subst hb
   rcases HAT with h|h;exact .inl h;exact .inr (by omega))
 refine ⟨(let ⟨gs2,osl2,h⟩:=N.stk;⟨gs2,osl2,h.give fun b hb=>.inl hb⟩),zb7 N.sg HR5 (.inl rfl),hv,fun v hv=>?_,.inr hrng⟩
 rcases List.mem_cons.1 hv with rfl|hv
 · have:=hlen top List.mem_cons_self
   simpa using this
 · have:=hlen v (List.mem_cons_of_mem _ hv)
   omega
end Go.Proofs.YtkhcjoomijkfbaaGreatDoor
