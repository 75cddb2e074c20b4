/-
  Our texts LexH to Xr4, in one.
-/
import Derived.Test.YtcmoehknppjkiaaGreatDoorPkP3
import Derived.Test.YtcmoehknppjkiaaGreatDoorProg
import Derived.Deep.RegionHeld3
import Derived.BigQuiet
import Derived.Deep.QuietTactic
import Derived.Deep.LoopGhost
import Derived.Deep.CutBlock
set_option maxRecDepth 8000
set_option maxHeartbeats 8000000
namespace Go.Proofs.YtcmoehknppjkiaaGreatDoor
open Go.RowKit
def tokN (x:Tk) (f t:Int):Array Value:=#[.int .i64 x.kind,.int .i64 f,.int .i64 t,.int .i64 x.vk,.int .i64 x.vn,.string (mkB x.vs),.slice none 0 0,.string (mkB x.s)]
def zdP (w:World) (V:Tk×Int×Int×Int) (e:Ending) (w':World):Prop :=
 e=.returned (.tuple #[.agg (tokN V.1 V.2.1 V.2.2.1),.int .i64 V.2.2.2])/\Below w.heap.size w w'
structure Nx (w:World) (r:Nat) (W:World):Prop where
 blk:W.heap[r]?=some (.cells #[.int .i64 0,.int .i64 0,.int .i64 0,.int .i64 0,.int .i64 0,.string ⟨#[]⟩,.slice none 0 0,.string ⟨#[]⟩] 112 (0,0))
 bel:Below w.heap.size w W
 wr:w.heap.size<=r
theorem Nx.start (w:World):Nx w w.heap.size (w.alloc (.cells #[.int .i64 0,.int .i64 0,.int .i64 0,.int .i64 0,.int .i64 0,.string ⟨#[]⟩,.slice none 0 0,.string ⟨#[]⟩] 112)) :=
 ⟨zab _ rfl,zae _ _,yp _⟩
theorem Nx.on {w W W':World} {r:Nat} (h:Nx w r W) (hb:Below W.heap.size W W'):Nx w r W':=⟨zaa hb h.blk,h.bel.trans (hb.mono h.bel.size),h.wr⟩
theorem Nx.alloc {w W:World} {r:Nat} (h:Nx w r W) (o:Obj):Nx w r (W.alloc o):=h.on (zae W o)
theorem Nx.set {w W:World} {r:Nat} (h:Nx w r W) {b:Nat} (hb:w.heap.size<=b) (hn:b≠r) (i:Nat) (v:Value):Nx w r (W.setCell ⟨b,i,none⟩ v) :=
 ⟨by rw [heap_setCell_other _ _ _ _ (Ne.symm hn)];exact h.blk,h.bel.setCell hb v,h.wr⟩
theorem Nx.drewN {w W:World} {r:Nat} (h:Nx w r W) (q:Nat):Nx w r (W.drewN q):=⟨h.blk,zad h.bel q,h.wr⟩
theorem Nx.keeps {w W W':World} {r p:Nat} (h:Nx w r W) (hk:zaf (fun b=>b=p) W W') (hp:w.heap.size<=p) (hn:p≠r):Nx w r W' :=
 ⟨hk.obj h.blk (Ne.symm hn),h.bel.trans (hk.below h.bel.size (fun b hb=>by rw [hb];exact hp)),h.wr⟩
theorem zba {B:Nat} {w0 w:World} (h:Below B w0 w) {b:Nat} (hb:B<=b) (y0 y1 y2 y3 y4 y5 y6 y7:Value) :
  Below B w0 ((((((((w.setCell ⟨b,0,none⟩ y0).setCell ⟨b,1,none⟩ y1).setCell ⟨b,2,none⟩ y2).setCell ⟨b,3,none⟩ y3).setCell ⟨b,4,none⟩ y4).setCell ⟨b,5,none⟩ y5).setCell ⟨b,6,none⟩ y6).setCell ⟨b,7,none⟩ y7) :=
 (((((((h.setCell hb _).setCell hb _).setCell hb _).setCell hb _).setCell hb _).setCell hb _).setCell hb _).setCell hb _
theorem Nx.fin {w W:World} {r:Nat} {V:Tk×Int×Int×Int} {x:Tk} {f t er:Int} (h:Nx w r W) (hV:V=(x,f,t,er)) (y0 y1 y2 y3 y4 y5 y6 y7:Value) :
  zdP w V (.returned (.tuple #[.agg (tokN x f t),.int .i64 er]))
   ((((((((W.setCell ⟨r,0,none⟩ y0).setCell ⟨r,1,none⟩ y1).setCell ⟨r,2,none⟩ y2).setCell ⟨r,3,none⟩ y3).setCell ⟨r,4,none⟩ y4).setCell ⟨r,5,none⟩ y5).setCell ⟨r,6,none⟩ y6).setCell ⟨r,7,none⟩ y7):=by
 subst hV;exact ⟨rfl,zba h.bel h.wr _ _ _ _ _ _ _ _⟩
theorem sc_new {w:World} {a:Option Addr} {cap:Nat} {bs:List UInt8} (hr:Row w 1 a bs.length cap (bs.map u8C)) (hn:bs.length<=400000) (yq:Bool) {f:Nat} (hf:f<bs.length) :
  ScQ (w.alloc (.cells #[.pointer none,.slice none 0 0,.slice a bs.length cap,.int .i64 f,.bool yq] 192)) (fun b=>b=w.heap.size) w.heap.size ⟨a,cap,bs,yq⟩ [] f:=by
 refine ⟨.pointer none,.slice none 0 0,⟨zab _ rfl,.inl rfl,World.ownsRow_nil _ _ _ _,fun b hb=>(by cases hb),rfl,fun b hb=>⟨by omega,by rw [zaq];omega⟩,hr.mono (zae _ _),fun x hx=>?_,by show f<=bs.length;omega,hn,by simp,fun _=>rfl⟩⟩
 obtain ⟨b,off,ha,hb,-⟩:=hr.2.2.2.2 (by omega)
 have hx':a=some x:=hx
 rw [ha] at hx'
 cases hx'
 exact hb
theorem skipV_le (bs:List UInt8) (k:Int):zbk bs k<=bs.length:=by
 unfold zbk
 split
 ·omega
 ·split
  ·omega
  ·have:=zdj false (bs.drop k.toNat)
   rw [ym] at this;omega
theorem zdm {w:World} {a:Option Addr} {cap:Nat} {bs:List UInt8} (hr:Row w 1 a bs.length cap (bs.map u8C)) (hn:bs.length<=400000) (k:Int) (yq:Bool) :
  Calls Tryz.prog 100 #[.slice a bs.length cap,.int .i64 k,.bool yq] w (zdP w (zaj bs k yq)):=by
 obtain ⟨V,hV⟩:∃V,V=zaj bs k yq:=⟨_,rfl⟩
 rw [<-hV]
 unfold zaj at hV
 have hT:=Nx.start w
 obtain ⟨r,hrr⟩:∃r,r=w.heap.size:=⟨_,rfl⟩
 rw [<-hrr] at hT
 have HT0:=yb hT
 have HR:=yb hrr
 clear hT hrr
 have HRW:=yb hr
 have HN:=yb hn
 clear hr
 by_cases hk:k<0\/(bs.length:Int)<k
 ·rw [yg hk] at hV
  have HV:=yb hV
  clear hV HT0 HR
  by_cases hk0:k<0
  ·have hkd:decide (k<0)=true:=yd hk0
   clear hk
   go_enter Tryz.func100,Tryz.ntmps100
   go_wp2
   refine yi (zac rfl _ _ w.heap.size 112 _ (0,0) _ rfl (zab _ rfl) Tryz.underlying112 rfl (by exact zav) _ rfl) rfl ?_
   rw [HV.out]
   exact ⟨rfl,zae _ _⟩
  ·have hk1:(bs.length:Int)<k:=by omega
   have hkd:decide (k<0)=false:=ye hk0
   have hkd2:decide ((bs.length:Int)<k)=true:=yd hk1
   clear hk
   go_enter Tryz.func100,Tryz.ntmps100
   go_wp2
   refine yi (zac rfl _ _ w.heap.size 112 _ (0,0) _ rfl (zab _ rfl) Tryz.underlying112 rfl (by exact zav) _ rfl) rfl ?_
   rw [HV.out]
   exact ⟨rfl,zae _ _⟩
 ·rw [yh hk] at hV
  have hkd:decide (k<0)=false:=ye (by omega)
  have hkd2:decide ((bs.length:Int)<k)=false:=ye (by omega)
  have hk0:0<=k:=by omega
  have hk1:k<=bs.length:=by omega
  clear hk
  have HS:=yb (fun (W:World) (h:Below w.heap.size w W)=>skip_any (HRW.out.mono h) hn k)
  have hfl:=skipV_le bs k
  generalize zbk bs k=f at *
  have HV0:=yb hV
  clear hV hk0 hk1
  go_enter Tryz.func100,Tryz.ntmps100
  go_wp2_with fail
  refine (HS.out _ HT0.out.bel).mono ?_
  rintro e w' ⟨rfl,rfl⟩
  rw [<-HR.out]
  generalize w.alloc _=W1 at *
  have hV:=HV0.out
  clear HV0
  by_cases hf:f=bs.length
  ·subst hf
   rw [zbU (by omega)] at hV
   have HV:=yb hV
   obtain ⟨⟨k0,k1,k2,k3,k4,k5,k6,k7⟩,f0,f1,f2,f3,f4,f5,f6,f7⟩:=zao HT0.out.blk
   clear hV HS
   cases yq
   all_goals
    go_wp2
    refine yi (zac rfl _ _ _ 112 _ (0,0) _ rfl (set8 HT0.out.blk _ _ _ _ _ _ _ _) Tryz.underlying112 rfl zav _ rfl) rfl ?_
    exact HT0.out.fin HV.out _ _ _ _ _ _ _ _
  ·have hf2:f<bs.length:=by omega
   rw [zaZ hf2] at hV
   have hff:decide (f=bs.length)=false:=ye hf
   have hfe:((f:Int)==(bs.length:Int))=false:=by rw [yf];omega
   have HSC:=yb (sc_new (HRW.out.mono HT0.out.bel) hn yq hf2)
   have HF:=yb hf2
   obtain ⟨b0,off,ha,hb0,hc⟩:=HRW.out.at 0 f hf2
   have hcj:=cell?_keep (HT0.out.alloc (.cells #[.pointer none,.slice none 0 0,.slice a bs.length cap,.int .i64 f,.bool yq] 192)).bel (hc f hf2)
   have hcj1:=cell?_keep HT0.out.bel (hc f hf2)
   have hb1:¬b0=W1.heap.size:=by have:=HT0.out.bel.size;omega
   unfold u8C at hcj hcj1
   subst ha
   have hb2:b0<W1.heap.size:=by have:=HT0.out.bel.size;omega
   have hfi:(f:Int)<bs.length:=by omega
   have hTK:Calls Tryz.prog 135 #[.pointer (some ⟨W1.heap.size,0,none⟩),.int .u8 (bs.getD f 0).toNat] (W1.alloc (.cells #[.pointer none,.slice none 0 0,.slice (some ⟨b0,off,none⟩) bs.length cap,.int .i64 f,.bool yq] 192)) (zbW _ (fun b=>b=W1.heap.size) W1.heap.size ⟨some ⟨b0,off,none⟩,cap,bs,yq⟩ (tokV yq (bs.getD f 0) (bs.drop (f+1)))):=token_any HSC.out hf2
   have hV2:V=if (tokV yq (bs.getD f 0) (bs.drop (f+1))).1=0 then ((tokV yq (bs.getD f 0) (bs.drop (f+1))).2.1,(f:Int),(bs.length:Int)-((tokV yq (bs.getD f 0) (bs.drop (f+1))).2.2.length:Int),0) else ({ kind:=0 },(f:Int),(f:Int),(tokV yq (bs.getD f 0) (bs.drop (f+1))).1):=hV
   generalize tokV yq (bs.getD f 0) (bs.drop (f+1))=T at *
   generalize bs.getD f 0=cc at *
   have HV:=yb hV2
   have HTK:=yb hTK
   have hrr:=(Array.getElem?_eq_some_iff.1 HT0.out.blk).1
   have hpw:w.heap.size<=W1.heap.size:=HT0.out.bel.size
   have HT1:=yb (HT0.out.alloc (.cells #[.pointer none,.slice none 0 0,.slice (some ⟨b0,off,none⟩) bs.length cap,.int .i64 f,.bool yq] 192))
   have HPR:=yb (show W1.heap.size≠r by omega)
   have HPW:=yb hpw
   have HRR:=yb hrr
   have HSZ:=yb (zaq W1 (.cells #[.pointer none,.slice none 0 0,.slice (some ⟨b0,off,none⟩) bs.length cap,.int .i64 f,.bool yq] 192))
   clear hV hV2 hTK HS hc hrr hpw HSC hb0
   go_wp2_with fail
   refine HTK.out.mono ?_
   rintro e w2 ⟨hk2,kk,vk,vn,vs,s,rfl,hfx⟩
   have HT2:=yb (HT1.out.keeps hk2 HPW.out HPR.out)
   have hws:W1.heap.size<w2.heap.size:=by have:=hk2.size;rw [HSZ.out] at this;omega
   have HWS:=yb hws
   have HFX:=yb hfx
   clear HTK HT1 HSZ hk2 hcj hcj1 hb1 hb2 hfx hws
   generalize W1.alloc _=W1' at *
   generalize W1.heap.size=p at *
   have HT3:=yb (HT2.out.alloc (.cells (tokC kk 0 0 vk vn vs s) 112))
   obtain ⟨er,her⟩:∃er,T.1=er:=⟨_,rfl⟩
   have HE:=yb her
   rw [her]
   clear her
   have hr2:r<w2.heap.size:=(Array.getElem?_eq_some_iff.1 HT2.out.blk).1
   have HR2:=yb hr2
   clear hr2
   by_cases h0:er=0
   ·subst h0
    obtain ⟨hkk,hvk,hvn,hvs,hs,htl,hc3⟩:=HFX.out HE.out
    obtain ⟨t,ht⟩:∃t:Nat,t=bs.length-T.2.2.length:=⟨_,rfl⟩
    have hc3':w2.cell? ⟨p,3,none⟩=some (.int .i64 (t:Int)):=by rw [ht];exact hc3
    have HVV:=yb (show V=(T.2.1,(f:Int),(t:Int),0) by
     rw [HV.out,yg HE.out,ht]
     have h2:T.2.2.length<=bs.length:=htl
     congr 3;omega)
    have hcp:=zaY (.cells (tokC kk 0 0 vk vn vs s) 112) hc3'
    have hbr2:(w2.alloc (.cells (tokC kk 0 0 vk vn vs s) 112)).heap[w2.heap.size]?=some (.cells #[.int .i64 kk,.int .i64 0,.int .i64 0,.int .i64 vk,.int .i64 vn,.string vs,.slice none 0 0,.string s] 112 (0,0)):=zab _ rfl
    have HBR2:=yb hbr2
    have HCP:=yb hcp
    have HW2:=yb (show w.heap.size<=w2.heap.size from HT2.out.bel.size)
    have HNR:=yb (show w2.heap.size≠r from Nat.ne_of_gt HR2.out)
    have HNP:=yb (show p≠w2.heap.size from Nat.ne_of_lt HWS.out)
    have HKK:=yb hkk
    have HVK:=yb hvk
    have HVN:=yb hvn
    have HVS:=yb hvs
    have HSS:=yb hs
    clear hkk hvk hvn hvs hs htl hc3 hc3' hcp hbr2 HE HFX HV ht
    unfold tokC at *
    go_wp2
    generalize w2.alloc _=W3 at *
    generalize w2.heap.size=r2 at *
    have hcp:=HCP.out
    have hnr:=HNR.out
    have hnp:=HNP.out
    obtain ⟨⟨g0,g1,g2,g3,g4,g5,g6,g7⟩,m0,m1,m2,m3,m4,m5,m6,m7⟩:=zao HBR2.out
    have HO1:=yb (show Nx w r ((W3.setCell ⟨r2,1,none⟩ (.int .i64 f)).setCell ⟨r2,2,none⟩ (.int .i64 t)).drew/\((W3.setCell ⟨r2,1,none⟩ (.int .i64 f)).setCell ⟨r2,2,none⟩ (.int .i64 t)).drew.heap[r2]?=some (.cells #[.int .i64 kk,.int .i64 f,.int .i64 t,.int .i64 vk,.int .i64 vn,.string vs,.slice none 0 0,.string s] 112 (0,0)) from
     ⟨((HT3.out.set HW2.out hnr 1 _).set HW2.out hnr 2 _).drewN 1,heap_setCell_same _ _ 2 _ _ _ (heap_setCell_same W3 _ 1 _ _ _ HBR2.out)⟩)
    have HO2:=yb (show Nx w r ((W3.setCell ⟨r2,2,none⟩ (.int .i64 t)).setCell ⟨r2,1,none⟩ (.int .i64 f)).drew/\((W3.setCell ⟨r2,2,none⟩ (.int .i64 t)).setCell ⟨r2,1,none⟩ (.int .i64 f)).drew.heap[r2]?=some (.cells #[.int .i64 kk,.int .i64 f,.int .i64 t,.int .i64 vk,.int .i64 vn,.string vs,.slice none 0 0,.string s] 112 (0,0)) from
     ⟨((HT3.out.set HW2.out hnr 2 _).set HW2.out hnr 1 _).drewN 1,heap_setCell_same _ _ 1 _ _ _ (heap_setCell_same W3 _ 2 _ _ _ HBR2.out)⟩)
    go_region
    all_goals
     clear hcp hnp g0 g1 g2 g3 g4 g5 g6 g7 m0 m1 m2 m3 m4 m5 m6 m7
     first
      |(obtain ⟨W4,hW4⟩:∃W4,W4=((W3.setCell ⟨r2,1,none⟩ (.int .i64 f)).setCell ⟨r2,2,none⟩ (.int .i64 t)).drew:=⟨_,rfl⟩;rw [<-hW4];have HX4:=yb (show Nx w r W4 by rw [hW4];exact HO1.out.1);have HB4:=yb (show W4.heap[r2]?=some (.cells #[.int .i64 kk,.int .i64 f,.int .i64 t,.int .i64 vk,.int .i64 vn,.string vs,.slice none 0 0,.string s] 112 (0,0)) by rw [hW4];exact HO1.out.2))
      |(obtain ⟨W4,hW4⟩:∃W4,W4=((W3.setCell ⟨r2,2,none⟩ (.int .i64 t)).setCell ⟨r2,1,none⟩ (.int .i64 f)).drew:=⟨_,rfl⟩;rw [<-hW4];have HX4:=yb (show Nx w r W4 by rw [hW4];exact HO2.out.1);have HB4:=yb (show W4.heap[r2]?=some (.cells #[.int .i64 kk,.int .i64 f,.int .i64 t,.int .i64 vk,.int .i64 vn,.string vs,.slice none 0 0,.string s] 112 (0,0)) by rw [hW4];exact HO2.out.2))
     clear hW4
     obtain ⟨⟨g0,g1,g2,g3,g4,g5,g6,g7⟩,m0,m1,m2,m3,m4,m5,m6,m7⟩:=zao HB4.out
     obtain ⟨⟨k0,k1,k2,k3,k4,k5,k6,k7⟩,f0,f1,f2,f3,f4,f5,f6,f7⟩:=zao HX4.out.blk
     go_wp2
     refine yi (zac rfl _ _ _ 112 _ (0,0) _ rfl (set8 HX4.out.blk _ _ _ _ _ _ _ _) Tryz.underlying112 rfl zav _ rfl) rfl ?_
     have e1:=HKK.out
     have e2:=HVK.out
     have e3:=HVN.out
     have e4:=HVS.out
     have e5:=HSS.out
     subst e1 e2 e3 e4 e5
     exact HX4.out.fin HVV.out _ _ _ _ _ _ _ _
   ·have HVV:=yb (show V=({ kind:=0 },(f:Int),(f:Int),er) by rw [HV.out,HE.out,yh h0])
    have e1:(er==0)=false:=by rw [yf];exact h0
    have e2:(er != 0)=true:=by simp only [bne,e1,yj]
    clear h0
    obtain ⟨⟨k0,k1,k2,k3,k4,k5,k6,k7⟩,f0,f1,f2,f3,f4,f5,f6,f7⟩:=zao HT3.out.blk
    unfold tokC at *
    go_wp2
    refine yi (zac rfl _ _ _ 112 _ (0,0) _ rfl (set8 HT3.out.blk _ _ _ _ _ _ _ _) Tryz.underlying112 rfl zav _ rfl) rfl ?_
    exact HT3.out.fin HVV.out _ _ _ _ _ _ _ _
theorem more_any (e:Int) (w:World):Calls Tryz.prog 174 #[.int .i64 e] w fun x w'=>x=.returned (.int .i64 (moreV e))/\w=w':=by
 unfold moreV
 by_cases h:e=6
 ·subst h
  go_enter Tryz.func174,Tryz.ntmps174
  go_wp2
  go_ret
  exact ⟨rfl,rfl⟩
 ·have hd:(e==6)=false:=by rw [yf];exact h
  rw [yh h]
  clear h
  go_enter Tryz.func174,Tryz.ntmps174
  go_wp2
  go_ret
  exact ⟨rfl,rfl⟩
theorem zaO:(Tryz.prog.info? 25).map (·.size)=some 4:=by kernel_rfl
theorem whole_tk (x:Tk) (f t:Int) (w:World):Calls Tryz.prog 142 #[.agg (tokN x f t)] w fun e w'=>e=.returned (.bool (za2 x))/\Below w.heap.size w w':=by
 unfold tokN za2
 generalize x.kind=a0 at *
 generalize x.vk=a1 at *
 generalize x.vn=a2 at *
 generalize mkB x.vs=s1 at *
 generalize mkB x.s=s2 at *
 cases h0:(a0==1)
 ·go_enter Tryz.func142,Tryz.ntmps142
  go_wp2
  go_ret
  exact ⟨rfl,zae w _⟩
 ·go_enter Tryz.func142,Tryz.ntmps142
  go_wp2
  go_ret
  exact ⟨rfl,zae w _⟩
def wordE (s:List UInt8):PV×Int:=match zfH s with|none=>(PV.none,11)|some v=>(v,0)
theorem zeL (a b:List UInt8):((mkB a).toList==b)=decide (a=b):=by
 have:(mkB a).toList=a:=by unfold mkB;exact ByteArray.toList_eq _
 rw [this];by_cases h:a=b<;>simp [h]
theorem pword_any (s:List UInt8) (w:World):Calls Tryz.prog 141 #[.string (mkB s)] w fun e w'=>e=.returned (.tuple #[pvA (wordE s).1 (.slice none 0 0),.int .i64 (wordE s).2])/\Below w.heap.size w w':=by
 have h1:=zeL s [116,114,117,101]
 have h2:=zeL s [102,97,108,115,101]
 have h3:=zeL s [110,117,108,108]
 unfold wordE zfH pvA
 by_cases g1:s=[116,114,117,101]
 ·rw [yg g1]
  rw [yd g1] at h1
  clear g1 h2 h3
  go_enter Tryz.func141,Tryz.ntmps141
  go_wp2
  refine yi (zac rfl _ _ w.heap.size 25 _ (0,0) _ rfl (zab _ rfl) Tryz.underlying25 rfl (by exact zaO) _ rfl) rfl ?_
  exact ⟨rfl,zae _ _⟩
 rw [yh g1]
 rw [ye g1] at h1
 by_cases g2:s=[102,97,108,115,101]
 ·rw [yg g2]
  rw [yd g2] at h2
  clear g1 g2 h3
  go_enter Tryz.func141,Tryz.ntmps141
  go_wp2
  refine yi (zac rfl _ _ w.heap.size 25 _ (0,0) _ rfl (zab _ rfl) Tryz.underlying25 rfl (by exact zaO) _ rfl) rfl ?_
  exact ⟨rfl,zae _ _⟩
 rw [yh g2]
 rw [ye g2] at h2
 by_cases g3:s=[110,117,108,108]
 ·rw [yg g3]
  rw [yd g3] at h3
  clear g1 g2 g3
  go_enter Tryz.func141,Tryz.ntmps141
  go_wp2
  refine yi (zac rfl _ _ w.heap.size 25 _ (0,0) _ rfl (zab _ rfl) Tryz.underlying25 rfl (by exact zaO) _ rfl) rfl ?_
  exact ⟨rfl,zae _ _⟩
 ·rw [yh g3]
  rw [ye g3] at h3
  clear g1 g2 g3
  go_enter Tryz.func141,Tryz.ntmps141
  go_wp2
  refine yi (zac rfl _ _ w.heap.size 25 _ (0,0) _ rfl (zab _ rfl) Tryz.underlying25 rfl (by exact zaO) _ rfl) rfl ?_
  exact ⟨rfl,zae _ _⟩
def ptrs (gs:List Nat):List Value:=gs.reverse.map fun g=>.pointer (some ⟨g,0,none⟩)
def Lvs (w:World) (B:Nat) (F:Nat->Prop):(Nat->Prop)->List Lv->List Nat->Prop
 | _,[],gs=>gs=[]
 | G,v::st,gs=>∃g t sl cs,gs=g::t/\B<=g/\¬G g/\w.heap[g]?=some (.cells #[.bool v.dict,sl] 128 (0,0))/\w.ownsRow B 25 4 sl v.l.length cs/\IsVs w F v.l cs /\
   (∀b,sl.ownBlock=some b->¬F b/\¬G b)/\Lvs w B F (fun b=>G b\/b=g\/sl.ownBlock=some b) st t
theorem za0 {w w':World} {base e sz:Nat} {v:Value} {n:Nat} {xs:List Value} (h:w.ownsRow base e sz v n xs) (hk:∀b,v.ownBlock=some b->w'.heap[b]?=w.heap[b]?):w'.ownsRow base e sz v n xs:=by
 obtain ⟨h1,h2⟩:=h
 refine ⟨h1,?_⟩
 rcases h2 with h2|⟨g,cap,cur,hv,hg,hh,r⟩
 ·exact .inl h2
 ·exact .inr ⟨g,cap,cur,hv,hg,by rw [hk g (by rw [hv];rfl)];exact hh,r⟩
theorem zaC {w:World} {base e sz:Nat} {v:Value} {n:Nat} {xs:List Value} (h:w.ownsRow base e sz v n xs) {b:Nat} (hb:v.ownBlock=some b):∃cs,w.heap[b]?=some (.cells cs e (0,0)):=by
 rcases h.2 with ⟨rfl,_⟩|⟨g,cap,cur,rfl,hg,hh,r⟩
 ·cases hb
 ·cases hb;exact ⟨cur,hh⟩
theorem zaG {w:World} {base e sz:Nat} {v:Value} {n:Nat} {xs:List Value} (h:w.ownsRow base e sz v n xs):∃a cap,v=.slice a n cap/\n<=cap/\cap<=maxLen:=by
 obtain ⟨a,cap,rfl,hr,_⟩:=Row.of_owns h
 exact ⟨a,cap,rfl,hr.2.1,hr.2.2.1⟩
theorem zal {w:World} {b:Nat} {o:Obj} (h:w.heap[b]?=some o):b<w.heap.size:=(Array.getElem?_eq_some_iff.1 h).1
theorem zaW {w:World} {b c:Nat} {x y:Array Value} {t u:TypeId} {f1 f2:Nat×Nat} (hb:w.heap[b]?=some (.cells x t f1)) (hc:w.heap[c]?=some (.cells y u f2)) (h:t≠u):b≠c:=by
 rintro rfl
 rw [hb] at hc
 injection hc with hc
 injection hc with _ h2 _
 exact h h2
def IsLV (w:World) (b:Nat):Prop:=(∃cs,w.heap[b]?=some (.cells cs 128 (0,0)))\/∃cs,w.heap[b]?=some (.cells cs 25 (0,0))
theorem Lvs.keep' {w w':World} {B:Nat} {F F':Nat->Prop} (hF:zaJ F w w') (hFF:∀b,F b->F' b):∀ {st:List Lv} {G G':Nat->Prop} {gs:List Nat},Lvs w B F G st gs ->
  (∀b,b<w.heap.size->¬G b->IsLV w b->w'.heap[b]?=w.heap[b]?)->(∀b,F' b->F b\/G b\/w.heap.size<=b)->(∀b,G' b->G b\/w.heap.size<=b)->Lvs w' B F' G' st gs
 | [],_,_,_,h,_,_,_=>h
 | v::st,G,G',_,⟨g,t,sl,cs,h1,h2,h3,h4,h5,h6,h7,h8⟩,hg,hF',hG'=>by
  have hgl:=zal h4
  have hbl:∀b,sl.ownBlock=some b->b<w.heap.size:=fun b hb=>(h5.lt b hb).2
  refine ⟨g,t,sl,cs,h1,h2,fun h=>?_,?_,za0 h5 fun b hb=>hg b (hbl b hb) (h7 b hb).2 (.inr (zaC h5 hb)),IsVs.keep hF hFF _ h6,fun b hb=>⟨fun h=>?_,fun h=>?_⟩,?_⟩
  ·rcases hG' g h with h|h
   ·exact h3 h
   ·omega
  ·rw [hg g hgl h3 (.inl ⟨_,h4⟩)];exact h4
  ·rcases hF' b h with h|h|h
   ·exact (h7 b hb).1 h
   ·exact (h7 b hb).2 h
   ·have:=hbl b hb;omega
  ·rcases hG' b h with h|h
   ·exact (h7 b hb).2 h
   ·have:=hbl b hb;omega
  ·refine Lvs.keep' hF hFF h8 (fun b hb hn=>hg b hb fun h=>hn (.inl h)) (fun b h=>?_) (fun b h=>?_)
   ·rcases hF' b h with h|h|h
    ·exact .inl h
    ·exact .inr (.inl (.inl h))
    ·exact .inr (.inr h)
   ·rcases h with h|h|h
    ·rcases hG' b h with h|h
     ·exact .inl (.inl h)
     ·exact .inr h
    ·exact .inl (.inr (.inl h))
    ·exact .inl (.inr (.inr h))
theorem Lvs.keep {w w':World} {B:Nat} {F F':Nat->Prop} (hF:zaJ F w w') (hFF:∀b,F b->F' b) {st:List Lv} {G G':Nat->Prop} {gs:List Nat} (h:Lvs w B F G st gs)
  (hg:∀b,b<w.heap.size->¬G b->w'.heap[b]?=w.heap[b]?) (hF':∀b,F' b->F b\/G b\/w.heap.size<=b) (hG':∀b,G' b->G b\/w.heap.size<=b):Lvs w' B F' G' st gs :=
 h.keep' hF hFF (fun b h1 h2 _=>hg b h1 h2) hF' hG'
theorem Lvs.len {w:World} {B:Nat} {F:Nat->Prop}:∀ {st:List Lv} {G:Nat->Prop} {gs:List Nat},Lvs w B F G st gs->gs.length=st.length
 | [],_,_,h=>by cases h;rfl
 | _::_,_,_,⟨_,_,_,_,h1,_,_,_,_,_,_,h8⟩=>by subst h1;simp [h8.len]
structure zap (w0 w:World) (F G:Nat->Prop) (p:Nat) (a:Option Addr) (cap:Nat) (bs:List UInt8) (yq:Bool) (st:List Lv) (at_:Int) (gs:List Nat) (osl:Value):Prop where
 blk:w.heap[p]?=some (.cells #[.slice a bs.length cap,.int .i64 at_,.bool yq,osl] 122 (0,0))
 base:w0.heap.size<=p
 gp:¬G p
 own:w.ownsRow w0.heap.size 125 1 osl st.length (ptrs gs)
 go:∀b,osl.ownBlock=some b->¬G b
 lvs:Lvs w w0.heap.size F G st gs
 fb:∀b,F b->w0.heap.size<=b/\¬G b/\∃cs,w.heap[b]?=some (.cells cs 25 (0,0))
 gb:∀b,G b->w0.heap.size<=b/\b<w.heap.size
 bel:Below w0.heap.size w0 w
 row:Row w0 1 a bs.length cap (bs.map u8C)
 small:bs.length<=400000
 deep:st.length<=64
section
variable {w0 w w' : World} {F F' G G' : Nat -> Prop} {p : Nat} {a : Option Addr} {cap : Nat} {bs : List UInt8} {yq : Bool} {st : List Lv} {at_ : Int} {gs : List Nat} {osl : Value}
theorem zap.lt (h:zap w0 w F G p a cap bs yq st at_ gs osl):p<w.heap.size:=zal h.blk
theorem zap.frame' (h:zap w0 w F G p a cap bs yq st at_ gs osl) (hk:zaf G w w') (hG':∀b,G' b->G b\/(w.heap.size<=b/\b<w'.heap.size)) (hFF:∀b,F b->F' b) (hF':∀b,F' b->F b\/(w.heap.size<=b/\¬G' b/\∃cs,w'.heap[b]?=some (.cells cs 25 (0,0)))) :
  zap w0 w' F' G' p a cap bs yq st at_ gs osl:=by
 have hsz:=h.bel.size
 have hp:=h.lt
 have hFl:∀b,F b->b<w.heap.size:=fun b hb=>by obtain ⟨_,_,cs,hc⟩:=h.fb b hb;exact zal hc
 have hol:∀b,osl.ownBlock=some b->b<w.heap.size:=fun b hb=>(h.own.lt b hb).2
 refine ⟨by rw [hk.block p hp h.gp];exact h.blk,h.base,fun h1=>?_,za0 h.own fun b hb=>hk.block b (hol b hb) (h.go b hb),fun b hb h1=>?_,?_,fun b hb=>?_,fun b hb=>?_,?_,h.row,h.small,h.deep⟩
 ·rcases hG' p h1 with h1|h1
  ·exact h.gp h1
  ·omega
 ·rcases hG' b h1 with h1|h1
  ·exact h.go b hb h1
  ·have:=hol b hb;omega
 ·refine h.lvs.keep ⟨hk.size,fun b hb hf=>hk.block b hb (h.fb b hf).2.1⟩ hFF (fun b hb hn=>hk.block b hb hn) (fun b hb=>?_) (fun b hb=>?_)
  ·rcases hF' b hb with h1|h1
   ·exact .inl h1
   ·exact .inr (.inr h1.1)
  ·exact (hG' b hb).imp id fun h=>h.1
 ·rcases hF' b hb with h1|⟨h1,h2,h3⟩
  ·obtain ⟨h2,h3,cs,h4⟩:=h.fb b h1
   refine ⟨h2,fun h5=>?_,cs,by rw [hk.block b (hFl b h1) h3];exact h4⟩
   rcases hG' b h5 with h5|h5
   ·exact h3 h5
   ·have:=hFl b h1;omega
  ·exact ⟨by omega,h2,h3⟩
 ·have:=hk.size
  rcases hG' b hb with h1|h1
  ·have:=h.gb b h1;omega
  ·omega
 ·exact h.bel.trans ⟨hk.os,hk.tape,hk.output,hk.size,fun b hb=>hk.block b (by omega) (fun h1=>by have:=h.gb b h1;omega)⟩
theorem zap.frame (h:zap w0 w F G p a cap bs yq st at_ gs osl) (hk:zaf G w w') (hG':∀b,G' b->G b\/(w.heap.size<=b/\b<w'.heap.size)):zap w0 w' F G' p a cap bs yq st at_ gs osl :=
 h.frame' hk hG' (fun _ h=>h) (fun _ h=>.inl h)
theorem zap.mono (h:zap w0 w F G p a cap bs yq st at_ gs osl) (hb:Below w.heap.size w w'):zap w0 w' F G p a cap bs yq st at_ gs osl :=
 h.frame ⟨hb.os,hb.tape,hb.output,hb.size,fun b h1 _=>hb.block b h1⟩ (fun _ h=>.inl h)
theorem zap.cells (h:zap w0 w F G p a cap bs yq st at_ gs osl):(w.cell? ⟨p,0,none⟩=some (.slice a bs.length cap)/\w.cell? ⟨p,1,none⟩=some (.int .i64 at_)/\w.cell? ⟨p,2,none⟩=some (.bool yq)/\w.cell? ⟨p,3,none⟩=some osl) /\
  (w.frozen? ⟨p,0,none⟩=false/\w.frozen? ⟨p,1,none⟩=false/\w.frozen? ⟨p,2,none⟩=false/\w.frozen? ⟨p,3,none⟩=false):=zah h.blk
theorem zap.notF (h:zap w0 w F G p a cap bs yq st at_ gs osl) {b:Nat} (hb:F b):b≠p:=by obtain ⟨_,_,cs,hc⟩:=h.fb b hb;exact zaW hc h.blk (by decide)
theorem zap.setAt (h:zap w0 w F G p a cap bs yq st at_ gs osl) (at2:Int):zap w0 (w.setCell ⟨p,1,none⟩ (.int .i64 at2)) F G p a cap bs yq st at2 gs osl:=by
 have hk:∀b,b≠p->(w.setCell ⟨p,1,none⟩ (.int .i64 at2)).heap[b]?=w.heap[b]?:=fun b hb=>heap_setCell_other _ _ _ _ hb
 have hs:(w.setCell ⟨p,1,none⟩ (.int .i64 at2)).heap.size=w.heap.size:=by simp [World.setCell]
 have hl:∀ {st:List Lv} {G:Nat->Prop} {gs:List Nat},Lvs w w0.heap.size F G st gs->Lvs (w.setCell ⟨p,1,none⟩ (.int .i64 at2)) w0.heap.size F G st gs:=by
  intro st
  induction st with
  | nil=>exact fun h=>h
  | cons v st ih =>
   rintro G gs ⟨g,t,sl,cs,h1,h2,h3,h4,h5,h6,h7,h8⟩
   exact ⟨g,t,sl,cs,h1,h2,h3,by rw [hk g (zaW h4 h.blk (by decide))];exact h4,za0 h5 fun b hb=>hk b (by obtain ⟨cs,hc⟩:=zaC h5 hb;exact zaW hc h.blk (by decide)),
    IsVs.keep ⟨by omega,fun b _ hb=>hk b (h.notF hb)⟩ (fun _ h=>h) _ h6,h7,ih h8⟩
 exact ⟨heap_setCell_same w p 1 _ _ _ h.blk,h.base,h.gp,za0 h.own fun b hb=>hk b (by obtain ⟨cs,hc⟩:=zaC h.own hb;exact zaW hc h.blk (by decide)),h.go,hl h.lvs,fun b hb=>by
  obtain ⟨h1,h2,cs,h3⟩:=h.fb b hb
  exact ⟨h1,h2,cs,by rw [hk b (h.notF hb)];exact h3⟩,fun b hb=>by rw [hs];exact h.gb b hb,h.bel.trans ((Below.refl _ _).setCell h.base _),h.row,h.small,h.deep⟩
theorem zap.drewN (h:zap w0 w F G p a cap bs yq st at_ gs osl) (q:Nat):zap w0 (w.drewN q) F G p a cap bs yq st at_ gs osl:=h.mono (zad (Below.refl _ _) q)
theorem zap.alloc (h:zap w0 w F G p a cap bs yq st at_ gs osl) (o:Obj):zap w0 (w.alloc o) F G p a cap bs yq st at_ gs osl:=h.mono (zae w o)
theorem zap.bytes (h:zap w0 w F G p a cap bs yq st at_ gs osl):Row w 1 a bs.length cap (bs.map u8C):=h.row.mono h.bel
theorem zap.res (h:zap w0 w F G p a cap bs yq st at_ gs osl) (hb:Below w.heap.size w w') (hG':∀b,G' b->G b\/(w.heap.size<=b/\b<w'.heap.size)):zap w0 w' F G' p a cap bs yq st at_ gs osl :=
 h.frame ⟨hb.os,hb.tape,hb.output,hb.size,fun b h1 _=>hb.block b h1⟩ hG'
theorem zap.set (h:zap w0 w F G p a cap bs yq st at_ gs osl) {r:Nat} (hr:G r) (i:Nat) (v:Value):zap w0 (w.setCell ⟨r,i,none⟩ v) F G p a cap bs yq st at_ gs osl :=
 h.frame ((zaf.refl G w).setCell (a:=⟨r,i,none⟩) (.inl hr) v) (fun _ h=>.inl h)
theorem zap.set8 (h:zap w0 w F G p a cap bs yq st at_ gs osl) {r:Nat} (hr:G r) (y0 y1 y2 y3 y4 y5 y6 y7:Value) :
  zap w0 ((((((((w.setCell ⟨r,0,none⟩ y0).setCell ⟨r,1,none⟩ y1).setCell ⟨r,2,none⟩ y2).setCell ⟨r,3,none⟩ y3).setCell ⟨r,4,none⟩ y4).setCell ⟨r,5,none⟩ y5).setCell ⟨r,6,none⟩ y6).setCell ⟨r,7,none⟩ y7) F G p a cap bs yq st at_ gs osl :=
 (((((((h.set hr _ _).set hr _ _).set hr _ _).set hr _ _).set hr _ _).set hr _ _).set hr _ _).set hr _ _
theorem zap.set4 (h:zap w0 w F G p a cap bs yq st at_ gs osl) {r:Nat} (hr:G r) (y0 y1 y2 y3:Value) :
  zap w0 ((((w.setCell ⟨r,0,none⟩ y0).setCell ⟨r,1,none⟩ y1).setCell ⟨r,2,none⟩ y2).setCell ⟨r,3,none⟩ y3) F G p a cap bs yq st at_ gs osl :=
 (((h.set hr _ _).set hr _ _).set hr _ _).set hr _ _
theorem zap.give (h:zap w0 w F G p a cap bs yq st at_ gs osl) (hG:∀b,G' b->G b):zap w0 w F G' p a cap bs yq st at_ gs osl:=h.frame (zaf.refl G w) fun b hb=>.inl (hG b hb)
end
theorem zat {w w':World} {S:Nat->Prop} (h:Below w.heap.size w w'):zaf S w w':=⟨h.os,h.tape,h.output,h.size,fun b hb _=>h.block b hb⟩
section
variable {w0 w w' : World} {F G : Nat -> Prop} {p : Nat} {a : Option Addr} {cap : Nat} {bs : List UInt8} {yq : Bool} {st : List Lv} {at_ : Int}
def Stk (w0 w:World) (F G:Nat->Prop) (p:Nat) (a:Option Addr) (cap:Nat) (bs:List UInt8) (yq:Bool) (st:List Lv) (at_:Int):Prop:=∃gs osl,zap w0 w F G p a cap bs yq st at_ gs osl
structure Nxt (w0 w:World) (F G:Nat->Prop) (p:Nat) (a:Option Addr) (cap:Nat) (bs:List UInt8) (yq:Bool) (st:List Lv) (at_:Int) (F':Nat->Prop) (w':World):Prop where
 stk:Stk w0 w' F' G p a cap bs yq st at_
 sg:zaJ G w w'
 sf:zaJ F w w'
 ff:∀b,F b->F' b
end
section
variable {w w' : World} {p q u o0 o1 o2 r : Nat} {x0 x1 x2 : Value}
def S3 (w:World) (p o0:Nat) (x0:Value) (q o1:Nat) (x1:Value) (u o2:Nat) (x2:Value):Prop:=w.cell? ⟨p,o0,none⟩=some x0/\w.cell? ⟨q,o1,none⟩=some x1/\w.cell? ⟨u,o2,none⟩=some x2
theorem S3.below (h:S3 w p o0 x0 q o1 x1 u o2 x2) (hb:Below w.heap.size w w'):S3 w' p o0 x0 q o1 x1 u o2 x2:=⟨cell?_keep hb h.1,cell?_keep hb h.2.1,cell?_keep hb h.2.2⟩
theorem S3.alloc (h:S3 w p o0 x0 q o1 x1 u o2 x2) (o:Obj):S3 (w.alloc o) p o0 x0 q o1 x1 u o2 x2:=h.below (zae w o)
theorem S3.drew (h:S3 w p o0 x0 q o1 x1 u o2 x2):S3 w.drew p o0 x0 q o1 x1 u o2 x2:=h
theorem S3.set8 (h:S3 w p o0 x0 q o1 x1 u o2 x2) (hp:p≠r) (hq:q≠r) (hu:u≠r) (y0 y1 y2 y3 y4 y5 y6 y7:Value) :
  S3 ((((((((w.setCell ⟨r,0,none⟩ y0).setCell ⟨r,1,none⟩ y1).setCell ⟨r,2,none⟩ y2).setCell ⟨r,3,none⟩ y3).setCell ⟨r,4,none⟩ y4).setCell ⟨r,5,none⟩ y5).setCell ⟨r,6,none⟩ y6).setCell ⟨r,7,none⟩ y7) p o0 x0 q o1 x1 u o2 x2 :=
 ⟨(zcc hp _ _ _ _ _ _ _ _ _).trans h.1,(zcc hq _ _ _ _ _ _ _ _ _).trans h.2.1,(zcc hu _ _ _ _ _ _ _ _ _).trans h.2.2⟩
end
structure TkM (w W:World) (r:Nat) (cs:Array Value):Prop where
 bel:Below w.heap.size w W
 blk:W.heap[r]?=some (.cells cs 112 (0,0))
 new:w.heap.size<=r
section
variable {w0 w w' : World} {F F' G : Nat -> Prop} {p : Nat} {a : Option Addr} {cap : Nat} {bs : List UInt8} {yq : Bool} {st : List Lv} {at_ : Int} {gs : List Nat} {osl : Value}
theorem pnext_any (h:zap w0 w F G p a cap bs yq st at_ gs osl):Calls Tryz.prog 63 #[.pointer (some ⟨p,0,none⟩)] w fun e w' =>
  e=.returned (.tuple #[.agg (tokN (zaj bs at_ yq).1 (zaj bs at_ yq).2.1 (zaj bs at_ yq).2.2.1),.int .i64 (zaj bs at_ yq).2.2.2]) /\
  zap w0 w' F G p a cap bs yq st (if (zaj bs at_ yq).2.2.2=0 then (zaj bs at_ yq).2.2.1 else at_) gs osl/\zaf (fun b=>b=p) w w':=by
 have HN:=yb (fun (W:World) (hb:Below w.heap.size w W)=>zdm (h.bytes.mono hb) h.small at_ yq)
 generalize zaj bs at_ yq=V at *
 unfold zdP tokN at HN
 obtain ⟨x,f,t,er⟩:=V
 simp only at HN |-
 unfold tokN
 generalize x.kind=a0 at *
 generalize x.vk=a1 at *
 generalize x.vn=a2 at *
 generalize mkB x.vs=s1 at *
 generalize mkB x.s=s2 at *
 have HS:=yb h
 have hpw:=h.lt
 clear h
 go_enter Tryz.func63,Tryz.ntmps63
 go_wp2
 have HB1:=yb (zae w (.cells #[.int .i64 0,.int .i64 0,.int .i64 0,.int .i64 0,.int .i64 0,.string ⟨#[]⟩,.slice none 0 0,.string ⟨#[]⟩] 112))
 have HS1:=yb (HS.out.mono HB1.out)
 have HR1:=yb (zab (w:=w) (b:=w.heap.size) (.cells #[.int .i64 0,.int .i64 0,.int .i64 0,.int .i64 0,.int .i64 0,.string ⟨#[]⟩,.slice none 0 0,.string ⟨#[]⟩] 112) rfl)
 generalize w.alloc _=W1 at *
 obtain ⟨r,hr⟩:∃r,r=w.heap.size:=⟨_,rfl⟩
 have hpr0:p≠r:=by omega
 rw [<-hr] at HR1 |-
 have HRR:=yb hr
 clear hr hpw
 obtain ⟨⟨c0,c1,c2,c3⟩,f0,f1,f2,f3⟩:=HS1.out.cells
 have HA1:=yb (fun o:Obj=>(zae W1 o).drew)
 have HA2:=yb (fun o:Obj=>HB1.out.trans ((HA1.out o).mono (show w.heap.size<=W1.heap.size from HB1.out.size)))
 have HC0:Hid (S3 W1 p 0 (.slice a bs.length cap) p 1 (.int .i64 at_) p 2 (.bool yq)):=yb ⟨c0,c1,c2⟩
 have hpr:p≠W1.heap.size:=Nat.ne_of_lt HS1.out.lt
 have HR1L:=yb (show r<W1.heap.size from zal HR1.out)
 go_region_held3 (fun w'=>w'.cell? ⟨p,0,none⟩=some (.slice a bs.length cap)/\w'.cell? ⟨p,1,none⟩=some (.int .i64 at_)/\w'.cell? ⟨p,2,none⟩=some (.bool yq))
  ((show S3 _ p 0 (.slice a bs.length cap) p 1 (.int .i64 at_) p 2 (.bool yq);(first
   |(with_reducible exact HC0.out.drew)
   |(with_reducible exact HC0.out)
   |(with_reducible exact (HC0.out.alloc _).drew)
   |(with_reducible exact Hid.out (by assumption))
   |(with_reducible exact S3.alloc (Hid.out (by assumption)) _)
   |(with_reducible exact S3.set8 (Hid.out (by assumption)) hpr hpr hpr _ _ _ _ _ _ _ _))))
  ((go_at_call 100;first
   |((with_reducible refine (HN.out _ HB1.out.drew).mono ?_);rintro e wN ⟨rfl,hbN⟩;have hbM:Below W1.heap.size W1 wN:=(Below.refl _ _).drew.trans hbN;have HSN:=yb (HC0.out.below hbM))
   |((with_reducible refine (HN.out _ (HA2.out _)).mono ?_);rintro e wN ⟨rfl,hbN⟩;have hbM:Below W1.heap.size W1 wN:=(HA1.out _).trans (hbN.mono (HA1.out _).size);have HSN:=yb (HC0.out.below hbM);have HZ:=yb (zaa hbN (zab (w:=W1) (b:=W1.heap.size) (.cells #[.int .i64 0,.int .i64 0,.int .i64 0,.int .i64 0,.int .i64 0,.string ⟨#[]⟩,.slice none 0 0,.string ⟨#[]⟩] 112) rfl));obtain ⟨⟨z0,z1,z2,z3,z4,z5,z6,z7⟩,y0,y1,y2,y3,y4,y5,y6,y7⟩:=zao HZ.out)))
 all_goals
  first
   |(obtain ⟨W2,hW2⟩:∃W2,W2=wN.alloc (.cells #[.int .i64 a0,.int .i64 f,.int .i64 t,.int .i64 a1,.int .i64 a2,.string s1,.slice none 0 0,.string s2] 112):=⟨_,rfl⟩
     rw [<-hW2]
     have HT:=yb (show TkM W1 W2 wN.heap.size #[.int .i64 a0,.int .i64 f,.int .i64 t,.int .i64 a1,.int .i64 a2,.string s1,.slice none 0 0,.string s2] from ⟨by rw [hW2];exact hbM.alloc hbM.size _,by rw [hW2];exact zab _ rfl,hbM.size⟩)
     obtain ⟨r2,hr2⟩:∃r2,r2=wN.heap.size:=⟨_,rfl⟩
     rw [<-hr2] at HT |-)
   |(obtain ⟨W2,hW2⟩:∃W2,W2=((((((((wN.setCell ⟨W1.heap.size,0,none⟩ (.int .i64 a0)).setCell ⟨W1.heap.size,1,none⟩ (.int .i64 f)).setCell ⟨W1.heap.size,2,none⟩ (.int .i64 t)).setCell ⟨W1.heap.size,3,none⟩ (.int .i64 a1)).setCell ⟨W1.heap.size,4,none⟩ (.int .i64 a2)).setCell ⟨W1.heap.size,5,none⟩ (.string s1)).setCell ⟨W1.heap.size,6,none⟩ (.slice none 0 0)).setCell ⟨W1.heap.size,7,none⟩ (.string s2)):=⟨_,rfl⟩
     rw [<-hW2]
     have HT:=yb (show TkM W1 W2 W1.heap.size #[.int .i64 a0,.int .i64 f,.int .i64 t,.int .i64 a1,.int .i64 a2,.string s1,.slice none 0 0,.string s2] from ⟨by rw [hW2];exact zba hbM (yp _) _ _ _ _ _ _ _ _,by rw [hW2];exact set8 HZ.out _ _ _ _ _ _ _ _,yp _⟩)
     clear z0 z1 z2 z3 z4 z5 z6 z7 y0 y1 y2 y3 y4 y5 y6 y7 HZ
     obtain ⟨r2,hr2⟩:∃r2,r2=W1.heap.size:=⟨_,rfl⟩
     rw [<-hr2] at HT |-)
  clear hW2 hr2 hbN hbM HSN
  have HS2:=yb (HS1.out.mono HT.out.bel)
  have HR2:=yb (zaa HT.out.bel HR1.out)
  have hp2:p≠r2:=by have:=HT.out.new;have:=HS1.out.lt;omega
  have hr22:r≠r2:=by have:=HT.out.new;have:=HR1L.out;omega
  have HB2:=yb (HB1.out.trans (HT.out.bel.mono HB1.out.size))
  clear c0 c1 c2 c3 f0 f1 f2 f3 hpr
  obtain ⟨⟨c0,c1,c2,c3⟩,f0,f1,f2,f3⟩:=HS2.out.cells
  obtain ⟨⟨k0,k1,k2,k3,k4,k5,k6,k7⟩,m0,m1,m2,m3,m4,m5,m6,m7⟩:=zao HT.out.blk
  obtain ⟨⟨g0,g1,g2,g3,g4,g5,g6,g7⟩,l0,l1,l2,l3,l4,l5,l6,l7⟩:=zao HR2.out
  by_cases her:er=0
  ·subst her
   go_wp2
   refine yi (zac rfl _ _ r 112 _ (0,0) _ rfl (set8 ((heap_setCell_other _ _ _ _ (Ne.symm hpr0)).trans HR2.out) _ _ _ _ _ _ _ _) Tryz.underlying112 rfl zav _ rfl) rfl ?_
   refine ⟨rfl,?_,?_⟩
   ·exact (((HS.out.res (G':=fun b=>G b\/b=r) HB2.out (fun b hb=>hb.imp id fun e=>by rw [e];exact ⟨Nat.le_of_eq HRR.out.symm,zal HR2.out⟩)).setAt t).set8 (.inr rfl) _ _ _ _ _ _ _ _).give fun b hb=>.inl hb
   ·exact za9 (zaf.setCell (S:=fun b=>b=p) (a:=⟨p,1,none⟩) (zat HB2.out) (.inl rfl) _) (Nat.le_of_eq HRR.out.symm) _ _ _ _ _ _ _ _
  ·have e1:(er==0)=false:=by rw [yf];exact her
   go_wp2
   refine yi (zac rfl _ _ r 112 _ (0,0) _ rfl (set8 HR2.out _ _ _ _ _ _ _ _) Tryz.underlying112 rfl zav _ rfl) rfl ?_
   refine ⟨rfl,?_,?_⟩
   ·exact ((HS.out.res (G':=fun b=>G b\/b=r) HB2.out (fun b hb=>hb.imp id fun e=>by rw [e];exact ⟨Nat.le_of_eq HRR.out.symm,zal HR2.out⟩)).set8 (.inr rfl) _ _ _ _ _ _ _ _).give fun b hb=>.inl hb
   ·exact za9 (zat HB2.out) (Nat.le_of_eq HRR.out.symm) _ _ _ _ _ _ _ _
def topP:List Nat->Option Addr
 | []=>none
 | g::_=>some ⟨g,0,none⟩
theorem zfM (h:zap w0 w F G p a cap bs yq st at_ gs osl):Calls Tryz.prog 65 #[.pointer (some ⟨p,0,none⟩)] w fun e w'=>e=.returned (.pointer (topP gs))/\∃q,w'=w.drewN q:=by
 have hl:=h.lvs.len
 have hd:=h.deep
 obtain ⟨ao,oc,rfl,hro,-⟩:=Row.of_owns h.own
 obtain ⟨⟨c0,c1,c2,c3⟩,f0,f1,f2,f3⟩:=h.cells
 cases gs with
 | nil =>
  have h0:st.length=0:=by simpa using hl.symm
  rw [h0] at c3
  clear hl hro h h0 hd
  go_enter Tryz.func65,Tryz.ntmps65
  go_wp2
  go_ret
  exact ⟨rfl,0,rfl⟩
 | cons g t =>
  have h0:st.length=t.length+1:=by simpa using hl.symm
  rw [h0] at hro c3 hd
  obtain ⟨b,off,rfl,hb,hc⟩:=hro.2.2.2.2 (by omega)
  have hcell:=hc t.length (.pointer (some ⟨g,0,none⟩)) (by simp [ptrs])
  have hce:decide (t.length+1=0)=false:=by simp
  have hci:((t.length:Int)+1==0)=false:=by rw [yf];omega
  have h1:(0:Int)<=(t.length:Int)+1-1:=by omega
  have h2:((t.length:Int)+1-1).toNat=t.length:=by omega
  have h3:IntKind.i64.wrap ((t.length:Int)+1-1)=(t.length:Int):=by rw [IntWalk.i64_in _ (by omega)];omega
  have h4:(t.length:Int)<(t.length:Int)+1:=by omega
  have h5:(0:Int)<=(t.length:Int):=by omega
  have h6:((t.length:Int)).toNat=t.length:=by omega
  clear hc hro hl h h0
  unfold topP
  generalize t.length=n at *
  go_enter Tryz.func65,Tryz.ntmps65
  go_wp2
  go_quiet (fail)
  go_wp2
  go_ret
  exact ⟨rfl,_,rfl⟩
end
structure IsRd (w0 w:World) (p:Nat) (a:Option Addr) (cap:Nat) (bs:List UInt8) (yq:Bool) (at_:Int):Prop where
 blk:w.heap[p]?=some (.cells #[.slice a bs.length cap,.int .i64 at_,.bool yq] 73 (0,0))
 new:w0.heap.size<=p
 row:Row w0 1 a bs.length cap (bs.map u8C)
 bel:Below w0.heap.size w0 w
 small:bs.length<=400000
theorem set3 {w:World} {b:Nat} {x0 x1 x2:Value} {t:TypeId} (h:w.heap[b]?=some (.cells #[x0,x1,x2] t (0,0))) (y:Value):(w.setCell ⟨b,1,none⟩ y).heap[b]?=some (.cells #[x0,y,x2] t (0,0)):=by
 rw [heap_setCell_same w b 1 _ _ _ h];rfl
section
variable {w0 w w' : World} {p : Nat} {a : Option Addr} {cap : Nat} {bs : List UInt8} {yq : Bool} {at_ : Int}
theorem IsRd.lt (h:IsRd w0 w p a cap bs yq at_):p<w.heap.size:=zal h.blk
theorem IsRd.mono (h:IsRd w0 w p a cap bs yq at_) (hb:Below w.heap.size w w'):IsRd w0 w' p a cap bs yq at_ :=
 ⟨zaa hb h.blk,h.new,h.row,h.bel.trans (hb.mono h.bel.size),h.small⟩
theorem IsRd.bytes (h:IsRd w0 w p a cap bs yq at_):Row w 1 a bs.length cap (bs.map u8C):=h.row.mono h.bel
theorem IsRd.cells (h:IsRd w0 w p a cap bs yq at_):(w.cell? ⟨p,0,none⟩=some (.slice a bs.length cap)/\w.cell? ⟨p,1,none⟩=some (.int .i64 at_)/\w.cell? ⟨p,2,none⟩=some (.bool yq)) /\
  w.frozen? ⟨p,0,none⟩=false/\w.frozen? ⟨p,1,none⟩=false/\w.frozen? ⟨p,2,none⟩=false :=
 ⟨⟨by rw [cell_of_row _ _ _ _ _ _ h.blk];rfl,by rw [cell_of_row _ _ _ _ _ _ h.blk];rfl,by rw [cell_of_row _ _ _ _ _ _ h.blk];rfl⟩,frozen_of_row _ _ _ _ _ h.blk,frozen_of_row _ _ _ _ _ h.blk,frozen_of_row _ _ _ _ _ h.blk⟩
theorem IsRd.setAt (h:IsRd w0 w p a cap bs yq at_) (at2:Int):IsRd w0 (w.setCell ⟨p,1,none⟩ (.int .i64 at2)) p a cap bs yq at2 :=
 ⟨set3 h.blk _,h.new,h.row,h.bel.setCell h.new _,h.small⟩
theorem IsRd.set8 (h:IsRd w0 w p a cap bs yq at_) {r:Nat} (hr:p≠r) (h0:w0.heap.size<=r) (y0 y1 y2 y3 y4 y5 y6 y7:Value) :
  IsRd w0 ((((((((w.setCell ⟨r,0,none⟩ y0).setCell ⟨r,1,none⟩ y1).setCell ⟨r,2,none⟩ y2).setCell ⟨r,3,none⟩ y3).setCell ⟨r,4,none⟩ y4).setCell ⟨r,5,none⟩ y5).setCell ⟨r,6,none⟩ y6).setCell ⟨r,7,none⟩ y7) p a cap bs yq at_ :=
 ⟨(zfh hr _ _ _ _ _ _ _ _).trans h.blk,h.new,h.row,zba h.bel h0 _ _ _ _ _ _ _ _,h.small⟩
theorem nxt_1 (bs:List UInt8) (yq:Bool) (k:Int):(nxtV bs yq k).1=(zaj bs k yq).1:=by unfold nxtV;split<;>rfl
theorem nxt_2 (bs:List UInt8) (yq:Bool) (k:Int):(nxtV bs yq k).2.1=(zaj bs k yq).2.1:=by unfold nxtV;split<;>rfl
theorem nxt_3 (bs:List UInt8) (yq:Bool) (k:Int):(nxtV bs yq k).2.2.1=(zaj bs k yq).2.2.1:=by unfold nxtV;split<;>rfl
def nxE (V:Tk×Int×Int×Int):Int:=if V.2.2.2=0/\V.1.kind=0 then 10 else V.2.2.2
theorem nxt_4 (bs:List UInt8) (yq:Bool) (k:Int):(nxtV bs yq k).2.2.2=nxE (zaj bs k yq):=by unfold nxtV nxE;split<;>rfl
theorem zer (h:IsRd w0 w p a cap bs yq at_):Calls Tryz.prog 60 #[.pointer (some ⟨p,0,none⟩)] w fun e w' =>
  e=.returned (.tuple #[.agg (tokN (nxtV bs yq at_).1 (nxtV bs yq at_).2.1 (nxtV bs yq at_).2.2.1),.int .i64 (nxtV bs yq at_).2.2.2]) /\
  IsRd w0 w' p a cap bs yq (if (nxtV bs yq at_).2.2.2=0 then (nxtV bs yq at_).2.2.1 else at_)/\zaf (fun b=>b=p) w w':=by
 have HN:=yb (fun (W:World) (hb:Below w.heap.size w W)=>zdm (h.bytes.mono hb) h.small at_ yq)
 rw [nxt_1,nxt_2,nxt_3,nxt_4]
 generalize zaj bs at_ yq=V at *
 unfold zdP tokN at HN
 obtain ⟨x,f,t,er⟩:=V
 simp only at HN |-
 unfold tokN nxE
 simp only
 generalize x.kind=a0 at *
 obtain ⟨E,hE⟩:∃E,E=(if er=0/\a0=0 then (10:Int) else er):=⟨_,rfl⟩
 rw [<-hE]
 obtain ⟨A,hA⟩:∃A,A=(if E=0 then t else at_):=⟨_,rfl⟩
 rw [<-hA]
 have HEE:=yb hE
 have HAA:=yb hA
 clear hE hA
 generalize x.vk=a1 at *
 generalize x.vn=a2 at *
 generalize mkB x.vs=s1 at *
 generalize mkB x.s=s2 at *
 have HS:=yb h
 have hpw:=h.lt
 clear h
 go_enter Tryz.func60,Tryz.ntmps60
 go_wp2
 have HB1:=yb (zae w (.cells #[.int .i64 0,.int .i64 0,.int .i64 0,.int .i64 0,.int .i64 0,.string ⟨#[]⟩,.slice none 0 0,.string ⟨#[]⟩] 112))
 have HS1:=yb (HS.out.mono HB1.out)
 have HR1:=yb (zab (w:=w) (b:=w.heap.size) (.cells #[.int .i64 0,.int .i64 0,.int .i64 0,.int .i64 0,.int .i64 0,.string ⟨#[]⟩,.slice none 0 0,.string ⟨#[]⟩] 112) rfl)
 generalize w.alloc _=W1 at *
 obtain ⟨r,hr⟩:∃r,r=w.heap.size:=⟨_,rfl⟩
 have hpr0:p≠r:=by omega
 rw [<-hr] at HR1 |-
 have HRR:=yb hr
 clear hr hpw
 obtain ⟨⟨c0,c1,c2⟩,f0,f1,f2⟩:=HS1.out.cells
 have HA1:=yb (fun o:Obj=>(zae W1 o).drew)
 have HA2:=yb (fun o:Obj=>HB1.out.trans ((HA1.out o).mono (show w.heap.size<=W1.heap.size from HB1.out.size)))
 have HC0:Hid (S3 W1 p 0 (.slice a bs.length cap) p 1 (.int .i64 at_) p 2 (.bool yq)):=yb ⟨c0,c1,c2⟩
 have hpr:p≠W1.heap.size:=Nat.ne_of_lt HS1.out.lt
 have HR1L:=yb (show r<W1.heap.size from zal HR1.out)
 go_region_held3 (fun w'=>w'.cell? ⟨p,0,none⟩=some (.slice a bs.length cap)/\w'.cell? ⟨p,1,none⟩=some (.int .i64 at_)/\w'.cell? ⟨p,2,none⟩=some (.bool yq))
  ((show S3 _ p 0 (.slice a bs.length cap) p 1 (.int .i64 at_) p 2 (.bool yq);(first
   |(with_reducible exact HC0.out.drew)
   |(with_reducible exact HC0.out)
   |(with_reducible exact (HC0.out.alloc _).drew)
   |(with_reducible exact Hid.out (by assumption))
   |(with_reducible exact S3.alloc (Hid.out (by assumption)) _)
   |(with_reducible exact S3.set8 (Hid.out (by assumption)) hpr hpr hpr _ _ _ _ _ _ _ _))))
  ((go_at_call 100;first
   |((with_reducible refine (HN.out _ HB1.out.drew).mono ?_);rintro e wN ⟨rfl,hbN⟩;have hbM:Below W1.heap.size W1 wN:=(Below.refl _ _).drew.trans hbN;have HSN:=yb (HC0.out.below hbM))
   |((with_reducible refine (HN.out _ (HA2.out _)).mono ?_);rintro e wN ⟨rfl,hbN⟩;have hbM:Below W1.heap.size W1 wN:=(HA1.out _).trans (hbN.mono (HA1.out _).size);have HSN:=yb (HC0.out.below hbM);have HZ:=yb (zaa hbN (zab (w:=W1) (b:=W1.heap.size) (.cells #[.int .i64 0,.int .i64 0,.int .i64 0,.int .i64 0,.int .i64 0,.string ⟨#[]⟩,.slice none 0 0,.string ⟨#[]⟩] 112) rfl));obtain ⟨⟨z0,z1,z2,z3,z4,z5,z6,z7⟩,y0,y1,y2,y3,y4,y5,y6,y7⟩:=zao HZ.out)))
 all_goals
  first
   |(obtain ⟨W2,hW2⟩:∃W2,W2=wN.alloc (.cells #[.int .i64 a0,.int .i64 f,.int .i64 t,.int .i64 a1,.int .i64 a2,.string s1,.slice none 0 0,.string s2] 112):=⟨_,rfl⟩
     rw [<-hW2]
     have HT:=yb (show TkM W1 W2 wN.heap.size #[.int .i64 a0,.int .i64 f,.int .i64 t,.int .i64 a1,.int .i64 a2,.string s1,.slice none 0 0,.string s2] from ⟨by rw [hW2];exact hbM.alloc hbM.size _,by rw [hW2];exact zab _ rfl,hbM.size⟩)
     obtain ⟨r2,hr2⟩:∃r2,r2=wN.heap.size:=⟨_,rfl⟩
     rw [<-hr2] at HT |-)
   |(obtain ⟨W2,hW2⟩:∃W2,W2=((((((((wN.setCell ⟨W1.heap.size,0,none⟩ (.int .i64 a0)).setCell ⟨W1.heap.size,1,none⟩ (.int .i64 f)).setCell ⟨W1.heap.size,2,none⟩ (.int .i64 t)).setCell ⟨W1.heap.size,3,none⟩ (.int .i64 a1)).setCell ⟨W1.heap.size,4,none⟩ (.int .i64 a2)).setCell ⟨W1.heap.size,5,none⟩ (.string s1)).setCell ⟨W1.heap.size,6,none⟩ (.slice none 0 0)).setCell ⟨W1.heap.size,7,none⟩ (.string s2)):=⟨_,rfl⟩
     rw [<-hW2]
     have HT:=yb (show TkM W1 W2 W1.heap.size #[.int .i64 a0,.int .i64 f,.int .i64 t,.int .i64 a1,.int .i64 a2,.string s1,.slice none 0 0,.string s2] from ⟨by rw [hW2];exact zba hbM (yp _) _ _ _ _ _ _ _ _,by rw [hW2];exact set8 HZ.out _ _ _ _ _ _ _ _,yp _⟩)
     clear z0 z1 z2 z3 z4 z5 z6 z7 y0 y1 y2 y3 y4 y5 y6 y7 HZ
     obtain ⟨r2,hr2⟩:∃r2,r2=W1.heap.size:=⟨_,rfl⟩
     rw [<-hr2] at HT |-)
  clear hW2 hr2 hbN hbM HSN
  have HS2:=yb (HS1.out.mono HT.out.bel)
  have HR2:=yb (zaa HT.out.bel HR1.out)
  have hp2:p≠r2:=by have:=HT.out.new;have:=HS1.out.lt;omega
  have hr22:r≠r2:=by have:=HT.out.new;have:=HR1L.out;omega
  have HB2:=yb (HB1.out.trans (HT.out.bel.mono HB1.out.size))
  clear c0 c1 c2 f0 f1 f2 hpr
  obtain ⟨⟨c0,c1,c2⟩,f0,f1,f2⟩:=HS2.out.cells
  obtain ⟨⟨k0,k1,k2,k3,k4,k5,k6,k7⟩,m0,m1,m2,m3,m4,m5,m6,m7⟩:=zao HT.out.blk
  obtain ⟨⟨g0,g1,g2,g3,g4,g5,g6,g7⟩,l0,l1,l2,l3,l4,l5,l6,l7⟩:=zao HR2.out
  have h0r:=Nat.le_trans HS.out.bel.size (Nat.le_of_eq HRR.out.symm)
  by_cases her:er=0
  ·subst her
   by_cases hk0:a0=0
   ·subst hk0
    obtain rfl:E=10:=by rw [HEE.out,yg ⟨rfl,rfl⟩]
    obtain rfl:at_=A:=by rw [HAA.out,yh (by decide)]
    go_wp2
    refine yi (zac rfl _ _ r 112 _ (0,0) _ rfl (set8 HR2.out _ _ _ _ _ _ _ _) Tryz.underlying112 rfl zav _ rfl) rfl ?_
    refine ⟨rfl,?_,?_⟩
    ·exact HS2.out.set8 hpr0 h0r _ _ _ _ _ _ _ _
    ·exact za9 (zat HB2.out) (Nat.le_of_eq HRR.out.symm) _ _ _ _ _ _ _ _
   ·have hk1:(a0==0)=false:=by rw [yf];exact hk0
    obtain rfl:E=0:=by rw [HEE.out,yh (fun h=>hk0 h.2)]
    obtain rfl:t=A:=by rw [HAA.out,yg rfl]
    go_wp2
    refine yi (zac rfl _ _ r 112 _ (0,0) _ rfl (set8 ((heap_setCell_other _ _ _ _ (Ne.symm hpr0)).trans HR2.out) _ _ _ _ _ _ _ _) Tryz.underlying112 rfl zav _ rfl) rfl ?_
    refine ⟨rfl,?_,?_⟩
    ·exact (HS2.out.setAt t).set8 hpr0 h0r _ _ _ _ _ _ _ _
    ·exact za9 (zaf.setCell (S:=fun b=>b=p) (a:=⟨p,1,none⟩) (zat HB2.out) (.inl rfl) _) (Nat.le_of_eq HRR.out.symm) _ _ _ _ _ _ _ _
  ·have e1:(er==0)=false:=by rw [yf];exact her
   obtain rfl:er=E:=by rw [HEE.out,yh (fun h=>her h.1)]
   obtain rfl:at_=A:=by rw [HAA.out,yh her]
   go_wp2
   refine yi (zac rfl _ _ r 112 _ (0,0) _ rfl (set8 HR2.out _ _ _ _ _ _ _ _) Tryz.underlying112 rfl zav _ rfl) rfl ?_
   refine ⟨rfl,?_,?_⟩
   ·exact HS2.out.set8 hpr0 h0r _ _ _ _ _ _ _ _
   ·exact za9 (zat HB2.out) (Nat.le_of_eq HRR.out.symm) _ _ _ _ _ _ _ _
end
def entC (e:Ent):List Value:=[.int .i64 e.at_,.int .i64 e.gen,.bool e.used]
def zcM (l:List Ent):List Value:=l.flatMap entC
def entA (e:Ent):Value:=.agg #[.int .i64 e.at_,.int .i64 e.gen,.bool e.used]
theorem entsC_append (l m:List Ent):zcM (l++m)=zcM l++zcM m:=by simp [zcM]
theorem entsC_get:∀(l:List Ent) (k:Nat) (e:Ent),l[k]?=some e->(zcM l)[k*3]?=some (.int .i64 e.at_)/\(zcM l)[k*3+1]?=some (.int .i64 e.gen)/\(zcM l)[k*3+2]?=some (.bool e.used)
 | [],k,e,h=>by simp at h
 | x::l,0,e,h=>by
  simp at h;subst h
  exact ⟨rfl,rfl,rfl⟩
 | x::l,k+1,e,h=>by
  obtain ⟨h1,h2,h3⟩:=entsC_get l k e (by simpa using h)
  have hx:zcM (x::l)=.int .i64 x.at_::.int .i64 x.gen::.bool x.used::zcM l:=rfl
  rw [hx,show (k+1)*3=k*3+1+1+1 by omega]
  simp only [List.getElem?_cons_succ]
  exact ⟨h1,h2,h3⟩
def IsE (w:World) (F:Nat->Prop) (es:List Ent) (v:Value):Prop:=∃a cap,v=.slice a es.length cap/\Row w 3 a es.length cap (zcM es)/\(0<es.length->∀x,a=some x->F x.block)
def IsGs (w:World) (F:Nat->Prop):List Grp->List Value->Prop
 | [],cs=>cs=[]
 | g::gs,cs=>∃v t,cs=.int .i64 g.first::v::t/\IsE w F g.es v/\IsGs w F gs t
def IsG (w:World) (F:Nat->Prop) (gs:List Grp) (v:Value):Prop:=∃a cap cs,v=.slice a gs.length cap/\Row w 2 a gs.length cap cs/\(0<gs.length->∀x,a=some x->F x.block)/\IsGs w F gs cs
theorem IsE.keep {w w':World} {F G:Nat->Prop} (hk:zaJ F w w') (hG:∀b,F b->G b) {es:List Ent} {v:Value} (h:IsE w F es v):IsE w' G es v:=by
 obtain ⟨a,cap,e,hr,hF⟩:=h
 exact ⟨a,cap,e,hr.stays hk hF,fun h0 x hx=>hG _ (hF h0 x hx)⟩
theorem IsGs.keep {w w':World} {F G:Nat->Prop} (hk:zaJ F w w') (hG:∀b,F b->G b):∀ {gs:List Grp} {cs:List Value},IsGs w F gs cs->IsGs w' G gs cs
 | [],_,h=>h
 | _::_,_,⟨v,t,e,h1,h2⟩=>⟨v,t,e,h1.keep hk hG,IsGs.keep hk hG h2⟩
theorem IsG.keep {w w':World} {F G:Nat->Prop} (hk:zaJ F w w') (hG:∀b,F b->G b) {gs:List Grp} {v:Value} (h:IsG w F gs v):IsG w' G gs v:=by
 obtain ⟨a,cap,cs,e,hr,hF,hs⟩:=h
 exact ⟨a,cap,cs,e,hr.stays hk hF,fun h0 x hx=>hG _ (hF h0 x hx),hs.keep hk hG⟩
theorem IsE.below {w w':World} {F:Nat->Prop} {es:List Ent} {v:Value} (h:IsE w F es v) (hb:Below w.heap.size w w'):IsE w' F es v:=h.keep (zaJ.of_below hb) (fun _ h=>h)
theorem IsGs.below {w w':World} {F:Nat->Prop} {gs:List Grp} {cs:List Value} (h:IsGs w F gs cs) (hb:Below w.heap.size w w'):IsGs w' F gs cs:=h.keep (zaJ.of_below hb) (fun _ h=>h)
theorem IsG.below {w w':World} {F:Nat->Prop} {gs:List Grp} {v:Value} (h:IsG w F gs v) (hb:Below w.heap.size w w'):IsG w' F gs v:=h.keep (zaJ.of_below hb) (fun _ h=>h)
theorem IsE.nil (w:World) (F:Nat->Prop):IsE w F [] (.slice none 0 0):=⟨none,0,rfl,Row.nil w 3,fun h=>by cases h⟩
theorem IsG.nil (w:World) (F:Nat->Prop):IsG w F [] (.slice none 0 0):=⟨none,0,[],rfl,Row.nil w 2,fun h=>(by cases h),rfl⟩
theorem IsGs.length {w:World} {F:Nat->Prop}:∀ {gs:List Grp} {cs:List Value},IsGs w F gs cs->cs.length=gs.length*2
 | [],_,h=>by cases h;rfl
 | _::_,_,⟨v,t,e,_,h2⟩=>by subst e;have:=IsGs.length h2;simp;omega
theorem IsGs.append {w:World} {F:Nat->Prop}:∀ {l m:List Grp} {cs ds:List Value},IsGs w F l cs->IsGs w F m ds->IsGs w F (l++m) (cs++ds)
 | [],_,_,_,h,hm=>by cases h;exact hm
 | _::_,_,_,_,⟨v,t,e,h1,h2⟩,hm=>⟨v,t++_,by subst e;rfl,h1,IsGs.append h2 hm⟩
theorem IsGs.snoc {w:World} {F:Nat->Prop} {gs:List Grp} {cs:List Value} (h:IsGs w F gs cs) {n:Int} {es:List Ent} {v:Value} (hv:IsE w F es v):IsGs w F (gs++[⟨n,es⟩]) (cs++[.int .i64 n,v]):=h.append ⟨v,[],rfl,hv,rfl⟩
theorem IsGs.get {w:World} {F:Nat->Prop}:∀ {gs:List Grp} {cs:List Value},IsGs w F gs cs->∀(k:Nat) (g:Grp),gs[k]?=some g->∃v,IsE w F g.es v/\cs[k*2]?=some (.int .i64 g.first)/\cs[k*2+1]?=some v
 | [],_,_,_,_,hk=>by simp at hk
 | x::l,_,⟨v,t,e,h1,h2⟩,0,g,hk=>by
  simp at hk;subst hk e
  exact ⟨v,h1,rfl,rfl⟩
 | x::l,_,⟨v,t,e,h1,h2⟩,k+1,g,hk=>by
  subst e
  obtain ⟨v2,h3,h4,h5⟩:=h2.get k g (by simpa using hk)
  refine ⟨v2,h3,?_,?_⟩
  ·rw [show (k+1)*2=k*2+1+1 by omega];simpa using h4
  ·rw [show (k+1)*2+1=k*2+1+1+1 by omega];simpa using h5
theorem IsE.len {w:World} {F:Nat->Prop} {es:List Ent} {v:Value} (h:IsE w F es v):∃a cap,v=.slice a es.length cap/\es.length<=cap/\cap<=maxLen/\(a=none->cap=0):=by
 obtain ⟨a,cap,e,hr,_⟩:=h
 exact ⟨a,cap,e,hr.2.1,hr.2.2.1,hr.2.2.2.1⟩
theorem IsG.len {w:World} {F:Nat->Prop} {gs:List Grp} {v:Value} (h:IsG w F gs v):∃a cap,v=.slice a gs.length cap/\gs.length<=cap/\cap<=maxLen/\(a=none->cap=0):=by
 obtain ⟨a,cap,cs,e,hr,_⟩:=h
 exact ⟨a,cap,e,hr.2.1,hr.2.2.1,hr.2.2.2.1⟩
theorem IsE.at {w:World} {F:Nat->Prop} {es:List Ent} {a:Option Addr} {n cap:Nat} (h:IsE w F es (.slice a n cap)) (hn:0<n) :
  n=es.length/\n<=cap/\cap<=maxLen/\∃b off,a=some ⟨b,off,none⟩/\b<w.heap.size/\F b/\∀k x,es[k]?=some x->w.cell? ⟨b,off+k*3,none⟩=some (.int .i64 x.at_) /\
   w.cell? ⟨b,off+k*3+1,none⟩=some (.int .i64 x.gen)/\w.cell? ⟨b,off+k*3+2,none⟩=some (.bool x.used):=by
 obtain ⟨a',cap',e,hr,hF⟩:=h
 simp only [Value.slice.injEq] at e
 obtain ⟨rfl,rfl,rfl⟩:=e
 obtain ⟨b,off,rfl,hb,hc⟩:=hr.2.2.2.2 hn
 refine ⟨rfl,hr.2.1,hr.2.2.1,b,off,rfl,hb,hF hn _ rfl,fun k x hx=>?_⟩
 obtain ⟨h2,h3,h4⟩:=entsC_get es k x hx
 exact ⟨hc _ _ h2,(Nat.add_assoc off (k*3) 1).symm▸hc _ _ h3,(Nat.add_assoc off (k*3) 2).symm▸hc _ _ h4⟩
theorem IsG.at {w:World} {F:Nat->Prop} {gs:List Grp} {a:Option Addr} {n cap:Nat} (h:IsG w F gs (.slice a n cap)) (hn:0<n) :
  n=gs.length/\n<=cap/\cap<=maxLen/\∃b off,a=some ⟨b,off,none⟩/\b<w.heap.size/\F b/\∀k x,gs[k]?=some x->∃v,IsE w F x.es v/\w.cell? ⟨b,off+k*2,none⟩=some (.int .i64 x.first) /\
   w.cell? ⟨b,off+k*2+1,none⟩=some v:=by
 obtain ⟨a',cap',cs,e,hr,hF,hs⟩:=h
 simp only [Value.slice.injEq] at e
 obtain ⟨rfl,rfl,rfl⟩:=e
 obtain ⟨b,off,rfl,hb,hc⟩:=hr.2.2.2.2 hn
 refine ⟨rfl,hr.2.1,hr.2.2.1,b,off,rfl,hb,hF hn _ rfl,fun k x hx=>?_⟩
 obtain ⟨v,h1,h2,h3⟩:=hs.get k x hx
 exact ⟨v,h1,hc _ _ h2,(Nat.add_assoc off (k*2) 1).symm▸hc _ _ h3⟩
def secC (s:Sec) (gv sl:Value):List Value:=gv::pvC s.tr sl
def secA (s:Sec) (gv sl:Value):Value:=.agg #[gv,.int .i64 s.tr.kind,.int .i64 s.tr.n,.string (mkB s.tr.s),sl]
def zbu (w:World) (F:Nat->Prop) (s:Sec) (gv sl:Value):Prop:=IsG w F s.gs gv/\IsV w F s.tr sl
theorem zbu.keep {w w':World} {F G:Nat->Prop} (hk:zaJ F w w') (hG:∀b,F b->G b) {s:Sec} {gv sl:Value} (h:zbu w F s gv sl):zbu w' G s gv sl:=⟨h.1.keep hk hG,IsV.keep hk hG _ h.2⟩
theorem zbu.below {w w':World} {F:Nat->Prop} {s:Sec} {gv sl:Value} (h:zbu w F s gv sl) (hb:Below w.heap.size w w'):zbu w' F s gv sl:=h.keep (zaJ.of_below hb) (fun _ h=>h)
theorem isSec_none (w:World) (F:Nat->Prop):zbu w F Sec.none (.slice none 0 0) (.slice none 0 0):=⟨IsG.nil w F,IsV.leaf w F _ rfl⟩
theorem zeB (x:Tk) (f t:Int) (w:World):Calls Tryz.prog 61 #[.agg (tokN x f t)] w fun e w'=>e=.returned (.bool (za2 x))/\Below w.heap.size w w':=by
 unfold tokN za2
 generalize x.kind=a0 at *
 generalize x.vk=a1 at *
 generalize x.vn=a2 at *
 generalize mkB x.vs=s1 at *
 generalize mkB x.s=s2 at *
 cases h0:(a0==1)
 ·go_enter Tryz.func61,Tryz.ntmps61
  go_wp2
  go_ret
  exact ⟨rfl,zae w _⟩
 ·go_enter Tryz.func61,Tryz.ntmps61
  go_wp2
  go_ret
  exact ⟨rfl,zae w _⟩
theorem fits_any (f n:Int) (w:World):Calls Tryz.prog 41 #[.int .i64 f,.int .i64 n] w fun e w'=>e=.returned (.bool (ze5 f n))/\w=w':=by
 unfold ze5
 by_cases a1:0<=f
 ·by_cases a2:f<=4097
  ·by_cases a3:0<=n
   ·by_cases a4:n<=4097-f
    ·go_enter Tryz.func41,Tryz.ntmps41
     go_wp2
     go_ret
     exact ⟨by simp [a1,a2,a3,a4],rfl⟩
    ·go_enter Tryz.func41,Tryz.ntmps41
     go_wp2
     go_ret
     exact ⟨by simp [a4],rfl⟩
   ·go_enter Tryz.func41,Tryz.ntmps41
    go_wp2
    go_ret
    exact ⟨by simp;omega,rfl⟩
  ·go_enter Tryz.func41,Tryz.ntmps41
   go_wp2
   go_ret
   exact ⟨by simp;omega,rfl⟩
 ·go_enter Tryz.func41,Tryz.ntmps41
  go_wp2
  go_ret
  exact ⟨by simp;omega,rfl⟩
def dig1 (l:List UInt8) (most:Int):Int:=if (zaA l).2≠0\/most<(zaA l).1 then -1 else (zaA l).1
structure zas (W:World) where
 w:World
 h:Below W.heap.size W w
instance zas.there (W:World):Nonempty (zas W):=⟨⟨W,Below.refl _ _⟩⟩
theorem zaw {P:Program} {id:Nat} {Q:Exit->Act->World->Prop} {a:Act} {W:World} {l:List Oper} (hm:P.follows .mixedOrders=true) (hB:Region.lexB .any l.toArray=true)
  (h:wpQuiet P l.toArray (fun w'=>∃p:zas W,w'=p.w) (fun a'=>∀w',(∃p:zas W,w'=p.w)->Q .normal a' w') l a):(Code.region id l.toArray true).wp P Q a W :=
 wp_region_quiet (C:=fun w'=>∃p:zas W,w'=p.w) hm hB ⟨⟨W.drew,(Below.refl _ _).drew⟩,rfl⟩ (by simpa using h)
theorem Calls.below_of {P:Program} {f:FuncId} {args:Array Value} {W:World} {p:zas W} {v:Value}
  (h:Calls P f args p.w fun e w'=>e=.returned v/\Below p.w.heap.size p.w w'):Calls P f args p.w fun e w''=>e=.returned v/\∃p':zas W,w''=p'.w :=
 h.mono fun _ w' ⟨he,hb⟩=>⟨he,⟨w',p.h.trans (hb.mono p.h.size)⟩,rfl⟩
theorem zas.cell {W:World} {b o:Nat} {v:Value} (hc:W.cell? ⟨b,o,none⟩=some v) (p:zas W):p.w.cell? ⟨b,o,none⟩=some v:=cell?_keep p.h hc
theorem conv_rowX {w:World} {a:Option Addr} {cap:Nat} {bs:List UInt8} (hr:Row w 1 a bs.length cap (bs.map u8C)):(convert 28 9 (.slice a bs.length cap)).run Tryz.prog w=.ok (.string (mkB bs)) w:=by
 cases a with
 | none =>
  have h0:=hr.2.2.2.1 rfl
  have h1:=hr.2.1
  have ho:bs=[]:=List.eq_nil_of_length_eq_zero (by omega)
  subst ho
  rw [h0]
  exact run_convert_bytes_string w 28 9 5 none 0 0 Tryz.underlying28 Tryz.underlying5 Tryz.underlying9
 | some x =>
  refine run_convert_bytes_back (P:=Tryz.prog) w 28 9 5 x cap bs Tryz.underlying28 Tryz.underlying5 Tryz.underlying9 (fun j hj=>?_)
  obtain ⟨b,o,hx,-,hc⟩:=hr.2.2.2.2 (by omega)
  cases hx
  rw [Addr.add_lit]
  exact hc j (u8C bs[j]) (by simp [hj])
theorem xdig_any {w:World} {a:Option Addr} {n cap:Nat} {l:List UInt8} (hr:Row w 1 a n cap (l.map u8C)) (hl:l.length=n) (most:Int) :
  Calls Tryz.prog 138 #[.slice a n cap,.int .i64 most] w fun e w'=>e=.returned (.int .i64 (dig1 l most))/\Below w.heap.size w w':=by
 subst hl
 have hcv:=conv_rowX hr
 have HD:=yb (zb9 (mkB l) w)
 rw [show bl (mkB l)=l from rfl] at HD
 unfold dig1
 generalize zaA l=V at *
 obtain ⟨n,e⟩:=V
 unfold DigEnd at HD
 simp only at HD |-
 clear hr
 generalize l.length=L at *
 generalize mkB l=s at *
 by_cases he:e=0
 ·subst he
  by_cases hn:most<n
  ·rw [yg (.inr hn)]
   go_enter Tryz.func138,Tryz.ntmps138
   go_wp2_with (go_at_call 168;refine HD.out.mono ?_;rintro e w' ⟨rfl,hb⟩;have HB:=yb hb;clear hb)
   go_ret
   exact ⟨rfl,HB.out⟩
  ·rw [yh (by simpa using hn)]
   go_enter Tryz.func138,Tryz.ntmps138
   go_wp2_with (go_at_call 168;refine HD.out.mono ?_;rintro e w' ⟨rfl,hb⟩;have HB:=yb hb;clear hb)
   go_ret
   exact ⟨rfl,HB.out⟩
 ·rw [yg (.inl he)]
  have e0:(e==0)=false:=by rw [yf];exact he
  have e1:(e != 0)=true:=by simp only [bne,e0,yj]
  clear he
  go_enter Tryz.func138,Tryz.ntmps138
  go_wp2_with (go_at_call 168;refine HD.out.mono ?_;rintro e w' ⟨rfl,hb⟩;have HB:=yb hb;clear hb)
  go_ret
  exact ⟨rfl,HB.out⟩
theorem set3a {w:World} {b:Nat} {x0 x1 x2:Value} {t:TypeId} (h:w.heap[b]?=some (.cells #[x0,x1,x2] t (0,0))) (y0 y1 y2:Value) :
  (((w.setCell ⟨b,0,none⟩ y0).setCell ⟨b,1,none⟩ y1).setCell ⟨b,2,none⟩ y2).heap[b]?=some (.cells #[y0,y1,y2] t (0,0)):=by
 rw [heap_setCell_same _ _ 2 _ _ _ (heap_setCell_same _ _ 1 _ _ _ (heap_setCell_same w _ 0 _ _ _ h))];rfl
theorem zbC {w:World} {b:Nat} {x0 x1 x2:Value} {t:TypeId} (h:w.heap[b]?=some (.cells #[x0,x1,x2] t (0,0))) :
  (w.cell? ⟨b,0,none⟩=some x0/\w.cell? ⟨b,1,none⟩=some x1/\w.cell? ⟨b,2,none⟩=some x2)/\(w.frozen? ⟨b,0,none⟩=false/\w.frozen? ⟨b,1,none⟩=false/\w.frozen? ⟨b,2,none⟩=false):=by
 refine ⟨⟨?_,?_,?_⟩,frozen_of_row w b 0 _ _ h,frozen_of_row w b 1 _ _ h,frozen_of_row w b 2 _ _ h⟩
 ·rw [cell_of_row w b 0 _ _ _ h];rfl
 ·rw [cell_of_row w b 1 _ _ _ h];rfl
 ·rw [cell_of_row w b 2 _ _ _ h];rfl
theorem u8_of {c d:UInt8} {n:Nat} (h:c.toNat=n) (hd:d.toNat=n):c=d:=UInt8.toNat_inj.1 (h.trans hd.symm)
theorem u8_beq (c d:UInt8) (n:Nat) (hd:d.toNat=n):(c==d)=((c.toNat:Int)==(n:Int)):=by
 by_cases h:c=d
 ·subst h;rw [hd];simp
 ·have h2:c.toNat≠n:=fun e=>h (u8_of e hd)
  rw [beq_eq_false_iff_ne.2 h,eq_comm,yf]
  omega
theorem ent_isNone {s:List UInt8} (h:true=(entS s).isNone):entS s=none:=by
 cases hs:entS s with
 | none=>rfl
 | some x=>rw [hs] at h;cases h
theorem zeK:(Tryz.prog.info? 45).map (·.size)=some 3:=by kernel_rfl
theorem skip_go {bs:List UInt8} {j:Nat} (hj:j<bs.length) (h:isSp (bs.getD j 0)=true):zcK bs j=zcK bs (j+1):=by
 unfold zcK
 rw [zaZ hj,List.takeWhile_cons,yg h,List.length_cons]
 omega
theorem skip_stop {bs:List UInt8} {j:Nat} (hj:j<bs.length) (h:isSp (bs.getD j 0)=false):zcK bs j=j:=by
 unfold zcK
 rw [zaZ hj,List.takeWhile_cons,yh (by rw [h];decide)]
 rfl
theorem skip_end (bs:List UInt8):zcK bs bs.length=bs.length:=by
 unfold zcK
 rw [List.drop_length]
 rfl
theorem zdF {s:List UInt8} (h:dig1 (s.take 10) 2147483647<0\/dig1 ((s.drop 11).take 5) 65535<0\/s.getD 10 0≠32\/s.getD 16 0≠32\/(s.getD 17 0≠110/\s.getD 17 0≠102)\/(s.getD 18 0≠32/\s.getD 18 0≠10/\s.getD 18 0≠13)):entS s=none:=by
 unfold entS
 rw [yg]
 rcases h with h|h|h|h|h|h
 ·left
  unfold dig1 at h
  split at h
  ·rename_i hq
   rcases hq with hq|hq
   ·exact hq
   ·have:=zcB (s.take 10)
    omega
  ·have:=zcB (s.take 10)
   omega
 ·unfold dig1 at h
  split at h
  ·rename_i hq
   rcases hq with hq|hq
   ·exact .inr (.inl hq)
   ·exact .inr (.inr (.inl hq))
  ·have:=zcB ((s.drop 11).take 5)
   omega
 ·exact .inr (.inr (.inr (.inl h)))
 ·exact .inr (.inr (.inr (.inr (.inl h))))
 ·exact .inr (.inr (.inr (.inr (.inr (.inl h)))))
 ·exact .inr (.inr (.inr (.inr (.inr (.inr h)))))
theorem row_cut {w:World} {b o n cap:Nat} {bs:List UInt8} (h:Row w 1 (some ⟨b,o,none⟩) n cap (bs.map u8C)) (u m:Nat) (hm:u+m<=n):Row w 1 (some ⟨b,o+u,none⟩) m (cap-u) (((bs.drop u).take m).map u8C):=by
 obtain ⟨h1,h2,h3,-,h5⟩:=h
 rw [List.length_map] at h1
 refine ⟨by rw [List.length_map,List.length_take,ym];omega,by omega,by omega,fun h=>(by cases h),fun hm0=>?_⟩
 obtain ⟨b',o',e,hb,hc⟩:=h5 (by omega)
 cases e
 refine ⟨b,o+u,rfl,hb,fun j x hj=>?_⟩
 rw [Nat.add_assoc]
 refine hc _ _ ?_
 rw [List.getElem?_map] at hj |-
 rw [List.getElem?_take] at hj
 split at hj
 ·rw [List.getElem?_drop] at hj;exact hj
 ·cases hj
theorem entV_cut {bs:List UInt8} {yq:Bool} {k j:Nat} (h:zcK bs k=j) (hl:bs.length<j+19):entV bs yq k=({},0,zbz yq):=by unfold entV;rw [h,yg hl]
theorem entV_bad {bs:List UInt8} {yq:Bool} {k j:Nat} (h:zcK bs k=j) (hl:¬bs.length<j+19) (hs:entS ((bs.drop j).take 19)=none):entV bs yq k=({},0,20):=by unfold entV;rw [h,yh hl,hs]
theorem entV_ok {bs:List UInt8} {yq:Bool} {k j:Nat} (h:zcK bs k=j) (hl:¬bs.length<j+19) {x:Ent} (hs:entS ((bs.drop j).take 19)=some x):entV bs yq k=(x,j+19,0):=by unfold entV;rw [h,yh hl,hs]
theorem ent_some {s:List UInt8} (h:false=(entS s).isNone):entS s=some { at_:=dig1 (s.take 10) 2147483647,gen:=dig1 ((s.drop 11).take 5) 65535,used:=s.getD 17 0==110 }:=by
 unfold entS at h |-
 split at h
 ·cases h
 ·rename_i hn
  rw [yh hn]
  have e1:¬((zaA (s.take 10)).2≠0\/2147483647<(zaA (s.take 10)).1):=by
   have:=zcB (s.take 10)
   rintro (h|h)
   ·exact hn (.inl h)
   ·omega
  have e2:¬((zaA ((s.drop 11).take 5)).2≠0\/65535<(zaA ((s.drop 11).take 5)).1):=by
   rintro (h|h)
   ·exact hn (.inr (.inl h))
   ·exact hn (.inr (.inr (.inl h)))
  unfold dig1
  rw [yh e1,yh e2]
theorem ent_good {s:List UInt8} (h1:0<=dig1 (s.take 10) 2147483647) (h2:0<=dig1 ((s.drop 11).take 5) 65535) (h3:s.getD 10 0=32) (h4:s.getD 16 0=32) (h5:s.getD 17 0=110\/s.getD 17 0=102) (h6:s.getD 18 0=32\/s.getD 18 0=10\/s.getD 18 0=13) :
  entS s=some { at_:=dig1 (s.take 10) 2147483647,gen:=dig1 ((s.drop 11).take 5) 65535,used:=s.getD 17 0==110 }:=by
 unfold dig1 at *
 have e1:¬((zaA (s.take 10)).2≠0\/2147483647<(zaA (s.take 10)).1):=by intro hn;rw [yg hn] at h1;exact absurd h1 (by decide)
 have e2:¬((zaA ((s.drop 11).take 5)).2≠0\/65535<(zaA ((s.drop 11).take 5)).1):=by intro hn;rw [yg hn] at h2;exact absurd h2 (by decide)
 rw [yh e1,yh e2]
 unfold entS
 rw [yh]
 rintro (hn|hn|hn|hn|hn|hn|hn)
 ·exact e1 (.inl hn)
 ·exact e2 (.inl hn)
 ·exact e2 (.inr hn)
 ·exact hn h3
 ·exact hn h4
 ·rcases h5 with h|h
  ·exact hn.1 h
  ·exact hn.2 h
 ·rcases h6 with h|h|h
  ·exact hn.1 h
  ·exact hn.2.1 h
  ·exact hn.2.2 h
section
variable {w0 w w' : World} {p : Nat} {a : Option Addr} {cap : Nat} {bs : List UInt8} {yq : Bool} {at_ : Int}
theorem IsRd.set3r (h:IsRd w0 w p a cap bs yq at_) {r:Nat} (hr:p≠r) (h0:w0.heap.size<=r) (y0 y1 y2:Value):IsRd w0 (((w.setCell ⟨r,0,none⟩ y0).setCell ⟨r,1,none⟩ y1).setCell ⟨r,2,none⟩ y2) p a cap bs yq at_ :=
 ⟨by rw [heap_setCell_other _ _ _ _ hr,heap_setCell_other _ _ _ _ hr,heap_setCell_other _ _ _ _ hr];exact h.blk,h.new,h.row,((h.bel.setCell h0 _).setCell h0 _).setCell h0 _,h.small⟩
theorem zdS {S:Nat->Prop} {W:World} (h:zaf S w W) {r:Nat} (hr:w.heap.size<=r) (y0 y1 y2:Value):zaf S w (((W.setCell ⟨r,0,none⟩ y0).setCell ⟨r,1,none⟩ y1).setCell ⟨r,2,none⟩ y2) :=
 ((h.setCell (.inr hr) _).setCell (.inr hr) _).setCell (.inr hr) _
theorem xopen_any (h:IsRd w0 w p a cap bs yq at_):Calls Tryz.prog 137 #[.pointer (some ⟨p,0,none⟩)] w fun e w'=>e=.returned (.int .i64 (zbz yq))/\w=w':=by
 obtain ⟨⟨-,-,c2⟩,-⟩:=h.cells
 clear h
 cases yq
 ·go_enter Tryz.func137,Tryz.ntmps137
  go_wp2
  go_ret
  exact ⟨rfl,rfl⟩
 ·go_enter Tryz.func137,Tryz.ntmps137
  go_wp2
  go_ret
  exact ⟨rfl,rfl⟩
def EntEnd (w0 w:World) (p:Nat) (a:Option Addr) (cap:Nat) (bs:List UInt8) (yq:Bool) (V:Ent×Nat×Int) (e:Ending) (w':World):Prop :=
 e=.returned (.tuple #[entA V.1,.int .i64 V.2.2])/\(∃at2:Int,IsRd w0 w' p a cap bs yq at2/\(V.2.2=0->at2=V.2.1))/\zaf (fun b=>b=p) w w'
theorem xentry_any {k:Nat} (h:IsRd w0 w p a cap bs yq (k:Int)) (hk:k<=bs.length):Calls Tryz.prog 101 #[.pointer (some ⟨p,0,none⟩)] w (EntEnd w0 w p a cap bs yq (entV bs yq k)):=by
 obtain ⟨V,hV⟩:∃V,V=entV bs yq k:=⟨_,rfl⟩
 rw [<-hV]
 have HV:=yb hV
 have hsm:=h.small
 have hcp:=h.row.2.1
 have hcm:=h.row.i64c
 have HR:=yb h
 clear h hV
 go_enter Tryz.func101,Tryz.ntmps101
 go_upto_block 0 with fail
 have HB1:=yb (zae w (.cells #[.int .i64 0,.int .i64 0,.bool false] 45))
 have HS1:=yb (HR.out.mono HB1.out)
 obtain ⟨r,hr⟩:∃r,r=w.heap.size:=⟨_,rfl⟩
 have HZ1:=yb (zab (w:=w) (b:=r) (.cells #[.int .i64 0,.int .i64 0,.bool false] 45) hr)
 have hpr:p≠r:=by have:=HR.out.lt;omega
 have HPR:=yb hpr
 have HRR:=yb (Nat.le_of_eq hr.symm)
 have HR0:=yb (Nat.le_trans HR.out.bel.size HRR.out)
 rw [<-hr]
 clear hr hpr
 generalize w.alloc _=W1 at *
 obtain ⟨J,hJ⟩:∃J,J=zcK bs k:=⟨_,rfl⟩
 have HJ:=yb hJ
 clear hJ
 go_cut [] from 8 (fun wx=>∃j:Nat,k<=j/\j<=bs.length/\Hid (J=j)/\Hid (IsRd w0 wx p a cap bs yq (j:Int))/\Hid (zaf (fun b=>b=p) W1 wx))
 case first =>
  go_wp2_with fail
  go_loopg [] (bs.length-k) (fun g wr=>∃j:Nat,g=bs.length-j/\k<=j/\j<=bs.length/\Hid (zcK bs j=J)/\Hid (IsRd w0 wr p a cap bs yq (j:Int))/\Hid (zaf (fun b=>b=p) W1 wr))
  case atStart=>exact ⟨k,rfl,yp _,hk,yb HJ.out.symm,HS1,yb (zaf.refl _ _)⟩
  case round =>
   obtain ⟨j,hg,hkj,hj,HSK,HI,HKP⟩:=hrel
   have HG:=yb hg
   obtain ⟨⟨c0,c1,c2⟩,f0,f1,f2⟩:=HI.out.cells
   clear hg
   have hck:(j:Int)<=400000:=by omega
   by_cases hjl:j<bs.length
   ·obtain ⟨b,off,rfl,-,hcc⟩:=HI.out.bytes.at 0 j hjl
    have hcj:=hcc j hjl
    unfold u8C at hcj
    have hjd:decide ((j:Int)<bs.length)=true:=by simp;omega
    have hjd2:decide (j<bs.length)=true:=by simp;omega
    have HSP:=yb (fun W=>zdn (bs.getD j 0).toNat W)
    rw [<-spI_eq] at HSP
    have HG2:=yb (fun h=>skip_go (bs:=bs) hjl h)
    have HST:=yb (fun h=>skip_stop (bs:=bs) hjl h)
    clear hcc
    generalize bs.getD j 0=c at *
    obtain ⟨sp,hsp⟩:∃sp,isSp c=sp:=⟨_,rfl⟩
    rw [hsp] at HSP
    have HSB:=yb hsp
    clear hsp
    generalize c.toNat=x at *
    cases sp
    ·go_wp2
     go_quiet ((go_at_call 136;exact (HSP.out _).mono fun _ _ ⟨he,hm⟩=>⟨he,_,hm.symm⟩))
     go_wp2_with fail
     go_meet
     exact ⟨j,hkj,hj,yb (HSK.out.symm.trans (HST.out HSB.out)),yb (HI.out.mono (zad (Below.refl _ _) _)),yb (HKP.out.drewN _)⟩
    ·go_wp2
     go_quiet ((go_at_call 136;exact (HSP.out _).mono fun _ _ ⟨he,hm⟩=>⟨he,_,hm.symm⟩))
     go_wp2
     go_roundg (bs.length-(j+1))
     case rel=>exact ⟨j+1,rfl,by omega,by omega,yb ((HG2.out HSB.out).symm.trans HSK.out),yb ((HI.out.mono (zad (Below.refl _ _) _)).setAt _),yb ((HKP.out.drewN _).setCell (.inl rfl) _)⟩
     case measure=>have:=HG.out;omega
   ·have hje:j=bs.length:=by omega
    have HJE:=yb (show J=j by rw [<-HSK.out,hje];exact skip_end bs)
    have hjd:decide ((j:Int)<bs.length)=false:=ye (by omega)
    have hjd2:decide (j<bs.length)=false:=ye (by omega)
    clear hje
    go_wp2
    go_quiet (fail)
    go_wp2_with fail
    go_meet
    exact ⟨j,hkj,hj,HJE,yb (HI.out.mono (zad (Below.refl _ _) _)),yb (HKP.out.drewN _)⟩
 case rest =>
  obtain ⟨j,hkj,hj,HJE,HI2,HK2⟩:=hcut
  have hck:(j:Int)<=400000:=by omega
  generalize wc=W2 at *
  obtain ⟨⟨c0,c1,c2⟩,f0,f1,f2⟩:=HI2.out.cells
  have HZ2:=yb (HK2.out.obj HZ1.out (fun e=>HPR.out e.symm))
  have HKW:=yb (zaf.trans (S:=fun b=>b=p) (zat HB1.out) HK2.out (fun x h=>.inl h))
  obtain ⟨⟨z0,z1,z2⟩,y0,y1,y2⟩:=zbC HZ2.out
  by_cases hlen:bs.length<j+19
  ·have HV3:=yb (HV.out.trans (entV_cut (yq:=yq) (HJ.out.symm.trans HJE.out) hlen))
   have hld:decide ((bs.length:Int)-j<19)=true:=yd (by omega)
   have HOP:=yb (fun q=>xopen_any (HI2.out.mono (zad (Below.refl _ _) q)))
   clear hlen
   go_wp2
   go_quiet (fail)
   go_wp2_with (go_at_call 137;refine (HOP.out _).mono ?_;rintro e w' ⟨rfl,rfl⟩)
   refine yi (zac rfl _ _ r 45 _ (0,0) _ rfl (by exact set3a HZ2.out _ _ _) Tryz.underlying45 rfl (by exact zeK) _ rfl) rfl ?_
   rw [HV3.out]
   exact ⟨rfl,⟨_,(HI2.out.mono (zad (Below.refl _ _) _)).set3r HPR.out HR0.out _ _ _,fun h=>absurd h (zeh yq)⟩,zdS (HKW.out.drewN _) HRR.out _ _ _⟩
  ·have hjl:j<bs.length:=by omega
   have hld:decide ((bs.length:Int)-j<19)=false:=ye (by omega)
   have HRB:=HI2.out.bytes
   obtain ⟨b2,off2,ha,-,hcc⟩:=HRB.at 0 j hjl
   have HBP:=yb (show ¬b2=p from fun e=>by have h1:b2<w0.heap.size:=HI2.out.row.lt (by omega) ⟨b2,off2,none⟩ ha;have h2:=HI2.out.new;omega)
   rw [ha] at c0 HRB
   have hj19:j+19<=bs.length:=by omega
   have HR1:=yb (row_cut HRB j 19 hj19)
   have HSL:=yb (show ((bs.drop j).take 19).length=19 by rw [List.length_take,ym];omega)
   have HEB:=yb (fun h=>HV.out.trans (entV_bad (yq:=yq) (HJ.out.symm.trans HJE.out) hlen h))
   have HEO:=yb (fun x h=>HV.out.trans (entV_ok (yq:=yq) (x:=x) (HJ.out.symm.trans HJE.out) hlen h))
   generalize (bs.drop j).take 19=s at *
   clear hcc ha hlen HJE HJ HV HRB
   go_wp2
   go_quiet (fail)
   generalize nq=nqa
   go_wp2
   go_quiet (fail)
   generalize nq=nqb
   go_wp2
   have e19:j+18+1-j=19:=by omega
   rw [e19]
   have HI3:=yb (HI2.out.mono (zad (zad (Below.refl _ _) nqa) nqb))
   have HK3:=yb ((HKW.out.drewN nqa).drewN nqb)
   have HZ3:=yb (zaa (zad (zad (Below.refl W2.heap.size W2) nqa) nqb) HZ2.out)
   have HR3:=yb (HR1.out.mono (zad (zad (Below.refl W2.heap.size W2) nqa) nqb))
   generalize (W2.drewN nqa).drewN nqb=W3 at *
   clear HI2 HK2 HKW HZ2 HR1 c0 c1 c2 f0 f1 f2 z0 z1 z2 y0 y1 y2
   have hC1:19<=cap-j:=by omega
   have hC2:((cap-j:Nat):Int)<=9223372036854775807:=by omega
   generalize cap-j=C at *
   have HRA:=yb (row_cut HR3.out 0 10 (by omega))
   have HRG:=yb (row_cut HR3.out 11 5 (by omega))
   simp only [List.drop_zero,Nat.add_zero,Nat.sub_zero] at HRA
   have HDA:=yb (fun q:zas W3=>xdig_any (HRA.out.mono q.h) (by rw [List.length_take];have:=HSL.out;omega) 2147483647)
   have HDG:=yb (fun q:zas W3=>xdig_any (HRG.out.mono q.h) (by rw [List.length_take,ym];have:=HSL.out;omega) 65535)
   obtain ⟨A,hA⟩:∃A,A=dig1 (s.take 10) 2147483647:=⟨_,rfl⟩
   obtain ⟨G,hG⟩:∃G,G=dig1 ((s.drop 11).take 5) 65535:=⟨_,rfl⟩
   rw [<-hA] at HDA
   rw [<-hG] at HDG
   have HA:=yb hA
   have HGG:=yb hG
   clear hA hG
   refine zaw (by kernel_rfl) (by kernel_rfl) ?_
   repeat (go_big_quiet_step ((first
    |(go_at_call_of 138 (Value.slice (some ⟨b2,off2+j,none⟩) 10 C);with_reducible exact Calls.below_of (HDA.out _))
    |(go_at_call 138;with_reducible exact Calls.below_of (HDG.out _)))))
   refine wpQuiet_nil ?_
   rintro W4 ⟨⟨w4,hb4⟩,hw⟩
   replace hw:W4=w4:=hw
   subst hw
   have HI4:=yb (HI3.out.mono hb4)
   have HK4:=yb (zaf.trans HK3.out (zat (S:=fun _=>False) hb4) (fun x h=>(by cases h)))
   have HZ4:=yb (zaa hb4 HZ3.out)
   obtain ⟨_,_,ha,-,hcc⟩:=(HR3.out.mono hb4).at 0 0 (by decide)
   cases ha
   have hc10:=hcc 10 (by decide)
   have hc16:=hcc 16 (by decide)
   have hc17:=hcc 17 (by decide)
   have hc18:=hcc 18 (by decide)
   unfold u8C at hc10 hc16 hc17 hc18
   clear hcc hb4 HI3 HK3 HZ3 HR3 HRA HRG HDA HDG
   obtain ⟨⟨c0,c1,c2⟩,f0,f1,f2⟩:=HI4.out.cells
   obtain ⟨⟨z0,z1,z2⟩,y0,y1,y2⟩:=zbC HZ4.out
   obtain ⟨x10,hx10⟩:∃x,(s.getD 10 0).toNat=x:=⟨_,rfl⟩
   obtain ⟨x16,hx16⟩:∃x,(s.getD 16 0).toNat=x:=⟨_,rfl⟩
   obtain ⟨x17,hx17⟩:∃x,(s.getD 17 0).toNat=x:=⟨_,rfl⟩
   obtain ⟨x18,hx18⟩:∃x,(s.getD 18 0).toNat=x:=⟨_,rfl⟩
   rw [hx10] at hc10
   rw [hx16] at hc16
   rw [hx17] at hc17
   rw [hx18] at hc18
   have HX10:=yb hx10
   have HX16:=yb hx16
   have HX17:=yb hx17
   have HX18:=yb hx18
   clear hx10 hx16 hx17 hx18
   obtain ⟨bd,hbd⟩:∃bd,bd=(entS s).isNone:=⟨_,rfl⟩
   have HBD:=yb hbd
   clear hbd
   go_upto_region 8 with fail
   go_cut [130] from 89 (fun v wx=>v=.bool bd/\wx=W4)
   case first =>
    clear c0 c1 c2 f0 f1 f2 z0 z1 z2 y0 y1 y2 HEB HEO
    by_cases hA0:A<0
    case pos =>
     obtain rfl:bd=true:=by rw [HBD.out,zdF (.inl (by rw [<-HA.out];exact hA0))];rfl
     go_wp2_with fail
     go_meet
     exact ⟨rfl,rfl⟩
    by_cases hG0:G<0
    case pos =>
     obtain rfl:bd=true:=by rw [HBD.out,zdF (.inr (.inl (by rw [<-HGG.out];exact hG0)))];rfl
     go_wp2_with fail
     go_meet
     exact ⟨rfl,rfl⟩
    by_cases h10:x10=32
    case neg =>
     obtain rfl:bd=true:=by rw [HBD.out,zdF (.inr (.inr (.inl (fun e=>h10 (by rw [<-HX10.out,e];rfl)))))];rfl
     have e32:((x10:Int)==32)=false:=by rw [yf];omega
     have f32:((x10:Int) != 32)=true:=by simp only [bne,e32,yj]
     go_wp2_with fail
     go_meet
     exact ⟨rfl,rfl⟩
    subst h10
    by_cases h16:x16=32
    case neg =>
     obtain rfl:bd=true:=by rw [HBD.out,zdF (.inr (.inr (.inr (.inl (fun e=>h16 (by rw [<-HX16.out,e];rfl))))))];rfl
     have e32:((x16:Int)==32)=false:=by rw [yf];omega
     have f32:((x16:Int) != 32)=true:=by simp only [bne,e32,yj]
     go_wp2_with fail
     go_meet
     exact ⟨rfl,rfl⟩
    subst h16
    by_cases h17:x17=110\/x17=102
    case neg =>
     obtain rfl:bd=true:=by rw [HBD.out,zdF (.inr (.inr (.inr (.inr (.inl ⟨fun e=>h17 (.inl (by rw [<-HX17.out,e];rfl)),fun e=>h17 (.inr (by rw [<-HX17.out,e];rfl))⟩)))))];rfl
     have e110:((x17:Int)==110)=false:=by rw [yf];omega
     have f110:((x17:Int) != 110)=true:=by simp only [bne,e110,yj]
     have e102:((x17:Int)==102)=false:=by rw [yf];omega
     have f102:((x17:Int) != 102)=true:=by simp only [bne,e102,yj]
     go_wp2_with fail
     go_meet
     exact ⟨rfl,rfl⟩
    by_cases h18:x18=32\/x18=10\/x18=13
    case neg =>
     obtain rfl:bd=true:=by rw [HBD.out,zdF (.inr (.inr (.inr (.inr (.inr (⟨fun e=>h18 (.inl (by rw [<-HX18.out,e];rfl)),fun e=>h18 (.inr (.inl (by rw [<-HX18.out,e];rfl))),fun e=>h18 (.inr (.inr (by rw [<-HX18.out,e];rfl)))⟩))))))];rfl
     have e32:((x18:Int)==32)=false:=by rw [yf];omega
     have f32:((x18:Int) != 32)=true:=by simp only [bne,e32,yj]
     have e10:((x18:Int)==10)=false:=by rw [yf];omega
     have f10:((x18:Int) != 10)=true:=by simp only [bne,e10,yj]
     have e13:((x18:Int)==13)=false:=by rw [yf];omega
     have f13:((x18:Int) != 13)=true:=by simp only [bne,e13,yj]
     rcases h17 with rfl|rfl
     all_goals (go_wp2_with fail;go_meet;exact ⟨rfl,rfl⟩)
    obtain rfl:bd=false:=by rw [HBD.out,ent_good (by rw [<-HA.out];omega) (by rw [<-HGG.out];omega) (u8_of HX10.out rfl) (u8_of HX16.out rfl) (h17.imp (fun e=>u8_of (HX17.out.trans e) rfl) (fun e=>u8_of (HX17.out.trans e) rfl)) (h18.imp (fun e=>u8_of (HX18.out.trans e) rfl) (fun h=>h.imp (fun e=>u8_of (HX18.out.trans e) rfl) (fun e=>u8_of (HX18.out.trans e) rfl)))];rfl
    rcases h17 with rfl|rfl<;>rcases h18 with rfl|rfl|rfl
    all_goals (go_wp2_with fail;go_meet;exact ⟨rfl,rfl⟩)
   case rest =>
    obtain ⟨rfl,rfl⟩:=hcut
    cases bd
    case true =>
     have HVB:=yb (HEB.out (ent_isNone HBD.out))
     clear HEB HEO hc10 hc16 hc17 hc18
     go_wp2
     refine yi (zac rfl _ _ r 45 _ (0,0) _ rfl (by exact set3a HZ4.out _ _ _) Tryz.underlying45 rfl (by exact zeK) _ rfl) rfl ?_
     rw [HVB.out]
     exact ⟨rfl,⟨_,HI4.out.set3r HPR.out HR0.out _ _ _,fun h=>(by cases h)⟩,zdS HK4.out HRR.out _ _ _⟩
    have HVO:=yb (HEO.out _ (ent_some HBD.out))
    rw [<-HA.out,<-HGG.out] at HVO
    have HU:=yb (show (s.getD 17 0==110)=((x17:Int)==110) by rw [<-HX17.out];exact u8_beq _ 110 110 rfl)
    rw [HU.out] at HVO
    have hbp:=HBP.out
    have hrp:¬r=p:=Ne.symm HPR.out
    clear HEB HEO HU HA HGG hc10 hc16 hc18
    go_wp2
    refine yi (zac rfl _ _ r 45 _ (0,0) _ rfl (by exact set3a ((heap_setCell_other _ _ _ _ (show r≠(⟨p,1,none⟩:Addr).block from Ne.symm HPR.out)).trans HZ4.out) _ _ _) Tryz.underlying45 rfl (by exact zeK) _ rfl) rfl ?_
    rw [HVO.out]
    exact ⟨rfl,⟨_,(HI4.out.setAt _).set3r HPR.out HR0.out _ _ _,fun _=>rfl⟩,zdS (HK4.out.setCell (a:=⟨p,1,none⟩) (.inl rfl) _) HRR.out _ _ _⟩
end
theorem own_new {P:Program} {w:World} {t ty e:TypeId} {z:Value} {size bytes:Nat} (T:zeX P t e z size bytes) {base:Nat} {v:Value} {n:Nat} {xs:List Value} (hown:w.ownsRow base e size v n xs)
  {a:Addr} {c:Nat} {news:List Value} (hl:news.length=1*size) (hnews:∀j u,news[j]?=some u->w.cell? (a.add j)=some u) (h1:∀u∈news,u.oneCell'=true) (h63:n+1<=maxLen) (hbytes:(n+1)*bytes<=140737488355328)
  {v':Value} {w':World} (hr:(Builtin.append_ #[t,t] ty #[v,.slice (some a) 1 c]).run P w=.ok v' w'):∀b,v'.ownBlock=some b->v.ownBlock=some b\/w.heap.size<=b:=by
 obtain ⟨i,hi,hz,hs,hb⟩:=info_parts T.info
 subst hb
 subst hs
 have hsmall:n+1<=9223372036854775807:=by simp only [maxLen] at h63;omega
 intro b hb
 rcases hown.2 with ⟨rfl,rfl⟩|⟨g,cap,cur,rfl,hbg,hg,hnc,hcm,hcs,htake⟩
 ·rw [run_append_nil (P:=P) w t ty e i z T.und hi hz a 1 c news hl hnews (by omega) (by omega) (by omega)] at hr
  cases hr
  right
  simp [Value.ownBlock] at hb
  omega
 ·by_cases hroom:n+1<=cap
  ·have hfit:n*i.size+news.length<=cur.size:=by rw [hl,hcs,<-Nat.add_mul];exact Nat.mul_le_mul_right _ hroom
   rw [run_append_room (P:=P) w t ty e i T.und hi g n cap cur hg a 1 c news hl hnews h1 hroom hfit] at hr
   cases hr
   left
   simpa [Value.ownBlock] using hb
  ·have holds:∀j u,xs[j]?=some u->w.cell? ((⟨g,0,none⟩:Addr).add j)=some u:=hown.cells (g:=g) rfl
   rw [run_append_grow (P:=P) w t ty e i z T.und hi hz ⟨g,0,none⟩ n cap xs hown.1 holds a 1 c news hl hnews (by omega) (by omega) (growslice_fits (by omega) hbytes)] at hr
   cases hr
   right
   simp [Value.ownBlock] at hb
   omega
theorem zfg {P:Program} {w:World} {ops:Array Oper} {rest:List Oper} {o:Oper} {a:Act} {Q:Exit->Act->World->Prop} {t e:TypeId} {z:Value} {size bytes:Nat} (T:zeX P t e z size bytes)
  (hgd:o.guard=none) (s x:Operand) (ho:o.op=.call { callee:=.builtin .append,args:=#[s,x],argTypes:=#[t,t] })
  (base:Nat) (v:Value) (n:Nat) (xs:List Value) (hs:a.eval s=v) (hown:w.ownsRow base e size v n xs)
  (ad:Addr) (c:Nat) (news:List Value) (hx:a.eval x=.slice (some ad) 1 c) (hr:Row w size (some ad) 1 c news) (h1:∀u∈news,u.oneCell'=true)
  (h63:n+1<=maxLen) (hbytes:(n+1)*bytes<=140737488355328) (hbase:base<=w.heap.size)
  (h:∀v' w',w'.ownsRow base e size v' (n+1) (xs++news)->w.grownBy w' v.ownBlock->(∀b,v'.ownBlock=some b->v.ownBlock=some b\/w.heap.size<=b)->wpList P ops Q rest (a.put o.dst v') w'):wpList P ops Q (o::rest) a w:=by
 obtain ⟨i,hi,hz,hs',hb⟩:=info_parts T.info
 have hl:news.length=1*size:=hr.1
 have hnews:∀j u,news[j]?=some u->w.cell? (ad.add j)=some u:=fun j u hj=>by
  obtain ⟨b,off,hab,_,hc⟩:=hr.2.2.2.2 (by omega)
  obtain rfl:=Option.some.inj hab
  rw [Addr.add_lit];exact hc j u hj
 obtain ⟨v',w',hrun,h2,h3,h4⟩:=run_append_own (P:=P) w base t o.type e i z size bytes T.und hi hz hs' hb T.cells T.pos v n xs hown ad 1 c news hl hnews h1 h63 hbytes hbase
 have h5:=own_new T hown hl hnews h1 h63 hbytes hrun
 refine wpList_plain hgd fun K hK=>?_
 unfold Oper.wp execOp
 simp only [ho,resolve,invoke,builtin,Sem.run_bind,Sem.run_pure,Result.andThen_ok,List.map_toArray,List.map_cons,List.map_nil,hs,hx,hrun]
 exact hK _ _ (h v' w' h2 h3 h5)
theorem row_newS (w:World) (cs:Array Value) (e:TypeId) (n:Nat) (hn:cs.size=n) {b:Nat} (hb:w.heap.size=b):Row (w.alloc (.cells cs e)) n (some ⟨b,0,none⟩) 1 1 cs.toList:=by
 subst hb
 exact ⟨by simp [hn],yp _,by simp [maxLen],fun h=>(by cases h),fun _=>⟨w.heap.size,0,rfl,by rw [zaq];omega,fun j u hj=>by
  rw [Nat.zero_add,cell_of_row _ _ _ _ _ _ (zab _ rfl)];simpa using hj⟩⟩
def grp1 (bs:List UInt8) (yq:Bool) (x:Tk) (k:Int):Grp×Int×Int :=
 if za2 x=false then (⟨0,[]⟩,0,20)
 else if (nxtV bs yq k).2.2.2≠0 then (⟨0,[]⟩,0,(nxtV bs yq k).2.2.2)
 else if za2 (nxtV bs yq k).1=false\/ze5 x.vn (nxtV bs yq k).1.vn=false then (⟨0,[]⟩,0,20)
 else if (zdR bs yq (nxtV bs yq k).1.vn.toNat (nxtV bs yq k).2.2.1.toNat []).2.2≠0 then (⟨0,[]⟩,0,(zdR bs yq (nxtV bs yq k).1.vn.toNat (nxtV bs yq k).2.2.1.toNat []).2.2)
 else (⟨x.vn,(zdR bs yq (nxtV bs yq k).1.vn.toNat (nxtV bs yq k).2.2.1.toNat []).1⟩,(zdR bs yq (nxtV bs yq k).1.vn.toNat (nxtV bs yq k).2.2.1.toNat []).2.1,0)
theorem set2a {w:World} {b:Nat} {x0 x1:Value} {t:TypeId} (h:w.heap[b]?=some (.cells #[x0,x1] t (0,0))) (y0 y1:Value) :
  ((w.setCell ⟨b,0,none⟩ y0).setCell ⟨b,1,none⟩ y1).heap[b]?=some (.cells #[y0,y1] t (0,0)):=by
 rw [heap_setCell_same _ _ 1 _ _ _ (heap_setCell_same w _ 0 _ _ _ h)];rfl
theorem za5 {w:World} {b:Nat} {x0 x1:Value} {t:TypeId} (h:w.heap[b]?=some (.cells #[x0,x1] t (0,0))) :
  (w.cell? ⟨b,0,none⟩=some x0/\w.cell? ⟨b,1,none⟩=some x1)/\(w.frozen? ⟨b,0,none⟩=false/\w.frozen? ⟨b,1,none⟩=false):=by
 refine ⟨⟨?_,?_⟩,frozen_of_row w b 0 _ _ h,frozen_of_row w b 1 _ _ h⟩
 ·rw [cell_of_row w b 0 _ _ _ h];rfl
 ·rw [cell_of_row w b 1 _ _ _ h];rfl
theorem zdB:(Tryz.prog.info? 58).map (·.size)=some 2:=by kernel_rfl
theorem EEnt:zeX Tryz.prog 56 45 (.agg #[.int .i64 0,.int .i64 0,.bool false]) 3 24:=⟨Tryz.underlying56,by kernel_rfl,rfl,by omega⟩
theorem entV_le {bs:List UInt8} {yq:Bool} {k:Nat} (_hk:k<=bs.length) (_h:(entV bs yq k).2.2=0):(entV bs yq k).2.1<=bs.length:=by
 unfold entV
 split
 ·exact Nat.zero_le _
 ·split
  ·exact Nat.zero_le _
  ·show zcK bs k+19<=_;omega
section
variable {w0 w w' : World} {p : Nat} {a : Option Addr} {cap : Nat} {bs : List UInt8} {yq : Bool} {at_ : Int}
theorem IsRd.set2r (h:IsRd w0 w p a cap bs yq at_) {r:Nat} (hr:p≠r) (h0:w0.heap.size<=r) (y0 y1:Value):IsRd w0 ((w.setCell ⟨r,0,none⟩ y0).setCell ⟨r,1,none⟩ y1) p a cap bs yq at_ :=
 ⟨by rw [heap_setCell_other _ _ _ _ hr,heap_setCell_other _ _ _ _ hr];exact h.blk,h.new,h.row,(h.bel.setCell h0 _).setCell h0 _,h.small⟩
theorem zfc {S:Nat->Prop} {W:World} (h:zaf S w W) {r:Nat} (hr:w.heap.size<=r) (y0 y1:Value):zaf S w ((W.setCell ⟨r,0,none⟩ y0).setCell ⟨r,1,none⟩ y1) :=
 (h.setCell (.inr hr) _).setCell (.inr hr) _
theorem IsRd.grown (h:IsRd w0 w p a cap bs yq at_) {row:Option Nat} (hg:w.grownBy w' row) (hr:∀b,row=some b->b≠p/\w0.heap.size<=b):IsRd w0 w' p a cap bs yq at_ :=
 ⟨(hg.block p h.lt (fun e=>(hr p e.symm).1 rfl)).trans h.blk,h.new,h.row,h.bel.grown hg h.bel.size (fun b hb=>(hr b hb).2),h.small⟩
theorem IsRd.set (h:IsRd w0 w p a cap bs yq at_) {r:Nat} (hr:p≠r) (h0:w0.heap.size<=r) (i:Nat) (y:Value):IsRd w0 (w.setCell ⟨r,i,none⟩ y) p a cap bs yq at_ :=
 ⟨by rw [heap_setCell_other _ _ _ _ hr];exact h.blk,h.new,h.row,h.bel.setCell h0 _,h.small⟩
structure GrM (w W:World) (r g:Nat) (n:Int) (es:List Ent) (sv:Value):Prop where
 blk:W.heap[g]?=some (.cells #[.int .i64 n,sv] 58 (0,0))
 res:W.heap[r]?=some (.cells #[.int .i64 0,.slice none 0 0] 58 (0,0))
 own:W.ownsRow w.heap.size 45 3 sv es.length (zcM es)
 kps:zaf (fun b=>b=p) w W
 gne:w.heap.size<=g/\r≠g/\g≠p
theorem GrM.ne {W:World} {r g:Nat} {n:Int} {es:List Ent} {sv:Value} (h:GrM (p:=p) w W r g n es sv) {b:Nat} (hb:sv.ownBlock=some b):b≠g/\b≠r:=by
 obtain ⟨cs,hc⟩:=zaC h.own hb
 exact ⟨zaW hc h.blk (by decide),zaW hc h.res (by decide)⟩
theorem GrM.on {W W':World} {r g:Nat} {n:Int} {es:List Ent} {sv:Value} (h:GrM (p:=p) w W r g n es sv) (hr:r≠p) (hp:p<w.heap.size) (hk:zaf (fun b=>b=p) W W'):GrM (p:=p) w W' r g n es sv :=
 ⟨hk.obj h.blk h.gne.2.2,hk.obj h.res hr,za0 h.own fun b hb=>hk.block b (h.own.lt b hb).2 (by have:=(h.own.lt b hb).1;omega),h.kps.trans hk (fun x hx=>.inl hx),h.gne⟩
theorem GrM.atG {W W8:World} {o:Obj} {r g:Nat} {n:Int} {es:List Ent} {sv:Value} (h:GrM (p:=p) w W r g n es sv) (hg8:(W.alloc o).grownBy W8 sv.ownBlock):W8.heap[g]?=some (.cells #[.int .i64 n,sv] 58 (0,0)) :=
 (hg8.block g (by rw [zaq];have:=zal h.blk;omega) (fun e=>(h.ne e.symm).1 rfl)).trans (zak _ h.blk)
theorem GrM.app {W W8:World} {o:Obj} {r g:Nat} {n:Int} {es:List Ent} {sv:Value} (h:GrM (p:=p) w W r g n es sv) (hg8:(W.alloc o).grownBy W8 sv.ownBlock) {x:Ent} {v':Value} (hO:W8.ownsRow w.heap.size 45 3 v' (es.length+1) (zcM es++entC x)) :
  GrM (p:=p) w (W8.setCell ⟨g,1,none⟩ v') r g n (es++[x]) v':=by
 have hG:=h.atG hg8
 refine ⟨by rw [heap_setCell_same _ g 1 _ _ _ hG];rfl,?_,?_,((h.kps.alloc o).grown hg8 (fun k hk=>.inr (h.own.lt k hk).1)).setCell (.inr h.gne.1) _,h.gne⟩
 ·rw [heap_setCell_other _ _ _ _ h.gne.2.1]
  exact (hg8.block r (by rw [zaq];have:=zal h.res;omega) (fun e=>(h.ne e.symm).2 rfl)).trans (zak _ h.res)
 ·have h2:zcM (es++[x])=zcM es++entC x:=by rw [entsC_append];simp [zcM]
  rw [h2,List.length_append]
  refine za0 hO fun b hb=>?_
  obtain ⟨cs,hc⟩:=zaC hO hb
  exact heap_setCell_other _ _ _ _ (zaW hc hG (by decide))
theorem isE_own {W:World} {B:Nat} {es:List Ent} {sv:Value} (h:W.ownsRow B 45 3 sv es.length (zcM es)):IsE W (fun b=>B<=b) es sv:=by
 obtain ⟨a,cap,e,-,-⟩:=zaG h
 subst e
 exact ⟨a,cap,rfl,(Row.of_own h).2,fun h0 x hx=>(h.lt x.block (by rw [hx];rfl)).1⟩
theorem GrM.fin {W:World} {r g:Nat} {n:Int} {es:List Ent} {sv:Value} (h:GrM (p:=p) w W r g n es sv) (y0 y1:Value):IsE ((W.setCell ⟨r,0,none⟩ y0).setCell ⟨r,1,none⟩ y1) (fun b=>w.heap.size<=b) es sv :=
 isE_own (za0 h.own fun b hb=>by rw [heap_setCell_other _ _ _ _ (show b≠r from (h.ne hb).2),heap_setCell_other _ _ _ _ (show b≠r from (h.ne hb).2)])
def GrpEnd (w0 w:World) (p:Nat) (a:Option Addr) (cap:Nat) (bs:List UInt8) (yq:Bool) (V:Grp×Int×Int) (e:Ending) (w':World):Prop :=
 ∃v,e=.returned (.tuple #[.agg #[.int .i64 V.1.first,v],.int .i64 V.2.2])/\IsE w' (fun b=>w.heap.size<=b) V.1.es v/\(∃at2:Int,IsRd w0 w' p a cap bs yq at2/\(V.2.2=0->at2=V.2.1))/\zaf (fun b=>b=p) w w'
theorem grp_no {V:Grp×Int×Int} {W:World} {r:Nat} {e:Int} (hV:V=(⟨0,[]⟩,0,e)) (he:e≠0) (hI:∃at2:Int,IsRd w0 W p a cap bs yq at2) (hk:zaf (fun b=>b=p) w W) (hpr:p≠r) (h0:w0.heap.size<=r) (hr:w.heap.size<=r) (y0 y1:Value) :
  GrpEnd w0 w p a cap bs yq V (.returned (.tuple #[.agg #[.int .i64 0,.slice none 0 0],.int .i64 e])) ((W.setCell ⟨r,0,none⟩ y0).setCell ⟨r,1,none⟩ y1):=by
 subst hV
 obtain ⟨at2,hI⟩:=hI
 exact ⟨_,rfl,IsE.nil _ _,⟨at2,hI.set2r hpr h0 _ _,fun h=>absurd h he⟩,zfc hk hr _ _⟩
theorem xgroup_any {k:Int} (h:IsRd w0 w p a cap bs yq k) (h0:0<=k) (h1:k<=bs.length) (x:Tk) (f t:Int):Calls Tryz.prog 62 #[.pointer (some ⟨p,0,none⟩),.agg (tokN x f t)] w (GrpEnd w0 w p a cap bs yq (grp1 bs yq x k)):=by
 have HWX:=yb (fun W=>zeB x f t W)
 have hto:=za8 (bs:=bs) (k:=k) yq h0 h1
 rw [<-nxt_3] at hto
 have hsm:=h.small
 have HN:=yb (fun (W:World) (hI:IsRd w0 W p a cap bs yq k)=>zer hI)
 obtain ⟨V,hV⟩:∃V,V=grp1 bs yq x k:=⟨_,rfl⟩
 rw [<-hV]
 unfold grp1 at hV
 generalize nxtV bs yq k=U at *
 obtain ⟨y,f2,t2,E⟩:=U
 simp only at hV hto HN
 have HWY:=yb (fun W=>zeB y f2 t2 W)
 have HV:=yb hV
 have HR:=yb h
 clear hV h
 unfold tokN at HWX HWY HN |-
 generalize za2 x=wx at *
 generalize za2 y=wy at *
 generalize x.kind=a0 at *
 generalize x.vk=a1 at *
 generalize x.vn=a2 at *
 generalize mkB x.vs=s1 at *
 generalize mkB x.s=s2 at *
 generalize y.kind=b0 at *
 generalize y.vk=b1 at *
 generalize y.vn=b2 at *
 generalize mkB y.vs=q1 at *
 generalize mkB y.s=q2 at *
 obtain ⟨B,hB⟩:∃B,B=w.heap.size:=⟨_,rfl⟩
 have HB1:=yb (zaF w (.cells #[.int .i64 a0,.int .i64 f,.int .i64 t,.int .i64 a1,.int .i64 a2,.string s1,.slice none 0 0,.string s2] 112) (.cells #[.int .i64 0,.slice none 0 0] 58))
 have HX1:=yb (zak (w:=w.alloc (.cells #[.int .i64 a0,.int .i64 f,.int .i64 t,.int .i64 a1,.int .i64 a2,.string s1,.slice none 0 0,.string s2] 112)) (.cells #[.int .i64 0,.slice none 0 0] 58) (zab (w:=w) (b:=B) (.cells #[.int .i64 a0,.int .i64 f,.int .i64 t,.int .i64 a1,.int .i64 a2,.string s1,.slice none 0 0,.string s2] 112) hB))
 have HZ1:=yb (zab (w:=w.alloc (.cells #[.int .i64 a0,.int .i64 f,.int .i64 t,.int .i64 a1,.int .i64 a2,.string s1,.slice none 0 0,.string s2] 112)) (b:=B+1) (.cells #[.int .i64 0,.slice none 0 0] 58) (by rw [zaq,hB]))
 have HI1:=yb (HR.out.mono HB1.out)
 have HPR:=yb (show p≠B+1 by have:=HR.out.lt;omega)
 have HPB:=yb (show p≠B by have:=HR.out.lt;omega)
 have HRW:=yb (show w.heap.size<=B+1 by omega)
 have HR0:=yb (Nat.le_trans HR.out.bel.size HRW.out)
 have HK1:=yb (zat (S:=fun b=>b=p) HB1.out)
 go_enter Tryz.func62,Tryz.ntmps62
 go_upto_region 1 with fail
 try rw [<-hB]
 generalize World.alloc _ _=W1 at *
 clear hB
 generalize B+1=r at *
 obtain ⟨⟨x0,x1,x2,x3,x4,x5,x6,x7⟩,-⟩:=zao HX1.out
 obtain ⟨⟨z0,z1⟩,y0,y1⟩:=za5 HZ1.out
 go_wp2_with fail
 refine (HWX.out _).mono ?_
 rintro e w2 ⟨rfl,hb2⟩
 have HX2:=yb (zaa hb2 HX1.out)
 have HZ2:=yb (zaa hb2 HZ1.out)
 have HI2:=yb (HI1.out.mono hb2)
 have HK2:=yb (zaf.trans HK1.out (zat (S:=fun _=>False) hb2) (fun x h=>(by cases h)))
 clear HX1 HZ1 HI1 HK1 HB1 HWX hb2 x0 x1 x2 x3 x4 x5 x6 x7 z0 z1 y0 y1
 obtain ⟨⟨x0,x1,x2,x3,x4,x5,x6,x7⟩,-⟩:=zao HX2.out
 obtain ⟨⟨z0,z1⟩,y0,y1⟩:=za5 HZ2.out
 cases wx
 case false =>
  have HV2:=yb (HV.out.trans (yg rfl))
  go_wp2
  refine yi (zac rfl _ _ r 58 _ (0,0) _ rfl (by exact set2a HZ2.out _ _) Tryz.underlying58 rfl (by exact zdB) _ rfl) rfl ?_
  exact grp_no HV2.out (by decide) ⟨_,HI2.out⟩ HK2.out HPR.out HR0.out HRW.out _ _
 have HV2:=yb (HV.out.trans (yh (by decide)))
 clear HV
 go_wp2_with fail
 refine (HN.out _ HI2.out).mono ?_
 rintro e w3 ⟨rfl,hi3,hk3⟩
 have HT3:=yb (zab (w:=w3) (b:=w3.heap.size) (.cells #[.int .i64 b0,.int .i64 f2,.int .i64 t2,.int .i64 b1,.int .i64 b2,.string q1,.slice none 0 0,.string q2] 112) rfl)
 have HX3:=yb (zak (.cells #[.int .i64 b0,.int .i64 f2,.int .i64 t2,.int .i64 b1,.int .i64 b2,.string q1,.slice none 0 0,.string q2] 112) (hk3.obj HX2.out (Ne.symm HPB.out)))
 have HZ3:=yb (zak (.cells #[.int .i64 b0,.int .i64 f2,.int .i64 t2,.int .i64 b1,.int .i64 b2,.string q1,.slice none 0 0,.string q2] 112) (hk3.obj HZ2.out (Ne.symm HPR.out)))
 have HI3:=yb (hi3.mono (zae w3 (.cells #[.int .i64 b0,.int .i64 f2,.int .i64 t2,.int .i64 b1,.int .i64 b2,.string q1,.slice none 0 0,.string q2] 112)))
 have HK3:=yb ((zaf.trans HK2.out hk3 (fun x h=>.inl h)).alloc (.cells #[.int .i64 b0,.int .i64 f2,.int .i64 t2,.int .i64 b1,.int .i64 b2,.string q1,.slice none 0 0,.string q2] 112))
 have HTW:=yb (Nat.le_trans HK2.out.size hk3.size)
 have HTP:=yb (show p≠w3.heap.size by have:=hi3.lt;omega)
 have HTX:=yb (show r<w3.heap.size/\B<w3.heap.size from ⟨zal (hk3.obj HZ2.out (Ne.symm HPR.out)),zal (hk3.obj HX2.out (Ne.symm HPB.out))⟩)
 clear HX2 HZ2 HI2 HK2 hi3 hk3 HN x0 x1 x2 x3 x4 x5 x6 x7 z0 z1 y0 y1
 go_upto_region 4 with fail
 obtain ⟨T,hT⟩:∃T,T=w3.heap.size:=⟨_,rfl⟩
 rw [<-hT] at HT3 HTW HTP HTX |-
 clear hT
 generalize World.alloc _ _=W3 at *
 obtain ⟨⟨x0,x1,x2,x3,x4,x5,x6,x7⟩,-⟩:=zao HX3.out
 obtain ⟨⟨v0,v1,v2,v3,v4,v5,v6,v7⟩,-⟩:=zao HT3.out
 obtain ⟨⟨z0,z1⟩,y0,y1⟩:=za5 HZ3.out
 by_cases hE:E=0
 case neg =>
  have HV3:=yb (HV2.out.trans (yg hE))
  have e0:(E==0)=false:=by rw [yf];exact hE
  have e1:(E != 0)=true:=by simp only [bne,e0,yj]
  have HE:=yb hE
  clear hE
  go_wp2
  refine yi (zac rfl _ _ r 58 _ (0,0) _ rfl (by exact set2a HZ3.out _ _) Tryz.underlying58 rfl (by exact zdB) _ rfl) rfl ?_
  exact grp_no HV3.out HE.out ⟨_,HI3.out⟩ HK3.out HPR.out HR0.out HRW.out _ _
 subst hE
 have HV3:=yb (HV2.out.trans (yh (by decide)))
 clear HV2
 rw [yg rfl] at HI3
 obtain ⟨N,hN⟩:∃N,N=b2.toNat:=⟨_,rfl⟩
 have HFT:=yb (fun W=>fits_any a2 b2 W)
 obtain ⟨fv,hfv⟩:∃fv,fv=ze5 a2 b2:=⟨_,rfl⟩
 rw [<-hfv] at HFT HV3
 have HFV:=yb hfv
 clear hfv
 rw [<-hN] at HV3
 obtain ⟨Q,hQ⟩:∃Q,Q=zdR bs yq N t2.toNat []:=⟨_,rfl⟩
 rw [<-hQ] at HV3
 have HQ:=yb hQ
 have HNN:=yb hN
 clear hQ hN
 go_wp2_with fail
 refine (HWY.out _).mono ?_
 rintro e w4 ⟨rfl,hb4⟩
 have HX4:=yb (zaa hb4 HX3.out)
 have HT4:=yb (zaa hb4 HT3.out)
 have HZ4:=yb (zaa hb4 HZ3.out)
 have HI4:=yb (HI3.out.mono hb4)
 have HK4:=yb (zaf.trans HK3.out (zat (S:=fun _=>False) hb4) (fun x h=>(by cases h)))
 clear HX3 HT3 HZ3 HI3 HK3 hb4 HWY x0 x1 x2 x3 x4 x5 x6 x7 v0 v1 v2 v3 v4 v5 v6 v7 z0 z1 y0 y1
 obtain ⟨⟨x0,x1,x2,x3,x4,x5,x6,x7⟩,-⟩:=zao HX4.out
 obtain ⟨⟨v0,v1,v2,v3,v4,v5,v6,v7⟩,-⟩:=zao HT4.out
 obtain ⟨⟨z0,z1⟩,y0,y1⟩:=za5 HZ4.out
 cases wy
 case false =>
  have HV4:=yb (HV3.out.trans (yg (.inl rfl)))
  go_wp2
  refine yi (zac rfl _ _ r 58 _ (0,0) _ rfl (by exact set2a HZ4.out _ _) Tryz.underlying58 rfl (by exact zdB) _ rfl) rfl ?_
  exact grp_no HV4.out (by decide) ⟨_,HI4.out⟩ HK4.out HPR.out HR0.out HRW.out _ _
 cases fv
 case false =>
  have HV4:=yb (HV3.out.trans (yg (.inr rfl)))
  go_wp2_with (go_at_call 41;refine (HFT.out _).mono ?_;rintro e w5 ⟨rfl,rfl⟩)
  refine yi (zac rfl _ _ r 58 _ (0,0) _ rfl (by exact set2a HZ4.out _ _) Tryz.underlying58 rfl (by exact zdB) _ rfl) rfl ?_
  exact grp_no HV4.out (by decide) ⟨_,HI4.out⟩ HK4.out HPR.out HR0.out HRW.out _ _
 have HV4:=yb (HV3.out.trans (yh (by simp)))
 have hfb:0<=b2/\b2<=4097:=by
  have h:=HFV.out
  unfold ze5 at h
  simp only [eq_comm (a:=true),Bool.and_eq_true,decide_eq_true_eq] at h
  omega
 have hb2N:b2=(N:Int):=by have:=HNN.out;omega
 subst hb2N
 have hN7:N<=4097:=by omega
 clear HV3 HFV HNN hfb
 go_upto_region 9 with (go_at_call 41;refine (HFT.out _).mono ?_;rintro e w5 ⟨rfl,rfl⟩)
 have HT5:=yb (zak (.cells #[.int .i64 a2,.slice none 0 0] 58) HT4.out)
 have HG5:=yb (show GrM (p:=p) w (w4.alloc (.cells #[.int .i64 a2,.slice none 0 0] 58)) r w4.heap.size a2 [] (.slice none 0 0) from ⟨zab _ rfl,zak _ HZ4.out,World.ownsRow_nil _ _ _ _,HK4.out.alloc _,HK4.out.size,Nat.ne_of_lt (zal HZ4.out),fun e=>by have:=HI4.out.lt;omega⟩)
 have HI5:=yb (HI4.out.mono (zae w4 (.cells #[.int .i64 a2,.slice none 0 0] 58)))
 have HPW:=yb (show p<w.heap.size from HR.out.lt)
 have HWR0:=yb (Nat.le_trans HR.out.bel.size (yp _))
 generalize w4.heap.size=g at *
 generalize World.alloc _ _=W5 at *
 clear HX4 HT4 HZ4 HI4 HK4 x0 x1 x2 x3 x4 x5 x6 x7 v0 v1 v2 v3 v4 v5 v6 v7 z0 z1 y0 y1
 obtain ⟨⟨v0,v1,v2,v3,v4,v5,v6,v7⟩,-⟩:=zao HT5.out
 go_wp2_with fail
 clear v0 v1 v2 v3 v4 v5 v6 v7 HT5
 go_loopw [49] (fun v wr=>∃(c k2:Nat) (es:List Ent) (sv:Value),v=.int .i64 c/\c<=N/\k2<=bs.length/\Hid (es.length=c)/\Hid (IsRd w0 wr p a cap bs yq (k2:Int))/\Hid (GrM (p:=p) w wr r g a2 es sv)/\Hid (Q=zdR bs yq (N-c) k2 es)) (fun v _=>N-(intOf v).toNat)
 case atStart=>exact ⟨0,t2.toNat,[],.slice none 0 0,rfl,by omega,by omega,yb rfl,yb (by rw [Int.toNat_of_nonneg (by omega)];exact HI5.out),HG5,HQ⟩
 case round =>
  obtain ⟨c,k2,es,sv,rfl,hcN,hk2,HES,HI,HGM,HQR⟩:=hrel
  by_cases hlt:c<N
  ·have hcd:decide ((c:Int)<(N:Int))=true:=by simp;omega
   have hcd2:decide (c<N)=true:=by simp;omega
   have HEN:=yb (xentry_any HI.out hk2)
   obtain ⟨m,hm⟩:∃m,m+1=N-c:=⟨N-c-1,by omega⟩
   have HM:=yb hm
   have hQ1:=HQR.out
   rw [<-hm,zdR] at hQ1
   have htl:(entV bs yq k2).2.2=0->(entV bs yq k2).2.1<=bs.length:=fun h=>entV_le hk2 h
   generalize entV bs yq k2=Y at *
   obtain ⟨ee,kk,er⟩:=Y
   simp only at hQ1 htl
   have HQ1:=yb hQ1
   unfold EntEnd entA at HEN
   simp only at HEN
   have HEE:=yb (show entC ee=[.int .i64 ee.at_,.int .i64 ee.gen,.bool ee.used] from rfl)
   generalize ee.at_=ea at *
   generalize ee.gen=eg at *
   generalize ee.used=eu at *
   clear hm hQ1 HQR
   go_wp2_with fail
   refine HEN.out.mono ?_
   rintro e w6 ⟨rfl,⟨at2,hi6,hat⟩,hk6⟩
   have HE7:=yb (zab (w:=w6) (b:=w6.heap.size) (.cells #[.int .i64 ea,.int .i64 eg,.bool eu] 45) rfl)
   have HI7:=yb (hi6.mono (zae w6 (.cells #[.int .i64 ea,.int .i64 eg,.bool eu] 45)))
   have HG7:=yb ((HGM.out.on (Ne.symm HPR.out) HPW.out hk6).on (Ne.symm HPR.out) HPW.out (zat (zae w6 (.cells #[.int .i64 ea,.int .i64 eg,.bool eu] 45))))
   have HAT:=yb hat
   clear hi6 hk6 hat HEN HI HGM
   go_upto_region 12 with fail
   obtain ⟨z,hz⟩:∃z,z=w6.heap.size:=⟨_,rfl⟩
   rw [<-hz] at HE7 |-
   clear hz
   generalize w6.alloc _=W7 at *
   obtain ⟨⟨l0,l1,l2⟩,-⟩:=zbC HE7.out
   obtain ⟨⟨g0,g1⟩,gf0,gf1⟩:=za5 HG7.out.blk
   obtain ⟨⟨z0,z1⟩,y0,y1⟩:=za5 HG7.out.res
   by_cases her:er=0
   case neg =>
    have e0:(er==0)=false:=by rw [yf];exact her
    have e1:(er != 0)=true:=by simp only [bne,e0,yj]
    have HVF:=yb (HV4.out.trans (show _=((⟨0,[]⟩,0,er):Grp×Int×Int) by rw [HQ1.out,yg her];exact yg her))
    have HER:=yb her
    clear her HQ1 HAT htl
    go_wp2
    refine yi (zac rfl _ _ r 58 _ (0,0) _ rfl (by exact set2a HG7.out.res _ _) Tryz.underlying58 rfl (by exact zdB) _ rfl) rfl ?_
    exact grp_no HVF.out HER.out ⟨_,HI7.out⟩ HG7.out.kps HPR.out HR0.out HRW.out _ _
   subst her
   obtain ⟨sa,sc,rfl,-,-⟩:=zaG HG7.out.own
   have hL:es.length<=4097:=by have:=HES.out;omega
   have hone:∀u∈[Value.int .i64 ea,.int .i64 eg,.bool eu],u.oneCell'=true:=by
    intro u hu
    simp at hu
    rcases hu with rfl|rfl|rfl<;>rfl
   have HONE:=yb hone
   have HQ2:=yb (HQ1.out.trans (yh (by decide)))
   have HKK:=yb (htl rfl)
   clear hone HQ1 htl
   go_wp2_with (at_builtin;go_loud (refine zfg EEnt rfl (.tmp 61) (.tmp 63) rfl w.heap.size _ es.length _ rfl (HG7.out.own.alloc _) _ 1 _ rfl (row_newS _ #[.int .i64 ea,.int .i64 eg,.bool eu] _ 3 rfl rfl) HONE.out (by unfold maxLen;omega) (by omega) (by rw [zaq];have:=HG7.out.kps.size;omega) ?_);intro v' w8 hO8 hg8 hn8;obtain ⟨va,vc,rfl,-,-⟩:=zaG hO8;have HG8:=yb (HG7.out.app hg8 (by rw [HEE.out];exact hO8));have HI8:=yb (((HI7.out.mono (zae _ _)).grown hg8 (fun b hb=>⟨fun e=>by have:=(HG7.out.own.lt b hb).1;have:=HPW.out;omega,Nat.le_trans HR.out.bel.size (HG7.out.own.lt b hb).1⟩)).set (r:=g) (Ne.symm HG7.out.gne.2.2) (Nat.le_trans HR.out.bel.size HG7.out.gne.1) 1 (.slice va (es.length+1) vc));obtain ⟨⟨q0,q1⟩,qf0,qf1⟩:=za5 (HG7.out.atG hg8);clear hO8 hg8 hn8)
   go_roundw
   case rel=>exact ⟨c+1,kk,es++[ee],_,by go_num,by omega,HKK.out,yb (by rw [List.length_append,HES.out];rfl),by rw [<-HAT.out rfl];exact HI8,HG8,yb (by rw [HQ2.out,show N-(c+1)=m by have:=HM.out;omega])⟩
   case measure=>simp [intOf];omega
  ·have hce:c=N:=by omega
   subst hce
   have hcd:decide ((c:Int)<(c:Int))=false:=ye (by omega)
   have hcd2:decide (c<c)=false:=ye (by omega)
   have HQ2:=yb (HQR.out.trans (show zdR bs yq (c-c) k2 es=(es,k2,0) by rw [Nat.sub_self];rfl))
   have HVF:=yb (HV4.out.trans (show _=((⟨a2,es⟩,k2,0):Grp×Int×Int) by rw [HQ2.out];exact yh (fun h=>h rfl)))
   obtain ⟨⟨g0,g1⟩,gf0,gf1⟩:=za5 HGM.out.blk
   obtain ⟨⟨z0,z1⟩,y0,y1⟩:=za5 HGM.out.res
   obtain ⟨sa,sc,hsv,-,-⟩:=zaG HGM.out.own
   subst hsv
   go_wp2
   refine yi (zac rfl _ _ r 58 _ (0,0) _ rfl (by exact set2a HGM.out.res _ _) Tryz.underlying58 rfl (by exact zdB) _ rfl) rfl ?_
   rw [HVF.out]
   refine ⟨_,rfl,?_,⟨_,HI.out.set2r HPR.out HR0.out _ _,fun _=>rfl⟩,zfc HGM.out.kps HRW.out _ _⟩
   exact HGM.out.fin _ _
end
end Go.Proofs.YtcmoehknppjkiaaGreatDoor
