/-
  Our texts LexE to App2, in one.
-/
import Derived.Test.YtfafdeemfeaedaaGreatPkQ3
import Derived.Test.YtfafdeemfeaedaaGreatProg
import Derived.Deep.RegionHeld3
import Derived.BigQuiet
import Derived.Deep.QuietTactic
import Derived.Deep.LoopGhost
import Derived.Deep.CutBlock
set_option maxRecDepth 8000
set_option maxHeartbeats 8000000
namespace Go.Proofs.YtfafdeemfeaedaaGreat
open Go.RowKit
def rgV (X:Src) (k:Nat):Int×Tk×List UInt8 :=
 if runN (X.bs.drop k)=(X.bs.drop k).length/\X.yo=false then (6,{ kind:=0 },[])
 else if isDg (X.bs.getD k 0)=true\/X.bs.getD k 0=43\/X.bs.getD k 0=45\/X.bs.getD k 0=46 then ((za4 (regs (X.bs.drop k))).2.2,{ kind:=1,vk:=(za4 (regs (X.bs.drop k))).1,vn:=(za4 (regs (X.bs.drop k))).2.1 },(X.bs.drop k).drop (runN (X.bs.drop k)))
 else (0,{ kind:=6,s:=regs (X.bs.drop k) },(X.bs.drop k).drop (runN (X.bs.drop k)))
def firstB (x:Nat):Bool:=(((decide (48<=x)&&decide (x<=57))||decide (x=43))||decide (x=45))||decide (x=46)
theorem firstB_eq (c:UInt8):firstB c.toNat=decide (isDg c=true\/c=43\/c=45\/c=46):=by
 have h1:∀d:UInt8,(c=d)↔c.toNat=d.toNat:=fun d=>UInt8.toNat_inj.symm
 unfold firstB isDg
 simp only [h1,show (43:UInt8).toNat=43 from rfl,show (45:UInt8).toNat=45 from rfl,show (46:UInt8).toNat=46 from rfl]
 rw [Bool.eq_iff_iff]
 simp [or_assoc]
theorem regulars_any {w:World} {S:Nat->Prop} {p:Nat} {X:Src} {k:Nat} (h:ScQ w S p X [] k) (hk:k<X.bs.length) (hrg:isRg (X.bs.getD k 0)=true) :
  Calls Tryz.prog 178 #[.pointer (some ⟨p,0,none⟩)] w (zbS w S p X (rgV X k)):=by
 obtain ⟨V,hV⟩:∃V,V=rgV X k:=⟨_,rfl⟩
 rw [<-hV]
 have hT:=Tm.start h
 obtain ⟨r,hr⟩:∃r,r=w.heap.size:=⟨_,rfl⟩
 rw [<-hr] at hT
 have HT0:=ya hT
 have HR:=ya hr
 have HW:=ya (word_any hT.sc (by omega))
 have hsm:=h.facts.2.2.2.1
 have hdl:(X.bs.drop k).length=X.bs.length-k:=by simp
 have hm:=zge (X.bs.drop k)
 have hm1:1<=runN (X.bs.drop k):=by rw [zaS hk,zgD _ hrg];omega
 have hlen:(regs (X.bs.drop k)).length=runN (X.bs.drop k):=rfl
 have hhd:(regs (X.bs.drop k)).head?=some (X.bs.getD k 0):=by
  rw [zaS hk];unfold regs;rw [List.takeWhile_cons_of_pos hrg];rfl
 have hpos:X.bs.length-((X.bs.drop k).drop (runN (X.bs.drop k))).length=k+runN (X.bs.drop k):=by
  rw [yj,hdl];omega
 have hle:((X.bs.drop k).drop (runN (X.bs.drop k))).length<=X.bs.length:=by rw [yj,hdl];omega
 have hBB:(decide (k+runN (X.bs.drop k)<X.bs.length)||X.yo)=!decide (runN (X.bs.drop k)=(X.bs.drop k).length/\X.yo=false):=by
  rw [hdl]
  cases X.yo
  ·simp only [Bool.or_false,and_true]
   rw [Bool.eq_iff_iff];simp;omega
  ·simp
 have hfb:=firstB_eq (X.bs.getD k 0)
 unfold rgV at hV
 unfold zgd at HW
 rw [hBB] at HW
 rw [hdl] at hm
 clear hT hr h hBB hdl hrg
 generalize (X.bs.drop k).drop (runN (X.bs.drop k))=t at *
 generalize regs (X.bs.drop k)=R at *
 generalize runN (X.bs.drop k)=m at *
 generalize X.bs.getD k 0=c at *
 by_cases hb:m=(X.bs.drop k).length/\X.yo=false
 ·rw [yf hb] at hV
  rw [yb hb] at HW
  have HV:=ya hV
  clear hV hb hhd hfb hpos hle hlen
  go_enter Tryz.func178,Tryz.ntmps178
  go_wp2_with fail
  rw [<-HR.out]
  generalize w.alloc _=W1 at *
  refine HW.out.mono ?_
  rintro e w2 ⟨rfl,S2,hq2,hk2,-⟩
  have HT2:=ya (Tn.of HT0.out hk2)
  obtain ⟨⟨k0,k1,k2,k3,k4,k5,k6,k7⟩,f0,f1,f2,f3,f4,f5,f6,f7⟩:=zao HT2.out.blk
  clear hq2 hk2
  go_wp2
  refine yh (zab rfl _ _ _ 150 _ (0,0) _ rfl (set8 HT2.out.blk _ _ _ _ _ _ _ _) Tryz.underlying150 rfl zat _ rfl) rfl ?_
  exact HT2.out.err (by rw [HV.out]) (by decide) _ _ _ _ _ _ _ _ _ _ _ _ _
 ·rw [yg hb] at hV
  rw [yd hb] at HW
  obtain ⟨s,hs⟩:∃s,mkB R=s:=⟨_,rfl⟩
  have hsR:bl s=R:=by rw [<-hs];rfl
  have hsz:s.size=m:=by rw [<-zaM,hsR,hlen]
  have hs1:0<s.size:=by omega
  have hs2:s.size<=400000:=by omega
  have hx:(s[0]'hs1).toNat=c.toNat:=by
   rw [<-hsR] at hhd
   have h2:(bl s)[0]?=some c:=by rw [<-List.head?_eq_getElem?];exact hhd
   have h3:s[0]=c:=by
    rw [List.getElem?_eq_getElem (by rw [zaM];omega),bl_get s 0 (by omega)] at h2
    exact Option.some.inj h2
   rw [h3]
  have hcx:c.toNat<256:=c.toNat_lt
  obtain ⟨x,hxx⟩:∃x,c.toNat=x:=⟨_,rfl⟩
  rw [hxx] at hx hcx hfb
  have HPOS:=ya hpos
  have HLE:=ya hle
  have HS:=ya hs
  have HSR:=ya hsR
  have hh:(48<=x/\x<=57)\/x=43\/x=45\/x=46\/(x<48/\x≠43/\x≠45/\x≠46)\/57<x:=by omega
  clear hlen hhd hb hpos hle hsR hsz hxx hm hm1
  rw [yi,hs] at HW
  clear hs
  have HV0:=ya hV
  have HFB:=ya hfb
  clear hV hfb
  rcases hh with ⟨h1,h2⟩|rfl|rfl|rfl|⟨h1,h2,h3,h4⟩|h1
  case inr.inr.inr.inr.inl =>
   have HV:=ya (show V=(0,{ kind:=6,s:=R },t) by
    rw [HV0.out,yg (of_decide_eq_false (HFB.out.symm.trans (by unfold firstB;simp;omega)))])
   have e1:decide ((48:Int)<=x)=false:=by simp;omega
   have e2:((x:Int)==43)=false:=by rw [ye];omega
   have e3:((x:Int)==45)=false:=by rw [ye];omega
   have e4:((x:Int)==46)=false:=by rw [ye];omega
   clear h1
   go_enter Tryz.func178,Tryz.ntmps178
   go_wp2_with fail
   rw [<-HR.out]
   generalize w.alloc _=W1 at *
   refine HW.out.mono ?_
   rintro e w2 ⟨rfl,S2,hq2,hk2,-⟩
   have HT2:=ya (Tn.of HT0.out hk2)
   have HC:=ya (hq2.facts.2.2.2.2.1)
   rw [<-HPOS.out] at HC
   obtain ⟨⟨k0,k1,k2,k3,k4,k5,k6,k7⟩,f0,f1,f2,f3,f4,f5,f6,f7⟩:=zao HT2.out.blk
   clear hq2 hk2 h2 h3 h4 hk hcx hsm
   go_wp2
   refine yh (zab rfl _ _ _ 150 _ (0,0) _ rfl (set8 HT2.out.blk _ _ _ _ _ _ _ _) Tryz.underlying150 rfl zat _ rfl) rfl ?_
   have hss:=HS.out
   subst hss
   exact HT2.out.ok (x:={ kind:=6,s:=R }) HV.out HLE.out HC.out _ _ _ _ _ _ _ _
  case inr.inr.inr.inr.inr =>
   have HV:=ya (show V=(0,{ kind:=6,s:=R },t) by
    rw [HV0.out,yg (of_decide_eq_false (HFB.out.symm.trans (by unfold firstB;simp;omega)))])
   have e1:decide ((48:Int)<=x)=true:=by simp;omega
   have e0:decide ((x:Int)<=57)=false:=by simp;omega
   have e2:((x:Int)==43)=false:=by rw [ye];omega
   have e3:((x:Int)==45)=false:=by rw [ye];omega
   have e4:((x:Int)==46)=false:=by rw [ye];omega
   clear h1
   go_enter Tryz.func178,Tryz.ntmps178
   go_wp2_with fail
   rw [<-HR.out]
   generalize w.alloc _=W1 at *
   refine HW.out.mono ?_
   rintro e w2 ⟨rfl,S2,hq2,hk2,-⟩
   have HT2:=ya (Tn.of HT0.out hk2)
   have HC:=ya (hq2.facts.2.2.2.2.1)
   rw [<-HPOS.out] at HC
   obtain ⟨⟨k0,k1,k2,k3,k4,k5,k6,k7⟩,f0,f1,f2,f3,f4,f5,f6,f7⟩:=zao HT2.out.blk
   clear hq2 hk2 hk hcx hsm
   go_wp2
   refine yh (zab rfl _ _ _ 150 _ (0,0) _ rfl (set8 HT2.out.blk _ _ _ _ _ _ _ _) Tryz.underlying150 rfl zat _ rfl) rfl ?_
   have hss:=HS.out
   subst hss
   exact HT2.out.ok (x:={ kind:=6,s:=R }) HV.out HLE.out HC.out _ _ _ _ _ _ _ _
  all_goals
   have HV:=ya (show V=((za4 (bl s)).2.2,{ kind:=1,vk:=(za4 (bl s)).1,vn:=(za4 (bl s)).2.1 },t) by
    rw [HSR.out,HV0.out,yf (of_decide_eq_true (HFB.out.symm.trans (by unfold firstB;simp;try omega)))])
   try have e1:decide ((48:Int)<=x)=true:=by simp;omega
   try have e0:decide ((x:Int)<=57)=true:=by simp;omega
   try clear h1 h2
   go_enter Tryz.func178,Tryz.ntmps178
   go_wp2_with fail
   rw [<-HR.out]
   generalize w.alloc _=W1 at *
   refine HW.out.mono ?_
   rintro e w2 ⟨rfl,S2,hq2,hk2,-⟩
   have HT2:=ya (Tn.of HT0.out hk2)
   have HC:=ya (hq2.facts.2.2.2.2.1)
   rw [<-HPOS.out] at HC
   clear hq2 hk2 hk hcx hsm HT0 HW
   go_wp2_with fail
   refine (parse_any s w2 hs2).mono ?_
   rintro e w3 ⟨rfl,hb3⟩
   generalize za4 (bl s)=P at *
   have HT3:=ya ((HT2.out.on hb3).alloc (.cells (valC P.1 P.2.1 zbv) 27))
   have HC3:=ya (zaR (.cells (valC P.1 P.2.1 zbv) 27) (cell?_keep hb3 HC.out))
   obtain ⟨⟨k0,k1,k2,k3,k4,k5,k6,k7⟩,f0,f1,f2,f3,f4,f5,f6,f7⟩:=zao HT3.out.blk
   obtain ⟨P1,P2,P3⟩:=P
   simp only [] at *
   unfold valC zbv at *
   clear hb3 HT2 HC
   go_wp2
   refine yh (zab rfl _ _ _ 150 _ (0,0) _ rfl (set8 HT3.out.blk _ _ _ _ _ _ _ _) Tryz.underlying150 rfl zat _ rfl) rfl ?_
   exact HT3.out.any (x:={ kind:=1,vk:=P1,vn:=P2 }) HV.out HLE.out HC3.out _ _ _ _ _ _ _ _
theorem zd3 (t:List UInt8):t.drop (runN t)=[]↔runN t=t.length:=by
 rw [List.drop_eq_nil_iff]
 have:=zge t
 omega
theorem tokV_reg {X:Src} {k:Nat} (hk:k<X.bs.length) (h:isRg (X.bs.getD k 0)=true):tokV X.yo (X.bs.getD k 0) (X.bs.drop (k+1))=rgV X k:=by
 unfold tokV rgV
 rw [yf h,<-zaS hk]
 simp only [regs_drop,zd3]
 rfl
def slV (yo:Bool) (t:List UInt8):Int×Tk×List UInt8 :=
 if runN t=t.length/\yo=false then (6,{ kind:=0 },[])
 else match zgM (regs t) with
  | none=>(17,{ kind:=0 },[])
  | some o=>(0,{ kind:=1,vk:=5,vs:=o },t.drop (runN t))
theorem tokV_slash (yo:Bool) (t:List UInt8):tokV yo 47 t=slV yo t:=by
 unfold tokV slV
 rw [yg (by decide),yg (by decide),yg (by decide),yg (by decide),yg (by decide),yg (by decide),yf rfl]
 simp only [regs_drop,zd3]
 rfl
def txK (yo:Bool) (H:Option (List UInt8×List UInt8)):Int×Tk×List UInt8:=match H with
 | none=>(zbt yo,{ kind:=0 },[])
 | some (x,r)=>(0,{ kind:=1,vk:=4,vs:=x },r)
theorem tokV_text (yo:Bool) (t:List UInt8):tokV yo 40 t=txK yo (za2 yo 1 [] t):=by
 unfold tokV txK
 rw [yg (by decide),yg (by decide),yg (by decide),yg (by decide),yg (by decide),yf rfl]
 cases za2 yo 1 [] t<;>rfl
theorem tokV_close (X:Src) (k:Nat):tokV X.yo 62 (X.bs.drop k)=clV X k:=by
 unfold tokV clV
 rw [yg (by decide),yg (by decide),yg (by decide),yg (by decide),yf rfl]
 cases X.bs.drop k<;>rfl
theorem tokV_open (X:Src) (k:Nat):tokV X.yo 60 (X.bs.drop k)=opV X k:=by
 unfold tokV opV
 rw [yg (by decide),yg (by decide),yg (by decide),yf rfl]
 cases X.bs.drop k with
 | nil=>rfl
 | cons d u=>rfl
theorem tokV_91 (yo:Bool) (t:List UInt8):tokV yo 91 t=(0,{ kind:=2 },t):=by
 unfold tokV;rw [yg (by decide),yf rfl]
theorem tokV_93 (yo:Bool) (t:List UInt8):tokV yo 93 t=(0,{ kind:=3 },t):=by
 unfold tokV;rw [yg (by decide),yg (by decide),yf rfl]
theorem tokV_no (yo:Bool) (c:UInt8) (t:List UInt8) (h:isRg c=false) (h1:c≠91) (h2:c≠93) (h3:c≠60) (h4:c≠62) (h5:c≠40) (h6:c≠47):tokV yo c t=(11,{ kind:=0 },[]):=by
 unfold tokV;rw [yg (by simp [h]),yg h1,yg h2,yg h3,yg h4,yg h5,yg h6]
theorem Tn.pass {w W:World} {S:Nat->Prop} {p r:Nat} {X:Src} {V:Int×Tk×List UInt8} (h:Tn w S p r W) {k vk vn:Int} {vs s:ByteArray} {er:Int} (he:V.1=er)
  (hf:V.1=0->k=V.2.1.kind/\vk=V.2.1.vk/\vn=V.2.1.vn/\vs=mkB V.2.1.vs/\s=mkB V.2.1.s/\V.2.2.length<=X.bs.length/\W.cell? ⟨p,3,none⟩=some (.int .i64 ((X.bs.length-V.2.2.length:Nat):Int))) (y0 y1 y2 y3 y4 y5 y6 y7:Value) :
  zbS w S p X V (.returned (.tuple #[.agg (tokC k 0 0 vk vn vs s),.int .i64 er]))
   ((((((((W.setCell ⟨r,0,none⟩ y0).setCell ⟨r,1,none⟩ y1).setCell ⟨r,2,none⟩ y2).setCell ⟨r,3,none⟩ y3).setCell ⟨r,4,none⟩ y4).setCell ⟨r,5,none⟩ y5).setCell ⟨r,6,none⟩ y6).setCell ⟨r,7,none⟩ y7):=by
 refine ⟨za0 h.keeps h.wr _ _ _ _ _ _ _ _,k,vk,vn,vs,s,by rw [he],fun h0=>?_⟩
 obtain ⟨a,b,c,d,e,f,g⟩:=hf h0
 exact ⟨a,b,c,d,e,f,by rw [zb6 h.pr];exact g⟩
theorem token_any {w:World} {S:Nat->Prop} {p:Nat} {X:Src} {k:Nat} (h:ScQ w S p X [] k) (hk:k<X.bs.length) :
  Calls Tryz.prog 154 #[.pointer (some ⟨p,0,none⟩),.int .u8 (X.bs.getD k 0).toNat] w (zbS w S p X (tokV X.yo (X.bs.getD k 0) (X.bs.drop (k+1)))):=by
 obtain ⟨V,hV⟩:∃V,V=tokV X.yo (X.bs.getD k 0) (X.bs.drop (k+1)):=⟨_,rfl⟩
 rw [<-hV]
 have hT:=Tm.start h
 obtain ⟨r,hr⟩:∃r,r=w.heap.size:=⟨_,rfl⟩
 rw [<-hr] at hT
 have HT0:=ya hT
 have HR:=ya hr
 have hsm:=h.facts.2.2.2.1
 have hkb:k<=399999:=by omega
 have HRG:=ya (fun W=>zeT (X.bs.getD k 0) W)
 rw [<-rgI_eq] at HRG
 clear hT hr h hsm
 by_cases hrg:isRg (X.bs.getD k 0)=true
 ·have HV:=ya (hV.trans (tokV_reg hk hrg))
  have HK:=ya (show ∀W:World,Tm w S p r X k W->Calls Tryz.prog 178 #[.pointer (some ⟨p,0,none⟩)] W (zbS W S p X (rgV X k)) from fun _ h=>regulars_any h.sc hk hrg)
  rw [hrg] at HRG
  clear hV hrg hk
  generalize (X.bs.getD k 0).toNat=x at *
  go_enter Tryz.func154,Tryz.ntmps154
  go_wp2_with (go_at_call 177;refine (HRG.out _).mono ?_;rintro e w' ⟨rfl,rfl⟩)
  rw [<-HR.out]
  generalize w.alloc _=W1 at *
  refine (HK.out _ HT0.out).mono ?_
  rintro e w2 ⟨hk2,a,b,c,s1,s2,rfl,hf⟩
  have HT2:=ya (Tn.of HT0.out hk2)
  obtain ⟨⟨k0,k1,k2,k3,k4,k5,k6,k7⟩,f0,f1,f2,f3,f4,f5,f6,f7⟩:=zao HT2.out.blk
  have HF:=ya hf
  rw [HV.out]
  obtain ⟨er,her⟩:∃er,(rgV X k).1=er:=⟨_,rfl⟩
  rw [her]
  have HE:=ya her
  unfold tokC
  clear hk2 hf her
  go_wp2
  refine yh (zab rfl _ _ _ 150 _ (0,0) _ rfl (set8 HT2.out.blk _ _ _ _ _ _ _ _) Tryz.underlying150 rfl zat _ rfl) rfl ?_
  rw [HV.out]
  exact HT2.out.pass HE.out HF.out _ _ _ _ _ _ _ _
 ·have hrg':isRg (X.bs.getD k 0)=false:=by simpa using hrg
  rw [hrg'] at HRG
  have HRF:=ya hrg'
  have HK:=ya hk
  clear hrg hrg'
  by_cases h91:X.bs.getD k 0=91
  ·have hv:=hV
   rw [h91,tokV_91 _ _] at hv
   have HV:=ya hv
   have hx:(X.bs.getD k 0).toNat=91:=by rw [h91];rfl
   rw [hx] at HRG |-
   clear hV hv hx h91 hk
   go_enter Tryz.func154,Tryz.ntmps154
   go_wp2_with fail
   rw [<-HR.out]
   generalize w.alloc _=W1 at *
   refine (HRG.out _).mono ?_
   rintro e w' ⟨rfl,rfl⟩
   have HT2:=ya (HT0.out.next HK.out)
   obtain ⟨-,-,-,-,c3,c4,fr⟩:=HT0.out.sc.facts
   have f3:=fr 3
   clear fr
   obtain ⟨⟨k0,k1,k2,k3,k4,k5,k6,k7⟩,f0,f1,f2,f3',f4,f5,f6,f7⟩:=zao HT2.out.blk
   go_wp2
   refine yh (zab rfl _ _ _ 150 _ (0,0) _ rfl (set8 HT2.out.blk _ _ _ _ _ _ _ _) Tryz.underlying150 rfl zat _ rfl) rfl ?_
   exact HT2.out.ok (x:={ kind:=2 }) HV.out _ _ _ _ _ _ _ _
  by_cases h93:X.bs.getD k 0=93
  ·have hv:=hV
   rw [h93,tokV_93 _ _] at hv
   have HV:=ya hv
   have hx:(X.bs.getD k 0).toNat=93:=by rw [h93];rfl
   rw [hx] at HRG |-
   clear hV hv hx h93 hk
   go_enter Tryz.func154,Tryz.ntmps154
   go_wp2_with fail
   rw [<-HR.out]
   generalize w.alloc _=W1 at *
   refine (HRG.out _).mono ?_
   rintro e w' ⟨rfl,rfl⟩
   have HT2:=ya (HT0.out.next HK.out)
   obtain ⟨-,-,-,-,c3,c4,fr⟩:=HT0.out.sc.facts
   have f3:=fr 3
   clear fr
   obtain ⟨⟨k0,k1,k2,k3,k4,k5,k6,k7⟩,f0,f1,f2,f3',f4,f5,f6,f7⟩:=zao HT2.out.blk
   go_wp2
   refine yh (zab rfl _ _ _ 150 _ (0,0) _ rfl (set8 HT2.out.blk _ _ _ _ _ _ _ _) Tryz.underlying150 rfl zat _ rfl) rfl ?_
   exact HT2.out.ok (x:={ kind:=3 }) HV.out _ _ _ _ _ _ _ _
  by_cases h60:X.bs.getD k 0=60
  ·have hv:=hV
   rw [h60,tokV_open X (k+1)] at hv
   have HV:=ya hv
   have hx:(X.bs.getD k 0).toNat=60:=by rw [h60];rfl
   rw [hx] at HRG |-
   clear hV hv hx h60 hk
   go_enter Tryz.func154,Tryz.ntmps154
   go_wp2_with fail
   rw [<-HR.out]
   generalize w.alloc _=W1 at *
   refine (HRG.out _).mono ?_
   rintro e w' ⟨rfl,rfl⟩
   have HT2:=ya (HT0.out.next HK.out)
   obtain ⟨-,-,-,-,c3,c4,fr⟩:=HT0.out.sc.facts
   have f3:=fr 3
   clear fr
   go_wp2_with fail
   refine (opening_any HT2.out.sc (by omega)).mono ?_
   rintro e w2 ⟨hk2,a,b,c,s1,s2,rfl,hf⟩
   have HT3:=ya (Tn.of HT2.out hk2)
   obtain ⟨⟨k0,k1,k2,k3,k4,k5,k6,k7⟩,f0,f1,f2,f3,f4,f5,f6,f7⟩:=zao HT3.out.blk
   have HF:=ya hf
   obtain ⟨er,her⟩:∃er,(opV X (k+1)).1=er:=⟨_,rfl⟩
   rw [her]
   have HE:=ya her
   unfold tokC
   clear hk2 hf her c3 c4
   go_wp2
   refine yh (zab rfl _ _ _ 150 _ (0,0) _ rfl (set8 HT3.out.blk _ _ _ _ _ _ _ _) Tryz.underlying150 rfl zat _ rfl) rfl ?_
   rw [HV.out]
   exact HT3.out.pass HE.out HF.out _ _ _ _ _ _ _ _
  by_cases h62:X.bs.getD k 0=62
  ·have hv:=hV
   rw [h62,tokV_close X (k+1)] at hv
   have HV:=ya hv
   have hx:(X.bs.getD k 0).toNat=62:=by rw [h62];rfl
   rw [hx] at HRG |-
   clear hV hv hx h62 hk
   go_enter Tryz.func154,Tryz.ntmps154
   go_wp2_with fail
   rw [<-HR.out]
   generalize w.alloc _=W1 at *
   refine (HRG.out _).mono ?_
   rintro e w' ⟨rfl,rfl⟩
   have HT2:=ya (HT0.out.next HK.out)
   obtain ⟨-,-,-,-,c3,c4,fr⟩:=HT0.out.sc.facts
   have f3:=fr 3
   clear fr
   go_wp2_with fail
   refine (closing_any HT2.out.sc).mono ?_
   rintro e w2 ⟨hk2,a,b,c,s1,s2,rfl,hf⟩
   have HT3:=ya (Tn.of HT2.out hk2)
   obtain ⟨⟨k0,k1,k2,k3,k4,k5,k6,k7⟩,f0,f1,f2,f3,f4,f5,f6,f7⟩:=zao HT3.out.blk
   have HF:=ya hf
   obtain ⟨er,her⟩:∃er,(clV X (k+1)).1=er:=⟨_,rfl⟩
   rw [her]
   have HE:=ya her
   unfold tokC
   clear hk2 hf her c3 c4
   go_wp2
   refine yh (zab rfl _ _ _ 150 _ (0,0) _ rfl (set8 HT3.out.blk _ _ _ _ _ _ _ _) Tryz.underlying150 rfl zat _ rfl) rfl ?_
   rw [HV.out]
   exact HT3.out.pass HE.out HF.out _ _ _ _ _ _ _ _
  by_cases h40:X.bs.getD k 0=40
  ·have hv:=hV
   rw [h40,tokV_text _ _] at hv
   have HV:=ya hv
   have hx:(X.bs.getD k 0).toNat=40:=by rw [h40];rfl
   rw [hx] at HRG |-
   clear hV hv hx h40 hk
   go_enter Tryz.func154,Tryz.ntmps154
   go_wp2_with fail
   rw [<-HR.out]
   generalize w.alloc _=W1 at *
   refine (HRG.out _).mono ?_
   rintro e w' ⟨rfl,rfl⟩
   have HT2:=ya (HT0.out.next HK.out)
   obtain ⟨-,-,-,-,c3,c4,fr⟩:=HT0.out.sc.facts
   have f3:=fr 3
   clear fr
   have HTX:=ya (text_any HT2.out.sc (by omega))
   generalize za2 X.yo 1 [] (X.bs.drop (k+1))=H at *
   go_wp2_with fail
   refine HTX.out.mono ?_
   rintro e w2 ⟨hk2,hh⟩
   have HT3:=ya (Tn.of HT2.out hk2)
   clear hk2 c3 c4 f3 HTX
   cases H
   ·obtain rfl:=hh
    have HN:=ya (zet X.yo)
    have HL:=ya (show V.1=zbt X.yo by rw [HV.out];rfl)
    generalize zbt X.yo=er at *
    have HT4:=ya (HT3.out.alloc (.cells (valC 0 0 zbv) 27))
    obtain ⟨⟨k0,k1,k2,k3,k4,k5,k6,k7⟩,f0,f1,f2,f3,f4,f5,f6,f7⟩:=zao HT4.out.blk
    unfold valC zbv at *
    go_wp2
    refine yh (zab rfl _ _ _ 150 _ (0,0) _ rfl (set8 HT4.out.blk _ _ _ _ _ _ _ _) Tryz.underlying150 rfl zat _ rfl) rfl ?_
    exact HT4.out.err HL.out HN.out _ _ _ _ _ _ _ _ _ _ _ _ _
   ·rename_i val
    obtain ⟨xs,t⟩:=val
    obtain ⟨rfl,h2,h3⟩:=hh
    have HL:=ya (show V=(0,{ kind:=1,vk:=4,vs:=xs },t) from HV.out)
    have HA:=ya (fun x=>zaR x h3)
    have HB:=ya h2
    obtain ⟨B,hB⟩:∃B,mkB xs=B:=⟨_,rfl⟩
    rw [hB]
    have HBB:=ya hB
    have HT4:=ya (HT3.out.alloc (.cells (valC 4 0 B) 27))
    obtain ⟨⟨k0,k1,k2,k3,k4,k5,k6,k7⟩,f0,f1,f2,f3,f4,f5,f6,f7⟩:=zao HT4.out.blk
    unfold valC at *
    clear h2 h3 hB
    go_wp2
    refine yh (zab rfl _ _ _ 150 _ (0,0) _ rfl (set8 HT4.out.blk _ _ _ _ _ _ _ _) Tryz.underlying150 rfl zat _ rfl) rfl ?_
    have hbb:=HBB.out
    subst hbb
    exact HT4.out.ok (x:={ kind:=1,vk:=4,vs:=xs }) HL.out HB.out (HA.out _) _ _ _ _ _ _ _ _
  by_cases h47:X.bs.getD k 0=47
  ·have hv:=hV
   rw [h47,tokV_slash _ _] at hv
   have HV:=ya hv
   have hx:(X.bs.getD k 0).toNat=47:=by rw [h47];rfl
   rw [hx] at HRG |-
   clear hV hv hx h47 hk
   go_enter Tryz.func154,Tryz.ntmps154
   go_wp2_with fail
   rw [<-HR.out]
   generalize w.alloc _=W1 at *
   refine (HRG.out _).mono ?_
   rintro e w' ⟨rfl,rfl⟩
   have HT2:=ya (HT0.out.next HK.out)
   obtain ⟨-,-,-,-,c3,c4,fr⟩:=HT0.out.sc.facts
   have f3:=fr 3
   clear fr
   have HW:=ya (word_any HT2.out.sc (Nat.lt_of_le_of_lt (Nat.zero_le _) HK.out))
   have hdl:(X.bs.drop (k+1)).length=X.bs.length-(k+1):=by simp
   have hm:=zge (X.bs.drop (k+1))
   have hlen:(regs (X.bs.drop (k+1))).length=runN (X.bs.drop (k+1)):=rfl
   have hpos:X.bs.length-((X.bs.drop (k+1)).drop (runN (X.bs.drop (k+1)))).length=k+1+runN (X.bs.drop (k+1)):=by
    have:=HK.out
    rw [yj,hdl];omega
   have hle:((X.bs.drop (k+1)).drop (runN (X.bs.drop (k+1)))).length<=X.bs.length:=by rw [yj,hdl];omega
   have hBB:(decide (k+1+runN (X.bs.drop (k+1))<X.bs.length)||X.yo)=!decide (runN (X.bs.drop (k+1))=(X.bs.drop (k+1)).length/\X.yo=false):=by
    have:=HK.out
    rw [hdl] at hm |-
    cases X.yo
    ·simp only [Bool.or_false,and_true]
     rw [Bool.eq_iff_iff];simp;omega
    ·simp
   have hv:=HV.out
   unfold slV at hv
   unfold zgd at HW
   rw [hBB] at HW
   have hsm:=HT2.out.sc.facts.2.2.2.1
   rw [hdl] at hm
   clear hBB hdl
   generalize (X.bs.drop (k+1)).drop (runN (X.bs.drop (k+1)))=t at *
   generalize regs (X.bs.drop (k+1))=R at *
   generalize runN (X.bs.drop (k+1))=m at *
   have HPOS:=ya hpos
   have HLE:=ya hle
   have hR1:R.length<=400000:=by omega
   clear hpos hle hm hlen hsm
   by_cases hb:m=(X.bs.drop (k+1)).length/\X.yo=false
   ·rw [yf hb] at hv
    rw [yb hb] at HW
    have HVV:=ya hv
    clear hv hb
    go_wp2_with fail
    refine HW.out.mono ?_
    rintro e w2 ⟨rfl,S2,hq2,hk2,-⟩
    have HT3:=ya (Tn.of HT2.out hk2)
    clear c3 c4 f3 hq2 hk2
    obtain ⟨⟨k0,k1,k2,k3,k4,k5,k6,k7⟩,f0,f1,f2,f3,f4,f5,f6,f7⟩:=zao HT3.out.blk
    go_wp2
    refine yh (zab rfl _ _ _ 150 _ (0,0) _ rfl (set8 HT3.out.blk _ _ _ _ _ _ _ _) Tryz.underlying150 rfl zat _ rfl) rfl ?_
    exact HT3.out.err (by rw [HVV.out]) (by decide) _ _ _ _ _ _ _ _ _ _ _ _ _
   ·rw [yg hb] at hv
    rw [yd hb] at HW
    obtain ⟨s,hs⟩:∃s,mkB R=s:=⟨_,rfl⟩
    have hs2:s.size<=400000:=by rw [<-hs,zaE];exact hR1
    rw [show R=bl s by rw [<-hs];rfl] at hv
    rw [yi,hs] at HW
    have HVV:=ya hv
    clear hv hb hs
    go_wp2_with fail
    refine HW.out.mono ?_
    rintro e w2 ⟨rfl,S2,hq2,hk2,-⟩
    have HT3:=ya (Tn.of HT2.out hk2)
    have HC:=ya (hq2.facts.2.2.2.2.1)
    rw [<-HPOS.out] at HC
    clear c3 c4 f3 hq2 hk2
    go_wp2_with fail
    refine (name_any s w2 hs2).mono ?_
    rintro e w3 ⟨hb3,hh⟩
    have HT4:=ya (HT3.out.on hb3)
    have HC4:=ya (cell?_keep hb3 HC.out)
    clear hb3
    generalize zgM (bl s)=N at *
    cases N
    ·obtain rfl:=hh
     have HT5:=ya (HT4.out.alloc (.cells (valC 0 0 zbv) 27))
     obtain ⟨⟨k0,k1,k2,k3,k4,k5,k6,k7⟩,f0,f1,f2,f3,f4,f5,f6,f7⟩:=zao HT5.out.blk
     unfold valC zbv at *
     go_wp2
     refine yh (zab rfl _ _ _ 150 _ (0,0) _ rfl (set8 HT5.out.blk _ _ _ _ _ _ _ _) Tryz.underlying150 rfl zat _ rfl) rfl ?_
     exact HT5.out.err (by rw [HVV.out]) (by decide) _ _ _ _ _ _ _ _ _ _ _ _ _
    ·rename_i o
     obtain rfl:=hh
     obtain ⟨B,hB⟩:∃B,mkB o=B:=⟨_,rfl⟩
     rw [hB]
     have HBB:=ya hB
     have HA:=ya (fun x=>zaR x HC4.out)
     have HT5:=ya (HT4.out.alloc (.cells (valC 5 0 B) 27))
     obtain ⟨⟨k0,k1,k2,k3,k4,k5,k6,k7⟩,f0,f1,f2,f3,f4,f5,f6,f7⟩:=zao HT5.out.blk
     unfold valC at *
     clear hB
     go_wp2
     refine yh (zab rfl _ _ _ 150 _ (0,0) _ rfl (set8 HT5.out.blk _ _ _ _ _ _ _ _) Tryz.underlying150 rfl zat _ rfl) rfl ?_
     have hbb:=HBB.out
     subst hbb
     exact HT5.out.ok (x:={ kind:=1,vk:=5,vs:=o }) HVV.out HLE.out (HA.out _) _ _ _ _ _ _ _ _
  have HV:=ya (hV.trans (tokV_no _ _ _ HRF.out h91 h93 h60 h62 h40 h47))
  have hne:∀d:UInt8,X.bs.getD k 0≠d->((((X.bs.getD k 0).toNat:Nat):Int)==(d.toNat:Int))=false:=fun d hd=>by
   rw [ye];exact fun e=>hd (UInt8.toNat_inj.1 (Int.ofNat_inj.1 e))
  have e1:=hne 91 h91
  have e2:=hne 93 h93
  have e3:=hne 60 h60
  have e4:=hne 62 h62
  have e5:=hne 40 h40
  have e6:=hne 47 h47
  simp only [show (91:UInt8).toNat=91 from rfl,show (93:UInt8).toNat=93 from rfl,show (60:UInt8).toNat=60 from rfl,show (62:UInt8).toNat=62 from rfl,show (40:UInt8).toNat=40 from rfl,show (47:UInt8).toNat=47 from rfl] at e1 e2 e3 e4 e5 e6
  clear hV h91 h93 h60 h62 h40 h47 hne hk
  generalize (X.bs.getD k 0).toNat=x at *
  go_enter Tryz.func154,Tryz.ntmps154
  go_wp2_with fail
  rw [<-HR.out]
  generalize w.alloc _=W1 at *
  refine (HRG.out _).mono ?_
  rintro e w' ⟨rfl,rfl⟩
  have HT2:=ya (HT0.out.next HK.out)
  obtain ⟨-,-,-,-,c3,c4,fr⟩:=HT0.out.sc.facts
  have f3:=fr 3
  clear fr
  obtain ⟨⟨k0,k1,k2,k3,k4,k5,k6,k7⟩,f0,f1,f2,f3',f4,f5,f6,f7⟩:=zao HT2.out.blk
  go_wp2
  refine yh (zab rfl _ _ _ 150 _ (0,0) _ rfl (set8 HT2.out.blk _ _ _ _ _ _ _ _) Tryz.underlying150 rfl zat _ rfl) rfl ?_
  exact HT2.out.err (by rw [HV.out]) (by decide) _ _ _ _ _ _ _ _ _ _ _ _ _
def skN (bs:List UInt8) (b:Bool) (j:Nat):Nat:=if bs.length<=j then bs.length else j+zbq b (bs.drop j)
theorem skN_end {bs:List UInt8} {b:Bool} {j:Nat} (h:bs.length<=j):skN bs b j=bs.length:=by unfold skN;rw [yf h]
theorem skN_go {bs:List UInt8} {b b':Bool} {j:Nat} (h:j<bs.length) (hs:zbq b (bs.getD j 0::bs.drop (j+1))=1+zbq b' (bs.drop (j+1))):skN bs b j=skN bs b' (j+1):=by
 unfold skN
 rw [yg (by omega)]
 have hd:bs.drop j=bs.getD j 0::bs.drop (j+1):=by
  rw [List.drop_eq_getElem_cons h];simp [List.getD,h]
 rw [hd,hs]
 by_cases h1:bs.length<=j+1
 ·rw [yf h1,List.drop_eq_nil_of_le h1]
  simp only [zbq]
  omega
 ·rw [yg h1];omega
theorem skN_stop {bs:List UInt8} {j:Nat} (h:j<bs.length) (h1:bs.getD j 0≠37) (h2:isSp (bs.getD j 0)=false):skN bs false j=j:=by
 unfold skN
 rw [yg (by omega)]
 have hd:bs.drop j=bs.getD j 0::bs.drop (j+1):=by
  rw [List.drop_eq_getElem_cons h];simp [List.getD,h]
 rw [hd,zbq,yg h1,yg (by rw [h2];decide),Nat.add_zero]
theorem skipV_skN {bs:List UInt8} {k:Int} (h:0<=k):za8 bs k=skN bs false k.toNat:=by
 unfold za8 skN
 rw [yg (by omega)]
 by_cases h1:(bs.length:Int)<=k
 ·rw [yf h1,yf (by omega)]
 ·rw [yg h1,yg (by omega)]
theorem skip_any {w:World} {a:Option Addr} {cap:Nat} {bs:List UInt8} (hr:Row w 1 a bs.length cap (bs.map u8C)) (hn:bs.length<=400000) (k:Int) :
  Calls Tryz.prog 153 #[.slice a bs.length cap,.int .i64 k] w fun e w'=>e=.returned (.int .i64 (za8 bs k:Nat))/\w=w':=by
 obtain ⟨V,hV⟩:∃V,V=za8 bs k:=⟨_,rfl⟩
 rw [<-hV]
 by_cases hk:k<0
 ·have HV:=ya (show V=0 by rw [hV];unfold za8;rw [yf hk])
  have hkd:decide (k<0)=true:=yb hk
  clear hV hr
  go_enter Tryz.func153,Tryz.ntmps153
  go_wp2
  go_ret
  exact ⟨by rw [HV.out];rfl,rfl⟩
 ·have hv:=hV.trans (skipV_skN (by omega))
  obtain ⟨j0,hj0⟩:∃j:Nat,k=j:=⟨k.toNat,by omega⟩
  subst hj0
  rw [Int.toNat_natCast] at hv
  have HV:=ya hv
  have hkd:decide ((j0:Int)<0)=false:=yd (by omega)
  have HC:=ya (fun j (hj:j<bs.length)=>hr.at 0 j hj)
  clear hV hr hv hk
  go_enter Tryz.func153,Tryz.ntmps153
  go_wp2
  go_loop [1,5] (fun i c=>∃(j:Nat) (b:Bool),i=.int .i64 j/\c=.bool b/\Hid (V=skN bs b j))
   (fun i _=>bs.length-(intOf i).toNat)
  case atStart=>exact ⟨j0,false,rfl,rfl,HV⟩
  case round =>
   obtain ⟨j,b,rfl,rfl,HJ⟩:=hrel
   by_cases hj:j<bs.length
   ·obtain ⟨b0,off,rfl,-,hc⟩:=HC.out j hj
    have hcj:=hc j hj
    unfold u8C at hcj
    have hji:decide ((j:Int)<bs.length)=true:=by simp;exact hj
    have hjm:j<=399999:=by omega
    have HSP:=ya (fun W=>zc0 (bs.getD j 0).toNat W)
    rw [<-spI_eq] at HSP
    have HG:=ya (fun b b'=>@skN_go bs b b' j hj)
    have HST:=ya (fun h1 h2=>@skN_stop bs j hj h1 h2)
    have HM:=ya (show bs.length-(j+1)<bs.length-j by omega)
    have hjd:decide (j<bs.length)=true:=yb hj
    clear hc HC hn hkd
    generalize bs.getD j 0=c at *
    cases b
    ·by_cases h37:c=37
     ·have hx:c.toNat=37:=by rw [h37];rfl
      have HV2:=ya (HJ.out.trans (HG.out false true (by rw [h37];simp [zbq])))
      rw [hx] at hcj
      clear hx h37
      go_wp2
      go_round
      case rel=>exact ⟨j+1,true,by go_num,rfl,HV2⟩
      case measure=>simpa [intOf] using HM.out
     ·have hx:((c.toNat:Int)==37)=false:=by rw [ye];exact fun e=>h37 (UInt8.toNat_inj.1 (Int.ofNat_inj.1 e))
      obtain ⟨sp,hsp⟩:∃sp,isSp c=sp:=⟨_,rfl⟩
      rw [hsp] at HSP
      have HS:=ya hsp
      have H37:=ya h37
      clear h37 hsp
      cases sp
      ·have HV2:=ya (HJ.out.trans (HST.out H37.out HS.out))
       generalize c.toNat=x at *
       go_wp2_with (go_at_call 155;refine (HSP.out _).mono ?_;rintro e w' ⟨rfl,rfl⟩)
       go_ret
       exact ⟨by rw [HV2.out];rfl,rfl⟩
      ·have HV2:=ya (HJ.out.trans (HG.out false false (by rw [zbq,yg H37.out,yf HS.out])))
       generalize c.toNat=x at *
       go_wp2_with (go_at_call 155;refine (HSP.out _).mono ?_;rintro e w' ⟨rfl,rfl⟩)
       go_round
       case rel=>exact ⟨j+1,false,by go_num,rfl,HV2⟩
       case measure=>simpa [intOf] using HM.out
    ·have HV2:=ya (HJ.out.trans (HG.out true (c != 10&&c != 13) (by rw [zbq])))
     by_cases h10:c=10
     ·have hx:c.toNat=10:=by rw [h10];rfl
      rw [hx] at hcj
      rw [show (c != 10&&c != 13)=false by rw [h10];rfl] at HV2
      clear hx h10
      go_wp2
      go_round
      case rel=>exact ⟨j+1,false,by go_num,rfl,HV2⟩
      case measure=>simpa [intOf] using HM.out
     ·by_cases h13:c=13
      ·have hx:c.toNat=13:=by rw [h13];rfl
       rw [hx] at hcj
       rw [show (c != 10&&c != 13)=false by rw [h13];rfl] at HV2
       clear hx h10 h13
       go_wp2
       go_round
       case rel=>exact ⟨j+1,false,by go_num,rfl,HV2⟩
       case measure=>simpa [intOf] using HM.out
      ·rw [show (c != 10&&c != 13)=true by simp [h10,h13]] at HV2
       have e1:((c.toNat:Int)==10)=false:=by rw [ye];exact fun e=>h10 (UInt8.toNat_inj.1 (Int.ofNat_inj.1 e))
       have e2:((c.toNat:Int)==13)=false:=by rw [ye];exact fun e=>h13 (UInt8.toNat_inj.1 (Int.ofNat_inj.1 e))
       have e3:((c.toNat:Int) != 10)=true:=by simp only [bne,e1,yi]
       have e4:((c.toNat:Int) != 13)=true:=by simp only [bne,e2,yi]
       clear h10 h13
       generalize c.toNat=x at *
       go_wp2
       go_round
       case rel=>exact ⟨j+1,true,by go_num,rfl,HV2⟩
       case measure=>simpa [intOf] using HM.out
   ·have hji:decide ((j:Int)<bs.length)=false:=yd (by omega)
    have HV2:=ya (HJ.out.trans (skN_end (by omega)))
    have hjd:decide (j<bs.length)=false:=yd hj
    clear hj HC
    go_wp2
    go_ret
    exact ⟨by rw [HV2.out];rfl,rfl⟩
def tokN (x:Tk) (f t:Int):Array Value:=#[.int .i64 x.kind,.int .i64 f,.int .i64 t,.int .i64 x.vk,.int .i64 x.vn,.string (mkB x.vs),.slice none 0 0,.string (mkB x.s)]
def zdL (w:World) (V:Tk×Int×Int×Int) (e:Ending) (w':World):Prop :=
 e=.returned (.tuple #[.agg (tokN V.1 V.2.1 V.2.2.1),.int .i64 V.2.2.2])/\Below w.heap.size w w'
structure Nx (w:World) (r:Nat) (W:World):Prop where
 blk:W.heap[r]?=some (.cells #[.int .i64 0,.int .i64 0,.int .i64 0,.int .i64 0,.int .i64 0,.string ⟨#[]⟩,.slice none 0 0,.string ⟨#[]⟩] 150 (0,0))
 bel:Below w.heap.size w W
 wr:w.heap.size<=r
theorem Nx.start (w:World):Nx w w.heap.size (w.alloc (.cells #[.int .i64 0,.int .i64 0,.int .i64 0,.int .i64 0,.int .i64 0,.string ⟨#[]⟩,.slice none 0 0,.string ⟨#[]⟩] 150)) :=
 ⟨zac _ rfl,zag _ _,ym _⟩
theorem Nx.on {w W W':World} {r:Nat} (h:Nx w r W) (hb:Below W.heap.size W W'):Nx w r W':=⟨zaa hb h.blk,h.bel.trans (hb.mono h.bel.size),h.wr⟩
theorem Nx.alloc {w W:World} {r:Nat} (h:Nx w r W) (o:Obj):Nx w r (W.alloc o):=h.on (zag W o)
theorem Nx.set {w W:World} {r:Nat} (h:Nx w r W) {b:Nat} (hb:w.heap.size<=b) (hn:b≠r) (i:Nat) (v:Value):Nx w r (W.setCell ⟨b,i,none⟩ v) :=
 ⟨by rw [heap_setCell_other _ _ _ _ (Ne.symm hn)];exact h.blk,h.bel.setCell hb v,h.wr⟩
theorem Nx.drewN {w W:World} {r:Nat} (h:Nx w r W) (q:Nat):Nx w r (W.drewN q):=⟨h.blk,zad h.bel q,h.wr⟩
theorem Nx.keeps {w W W':World} {r p:Nat} (h:Nx w r W) (hk:zae (fun b=>b=p) W W') (hp:w.heap.size<=p) (hn:p≠r):Nx w r W' :=
 ⟨hk.obj h.blk (Ne.symm hn),h.bel.trans (hk.below h.bel.size (fun b hb=>by rw [hb];exact hp)),h.wr⟩
theorem zaZ {B:Nat} {w0 w:World} (h:Below B w0 w) {b:Nat} (hb:B<=b) (y0 y1 y2 y3 y4 y5 y6 y7:Value) :
  Below B w0 ((((((((w.setCell ⟨b,0,none⟩ y0).setCell ⟨b,1,none⟩ y1).setCell ⟨b,2,none⟩ y2).setCell ⟨b,3,none⟩ y3).setCell ⟨b,4,none⟩ y4).setCell ⟨b,5,none⟩ y5).setCell ⟨b,6,none⟩ y6).setCell ⟨b,7,none⟩ y7) :=
 (((((((h.setCell hb _).setCell hb _).setCell hb _).setCell hb _).setCell hb _).setCell hb _).setCell hb _).setCell hb _
theorem Nx.fin {w W:World} {r:Nat} {V:Tk×Int×Int×Int} {x:Tk} {f t er:Int} (h:Nx w r W) (hV:V=(x,f,t,er)) (y0 y1 y2 y3 y4 y5 y6 y7:Value) :
  zdL w V (.returned (.tuple #[.agg (tokN x f t),.int .i64 er]))
   ((((((((W.setCell ⟨r,0,none⟩ y0).setCell ⟨r,1,none⟩ y1).setCell ⟨r,2,none⟩ y2).setCell ⟨r,3,none⟩ y3).setCell ⟨r,4,none⟩ y4).setCell ⟨r,5,none⟩ y5).setCell ⟨r,6,none⟩ y6).setCell ⟨r,7,none⟩ y7):=by
 subst hV;exact ⟨rfl,zaZ h.bel h.wr _ _ _ _ _ _ _ _⟩
theorem sc_new {w:World} {a:Option Addr} {cap:Nat} {bs:List UInt8} (hr:Row w 1 a bs.length cap (bs.map u8C)) (hn:bs.length<=400000) (yo:Bool) {f:Nat} (hf:f<bs.length) :
  ScQ (w.alloc (.cells #[.pointer none,.slice none 0 0,.slice a bs.length cap,.int .i64 f,.bool yo] 240)) (fun b=>b=w.heap.size) w.heap.size ⟨a,cap,bs,yo⟩ [] f:=by
 refine ⟨.pointer none,.slice none 0 0,⟨zac _ rfl,.inl rfl,World.ownsRow_nil _ _ _ _,fun b hb=>(by cases hb),rfl,fun b hb=>⟨by omega,by rw [zan];omega⟩,hr.mono (zag _ _),fun x hx=>?_,by show f<=bs.length;omega,hn,by simp,fun _=>rfl⟩⟩
 obtain ⟨b,off,ha,hb,-⟩:=hr.2.2.2.2 (by omega)
 have hx':a=some x:=hx
 rw [ha] at hx'
 cases hx'
 exact hb
theorem skipV_le (bs:List UInt8) (k:Int):za8 bs k<=bs.length:=by
 unfold za8
 split
 ·omega
 ·split
  ·omega
  ·have:=zda false (bs.drop k.toNat)
   rw [yj] at this;omega
theorem zdb {w:World} {a:Option Addr} {cap:Nat} {bs:List UInt8} (hr:Row w 1 a bs.length cap (bs.map u8C)) (hn:bs.length<=400000) (k:Int) (yo:Bool) :
  Calls Tryz.prog 115 #[.slice a bs.length cap,.int .i64 k,.bool yo] w (zdL w (zah bs k yo)):=by
 obtain ⟨V,hV⟩:∃V,V=zah bs k yo:=⟨_,rfl⟩
 rw [<-hV]
 unfold zah at hV
 have hT:=Nx.start w
 obtain ⟨r,hrr⟩:∃r,r=w.heap.size:=⟨_,rfl⟩
 rw [<-hrr] at hT
 have HT0:=ya hT
 have HR:=ya hrr
 clear hT hrr
 have HRW:=ya hr
 have HN:=ya hn
 clear hr
 by_cases hk:k<0\/(bs.length:Int)<k
 ·rw [yf hk] at hV
  have HV:=ya hV
  clear hV HT0 HR
  by_cases hk0:k<0
  ·have hkd:decide (k<0)=true:=yb hk0
   clear hk
   go_enter Tryz.func115,Tryz.ntmps115
   go_wp2
   refine yh (zab rfl _ _ w.heap.size 150 _ (0,0) _ rfl (zac _ rfl) Tryz.underlying150 rfl (by exact zat) _ rfl) rfl ?_
   rw [HV.out]
   exact ⟨rfl,zag _ _⟩
  ·have hk1:(bs.length:Int)<k:=by omega
   have hkd:decide (k<0)=false:=yd hk0
   have hkd2:decide ((bs.length:Int)<k)=true:=yb hk1
   clear hk
   go_enter Tryz.func115,Tryz.ntmps115
   go_wp2
   refine yh (zab rfl _ _ w.heap.size 150 _ (0,0) _ rfl (zac _ rfl) Tryz.underlying150 rfl (by exact zat) _ rfl) rfl ?_
   rw [HV.out]
   exact ⟨rfl,zag _ _⟩
 ·rw [yg hk] at hV
  have hkd:decide (k<0)=false:=yd (by omega)
  have hkd2:decide ((bs.length:Int)<k)=false:=yd (by omega)
  have hk0:0<=k:=by omega
  have hk1:k<=bs.length:=by omega
  clear hk
  have HS:=ya (fun (W:World) (h:Below w.heap.size w W)=>skip_any (HRW.out.mono h) hn k)
  have hfl:=skipV_le bs k
  generalize za8 bs k=f at *
  have HV0:=ya hV
  clear hV hk0 hk1
  go_enter Tryz.func115,Tryz.ntmps115
  go_wp2_with fail
  refine (HS.out _ HT0.out.bel).mono ?_
  rintro e w' ⟨rfl,rfl⟩
  rw [<-HR.out]
  generalize w.alloc _=W1 at *
  have hV:=HV0.out
  clear HV0
  by_cases hf:f=bs.length
  ·subst hf
   rw [zbP (by omega)] at hV
   have HV:=ya hV
   obtain ⟨⟨k0,k1,k2,k3,k4,k5,k6,k7⟩,f0,f1,f2,f3,f4,f5,f6,f7⟩:=zao HT0.out.blk
   clear hV HS
   cases yo
   all_goals
    go_wp2
    refine yh (zab rfl _ _ _ 150 _ (0,0) _ rfl (set8 HT0.out.blk _ _ _ _ _ _ _ _) Tryz.underlying150 rfl zat _ rfl) rfl ?_
    exact HT0.out.fin HV.out _ _ _ _ _ _ _ _
  ·have hf2:f<bs.length:=by omega
   rw [zaS hf2] at hV
   have hff:decide (f=bs.length)=false:=yd hf
   have hfe:((f:Int)==(bs.length:Int))=false:=by rw [ye];omega
   have HSC:=ya (sc_new (HRW.out.mono HT0.out.bel) hn yo hf2)
   have HF:=ya hf2
   obtain ⟨b0,off,ha,hb0,hc⟩:=HRW.out.at 0 f hf2
   have hcj:=cell?_keep (HT0.out.alloc (.cells #[.pointer none,.slice none 0 0,.slice a bs.length cap,.int .i64 f,.bool yo] 240)).bel (hc f hf2)
   have hcj1:=cell?_keep HT0.out.bel (hc f hf2)
   have hb1:¬b0=W1.heap.size:=by have:=HT0.out.bel.size;omega
   unfold u8C at hcj hcj1
   subst ha
   have hb2:b0<W1.heap.size:=by have:=HT0.out.bel.size;omega
   have hfi:(f:Int)<bs.length:=by omega
   have hTK:Calls Tryz.prog 154 #[.pointer (some ⟨W1.heap.size,0,none⟩),.int .u8 (bs.getD f 0).toNat] (W1.alloc (.cells #[.pointer none,.slice none 0 0,.slice (some ⟨b0,off,none⟩) bs.length cap,.int .i64 f,.bool yo] 240)) (zbS _ (fun b=>b=W1.heap.size) W1.heap.size ⟨some ⟨b0,off,none⟩,cap,bs,yo⟩ (tokV yo (bs.getD f 0) (bs.drop (f+1)))):=token_any HSC.out hf2
   have hV2:V=if (tokV yo (bs.getD f 0) (bs.drop (f+1))).1=0 then ((tokV yo (bs.getD f 0) (bs.drop (f+1))).2.1,(f:Int),(bs.length:Int)-((tokV yo (bs.getD f 0) (bs.drop (f+1))).2.2.length:Int),0) else ({ kind:=0 },(f:Int),(f:Int),(tokV yo (bs.getD f 0) (bs.drop (f+1))).1):=hV
   generalize tokV yo (bs.getD f 0) (bs.drop (f+1))=T at *
   generalize bs.getD f 0=cc at *
   have HV:=ya hV2
   have HTK:=ya hTK
   have hrr:=(Array.getElem?_eq_some_iff.1 HT0.out.blk).1
   have hpw:w.heap.size<=W1.heap.size:=HT0.out.bel.size
   have HT1:=ya (HT0.out.alloc (.cells #[.pointer none,.slice none 0 0,.slice (some ⟨b0,off,none⟩) bs.length cap,.int .i64 f,.bool yo] 240))
   have HPR:=ya (show W1.heap.size≠r by omega)
   have HPW:=ya hpw
   have HRR:=ya hrr
   have HSZ:=ya (zan W1 (.cells #[.pointer none,.slice none 0 0,.slice (some ⟨b0,off,none⟩) bs.length cap,.int .i64 f,.bool yo] 240))
   clear hV hV2 hTK HS hc hrr hpw HSC hb0
   go_wp2_with fail
   refine HTK.out.mono ?_
   rintro e w2 ⟨hk2,kk,vk,vn,vs,s,rfl,hfx⟩
   have HT2:=ya (HT1.out.keeps hk2 HPW.out HPR.out)
   have hws:W1.heap.size<w2.heap.size:=by have:=hk2.size;rw [HSZ.out] at this;omega
   have HWS:=ya hws
   have HFX:=ya hfx
   clear HTK HT1 HSZ hk2 hcj hcj1 hb1 hb2 hfx hws
   generalize W1.alloc _=W1' at *
   generalize W1.heap.size=p at *
   have HT3:=ya (HT2.out.alloc (.cells (tokC kk 0 0 vk vn vs s) 150))
   obtain ⟨er,her⟩:∃er,T.1=er:=⟨_,rfl⟩
   have HE:=ya her
   rw [her]
   clear her
   have hr2:r<w2.heap.size:=(Array.getElem?_eq_some_iff.1 HT2.out.blk).1
   have HR2:=ya hr2
   clear hr2
   by_cases h0:er=0
   ·subst h0
    obtain ⟨hkk,hvk,hvn,hvs,hs,htl,hc3⟩:=HFX.out HE.out
    obtain ⟨t,ht⟩:∃t:Nat,t=bs.length-T.2.2.length:=⟨_,rfl⟩
    have hc3':w2.cell? ⟨p,3,none⟩=some (.int .i64 (t:Int)):=by rw [ht];exact hc3
    have HVV:=ya (show V=(T.2.1,(f:Int),(t:Int),0) by
     rw [HV.out,yf HE.out,ht]
     have h2:T.2.2.length<=bs.length:=htl
     congr 3;omega)
    have hcp:=zaR (.cells (tokC kk 0 0 vk vn vs s) 150) hc3'
    have hbr2:(w2.alloc (.cells (tokC kk 0 0 vk vn vs s) 150)).heap[w2.heap.size]?=some (.cells #[.int .i64 kk,.int .i64 0,.int .i64 0,.int .i64 vk,.int .i64 vn,.string vs,.slice none 0 0,.string s] 150 (0,0)):=zac _ rfl
    have HBR2:=ya hbr2
    have HCP:=ya hcp
    have HW2:=ya (show w.heap.size<=w2.heap.size from HT2.out.bel.size)
    have HNR:=ya (show w2.heap.size≠r from Nat.ne_of_gt HR2.out)
    have HNP:=ya (show p≠w2.heap.size from Nat.ne_of_lt HWS.out)
    have HKK:=ya hkk
    have HVK:=ya hvk
    have HVN:=ya hvn
    have HVS:=ya hvs
    have HSS:=ya hs
    clear hkk hvk hvn hvs hs htl hc3 hc3' hcp hbr2 HE HFX HV ht
    unfold tokC at *
    go_wp2
    generalize w2.alloc _=W3 at *
    generalize w2.heap.size=r2 at *
    have hcp:=HCP.out
    have hnr:=HNR.out
    have hnp:=HNP.out
    obtain ⟨⟨g0,g1,g2,g3,g4,g5,g6,g7⟩,m0,m1,m2,m3,m4,m5,m6,m7⟩:=zao HBR2.out
    have HO1:=ya (show Nx w r ((W3.setCell ⟨r2,1,none⟩ (.int .i64 f)).setCell ⟨r2,2,none⟩ (.int .i64 t)).drew/\((W3.setCell ⟨r2,1,none⟩ (.int .i64 f)).setCell ⟨r2,2,none⟩ (.int .i64 t)).drew.heap[r2]?=some (.cells #[.int .i64 kk,.int .i64 f,.int .i64 t,.int .i64 vk,.int .i64 vn,.string vs,.slice none 0 0,.string s] 150 (0,0)) from
     ⟨((HT3.out.set HW2.out hnr 1 _).set HW2.out hnr 2 _).drewN 1,heap_setCell_same _ _ 2 _ _ _ (heap_setCell_same W3 _ 1 _ _ _ HBR2.out)⟩)
    have HO2:=ya (show Nx w r ((W3.setCell ⟨r2,2,none⟩ (.int .i64 t)).setCell ⟨r2,1,none⟩ (.int .i64 f)).drew/\((W3.setCell ⟨r2,2,none⟩ (.int .i64 t)).setCell ⟨r2,1,none⟩ (.int .i64 f)).drew.heap[r2]?=some (.cells #[.int .i64 kk,.int .i64 f,.int .i64 t,.int .i64 vk,.int .i64 vn,.string vs,.slice none 0 0,.string s] 150 (0,0)) from
     ⟨((HT3.out.set HW2.out hnr 2 _).set HW2.out hnr 1 _).drewN 1,heap_setCell_same _ _ 1 _ _ _ (heap_setCell_same W3 _ 2 _ _ _ HBR2.out)⟩)
    go_region
    all_goals
     clear hcp hnp g0 g1 g2 g3 g4 g5 g6 g7 m0 m1 m2 m3 m4 m5 m6 m7
     first
      |(obtain ⟨W4,hW4⟩:∃W4,W4=((W3.setCell ⟨r2,1,none⟩ (.int .i64 f)).setCell ⟨r2,2,none⟩ (.int .i64 t)).drew:=⟨_,rfl⟩;rw [<-hW4];have HX4:=ya (show Nx w r W4 by rw [hW4];exact HO1.out.1);have HB4:=ya (show W4.heap[r2]?=some (.cells #[.int .i64 kk,.int .i64 f,.int .i64 t,.int .i64 vk,.int .i64 vn,.string vs,.slice none 0 0,.string s] 150 (0,0)) by rw [hW4];exact HO1.out.2))
      |(obtain ⟨W4,hW4⟩:∃W4,W4=((W3.setCell ⟨r2,2,none⟩ (.int .i64 t)).setCell ⟨r2,1,none⟩ (.int .i64 f)).drew:=⟨_,rfl⟩;rw [<-hW4];have HX4:=ya (show Nx w r W4 by rw [hW4];exact HO2.out.1);have HB4:=ya (show W4.heap[r2]?=some (.cells #[.int .i64 kk,.int .i64 f,.int .i64 t,.int .i64 vk,.int .i64 vn,.string vs,.slice none 0 0,.string s] 150 (0,0)) by rw [hW4];exact HO2.out.2))
     clear hW4
     obtain ⟨⟨g0,g1,g2,g3,g4,g5,g6,g7⟩,m0,m1,m2,m3,m4,m5,m6,m7⟩:=zao HB4.out
     obtain ⟨⟨k0,k1,k2,k3,k4,k5,k6,k7⟩,f0,f1,f2,f3,f4,f5,f6,f7⟩:=zao HX4.out.blk
     go_wp2
     refine yh (zab rfl _ _ _ 150 _ (0,0) _ rfl (set8 HX4.out.blk _ _ _ _ _ _ _ _) Tryz.underlying150 rfl zat _ rfl) rfl ?_
     have e1:=HKK.out
     have e2:=HVK.out
     have e3:=HVN.out
     have e4:=HVS.out
     have e5:=HSS.out
     subst e1 e2 e3 e4 e5
     exact HX4.out.fin HVV.out _ _ _ _ _ _ _ _
   ·have HVV:=ya (show V=({ kind:=0 },(f:Int),(f:Int),er) by rw [HV.out,HE.out,yg h0])
    have e1:(er==0)=false:=by rw [ye];exact h0
    have e2:(er != 0)=true:=by simp only [bne,e1,yi]
    clear h0
    obtain ⟨⟨k0,k1,k2,k3,k4,k5,k6,k7⟩,f0,f1,f2,f3,f4,f5,f6,f7⟩:=zao HT3.out.blk
    unfold tokC at *
    go_wp2
    refine yh (zab rfl _ _ _ 150 _ (0,0) _ rfl (set8 HT3.out.blk _ _ _ _ _ _ _ _) Tryz.underlying150 rfl zat _ rfl) rfl ?_
    exact HT3.out.fin HVV.out _ _ _ _ _ _ _ _
theorem more_any (e:Int) (w:World):Calls Tryz.prog 190 #[.int .i64 e] w fun x w'=>x=.returned (.int .i64 (moreV e))/\w=w':=by
 unfold moreV
 by_cases h:e=6
 ·subst h
  go_enter Tryz.func190,Tryz.ntmps190
  go_wp2
  go_ret
  exact ⟨rfl,rfl⟩
 ·have hd:(e==6)=false:=by rw [ye];exact h
  rw [yg h]
  clear h
  go_enter Tryz.func190,Tryz.ntmps190
  go_wp2
  go_ret
  exact ⟨rfl,rfl⟩
theorem zaC:(Tryz.prog.info? 27).map (·.size)=some 4:=by kernel_rfl
theorem zgs (x:Tk) (f t:Int) (w:World):Calls Tryz.prog 95 #[.agg (tokN x f t)] w fun e w'=>e=.returned (.bool (zaD x))/\Below w.heap.size w w':=by
 unfold tokN zaD
 generalize x.kind=a0 at *
 generalize x.vk=a1 at *
 generalize x.vn=a2 at *
 generalize mkB x.vs=s1 at *
 generalize mkB x.s=s2 at *
 cases h0:(a0==1)
 ·go_enter Tryz.func95,Tryz.ntmps95
  go_wp2
  go_ret
  exact ⟨rfl,zag w _⟩
 ·go_enter Tryz.func95,Tryz.ntmps95
  go_wp2
  go_ret
  exact ⟨rfl,zag w _⟩
def wordE (s:List UInt8):PV×Int:=match zee s with|none=>(PV.none,11)|some v=>(v,0)
theorem zcQ (a b:List UInt8):((mkB a).toList==b)=decide (a=b):=by
 have:(mkB a).toList=a:=by unfold mkB;exact ByteArray.toList_eq _
 rw [this];by_cases h:a=b<;>simp [h]
theorem pword_any (s:List UInt8) (w:World):Calls Tryz.prog 160 #[.string (mkB s)] w fun e w'=>e=.returned (.tuple #[pvA (wordE s).1 (.slice none 0 0),.int .i64 (wordE s).2])/\Below w.heap.size w w':=by
 have h1:=zcQ s [116,114,117,101]
 have h2:=zcQ s [102,97,108,115,101]
 have h3:=zcQ s [110,117,108,108]
 unfold wordE zee pvA
 by_cases g1:s=[116,114,117,101]
 ·rw [yf g1]
  rw [yb g1] at h1
  clear g1 h2 h3
  go_enter Tryz.func160,Tryz.ntmps160
  go_wp2
  refine yh (zab rfl _ _ w.heap.size 27 _ (0,0) _ rfl (zac _ rfl) Tryz.underlying27 rfl (by exact zaC) _ rfl) rfl ?_
  exact ⟨rfl,zag _ _⟩
 rw [yg g1]
 rw [yd g1] at h1
 by_cases g2:s=[102,97,108,115,101]
 ·rw [yf g2]
  rw [yb g2] at h2
  clear g1 g2 h3
  go_enter Tryz.func160,Tryz.ntmps160
  go_wp2
  refine yh (zab rfl _ _ w.heap.size 27 _ (0,0) _ rfl (zac _ rfl) Tryz.underlying27 rfl (by exact zaC) _ rfl) rfl ?_
  exact ⟨rfl,zag _ _⟩
 rw [yg g2]
 rw [yd g2] at h2
 by_cases g3:s=[110,117,108,108]
 ·rw [yf g3]
  rw [yb g3] at h3
  clear g1 g2 g3
  go_enter Tryz.func160,Tryz.ntmps160
  go_wp2
  refine yh (zab rfl _ _ w.heap.size 27 _ (0,0) _ rfl (zac _ rfl) Tryz.underlying27 rfl (by exact zaC) _ rfl) rfl ?_
  exact ⟨rfl,zag _ _⟩
 ·rw [yg g3]
  rw [yd g3] at h3
  clear g1 g2 g3
  go_enter Tryz.func160,Tryz.ntmps160
  go_wp2
  refine yh (zab rfl _ _ w.heap.size 27 _ (0,0) _ rfl (zac _ rfl) Tryz.underlying27 rfl (by exact zaC) _ rfl) rfl ?_
  exact ⟨rfl,zag _ _⟩
def ptrs (gs:List Nat):List Value:=gs.reverse.map fun g=>.pointer (some ⟨g,0,none⟩)
def Lvs (w:World) (B:Nat) (F:Nat->Prop):(Nat->Prop)->List Lv->List Nat->Prop
 | _,[],gs=>gs=[]
 | G,v::st,gs=>∃g t sl cs,gs=g::t/\B<=g/\¬G g/\w.heap[g]?=some (.cells #[.bool v.dict,sl] 166 (0,0))/\w.ownsRow B 27 4 sl v.l.length cs/\IsVs w F v.l cs /\
   (∀b,sl.ownBlock=some b->¬F b/\¬G b)/\Lvs w B F (fun b=>G b\/b=g\/sl.ownBlock=some b) st t
theorem zaA {w w':World} {base e sz:Nat} {v:Value} {n:Nat} {xs:List Value} (h:w.ownsRow base e sz v n xs) (hk:∀b,v.ownBlock=some b->w'.heap[b]?=w.heap[b]?):w'.ownsRow base e sz v n xs:=by
 obtain ⟨h1,h2⟩:=h
 refine ⟨h1,?_⟩
 rcases h2 with h2|⟨g,cap,cur,hv,hg,hh,r⟩
 ·exact .inl h2
 ·exact .inr ⟨g,cap,cur,hv,hg,by rw [hk g (by rw [hv];rfl)];exact hh,r⟩
theorem zaB {w:World} {base e sz:Nat} {v:Value} {n:Nat} {xs:List Value} (h:w.ownsRow base e sz v n xs) {b:Nat} (hb:v.ownBlock=some b):∃cs,w.heap[b]?=some (.cells cs e (0,0)):=by
 rcases h.2 with ⟨rfl,_⟩|⟨g,cap,cur,rfl,hg,hh,r⟩
 ·cases hb
 ·cases hb;exact ⟨cur,hh⟩
theorem zas {w:World} {base e sz:Nat} {v:Value} {n:Nat} {xs:List Value} (h:w.ownsRow base e sz v n xs):∃a cap,v=.slice a n cap/\n<=cap/\cap<=maxLen:=by
 obtain ⟨a,cap,rfl,hr,_⟩:=Row.of_owns h
 exact ⟨a,cap,rfl,hr.2.1,hr.2.2.1⟩
theorem zaf {w:World} {b:Nat} {o:Obj} (h:w.heap[b]?=some o):b<w.heap.size:=(Array.getElem?_eq_some_iff.1 h).1
theorem zaO {w:World} {b c:Nat} {x y:Array Value} {t u:TypeId} {f1 f2:Nat×Nat} (hb:w.heap[b]?=some (.cells x t f1)) (hc:w.heap[c]?=some (.cells y u f2)) (h:t≠u):b≠c:=by
 rintro rfl
 rw [hb] at hc
 injection hc with hc
 injection hc with _ h2 _
 exact h h2
def IsLV (w:World) (b:Nat):Prop:=(∃cs,w.heap[b]?=some (.cells cs 166 (0,0)))\/∃cs,w.heap[b]?=some (.cells cs 27 (0,0))
theorem Lvs.keep' {w w':World} {B:Nat} {F F':Nat->Prop} (hF:zay F w w') (hFF:∀b,F b->F' b):∀ {st:List Lv} {G G':Nat->Prop} {gs:List Nat},Lvs w B F G st gs ->
  (∀b,b<w.heap.size->¬G b->IsLV w b->w'.heap[b]?=w.heap[b]?)->(∀b,F' b->F b\/G b\/w.heap.size<=b)->(∀b,G' b->G b\/w.heap.size<=b)->Lvs w' B F' G' st gs
 | [],_,_,_,h,_,_,_=>h
 | v::st,G,G',_,⟨g,t,sl,cs,h1,h2,h3,h4,h5,h6,h7,h8⟩,hg,hF',hG'=>by
  have hgl:=zaf h4
  have hbl:∀b,sl.ownBlock=some b->b<w.heap.size:=fun b hb=>(h5.lt b hb).2
  refine ⟨g,t,sl,cs,h1,h2,fun h=>?_,?_,zaA h5 fun b hb=>hg b (hbl b hb) (h7 b hb).2 (.inr (zaB h5 hb)),IsVs.keep hF hFF _ h6,fun b hb=>⟨fun h=>?_,fun h=>?_⟩,?_⟩
  ·rcases hG' g h with h|h
   ·exact h3 h
   ·omega
  ·rw [hg g hgl h3 (.inl ⟨_,h4⟩)];exact h4
  ·rcases hF' b h with h|h|h
   ·exact (h7 b hb).1 h
   ·exact (h7 b hb).2 h
   ·have:=hbl b hb;omega
  ·rcases hG' b h with h|h
   ·exact (h7 b hb).2 h
   ·have:=hbl b hb;omega
  ·refine Lvs.keep' hF hFF h8 (fun b hb hn=>hg b hb fun h=>hn (.inl h)) (fun b h=>?_) (fun b h=>?_)
   ·rcases hF' b h with h|h|h
    ·exact .inl h
    ·exact .inr (.inl (.inl h))
    ·exact .inr (.inr h)
   ·rcases h with h|h|h
    ·rcases hG' b h with h|h
     ·exact .inl (.inl h)
     ·exact .inr h
    ·exact .inl (.inr (.inl h))
    ·exact .inl (.inr (.inr h))
theorem Lvs.keep {w w':World} {B:Nat} {F F':Nat->Prop} (hF:zay F w w') (hFF:∀b,F b->F' b) {st:List Lv} {G G':Nat->Prop} {gs:List Nat} (h:Lvs w B F G st gs)
  (hg:∀b,b<w.heap.size->¬G b->w'.heap[b]?=w.heap[b]?) (hF':∀b,F' b->F b\/G b\/w.heap.size<=b) (hG':∀b,G' b->G b\/w.heap.size<=b):Lvs w' B F' G' st gs :=
 h.keep' hF hFF (fun b h1 h2 _=>hg b h1 h2) hF' hG'
theorem Lvs.len {w:World} {B:Nat} {F:Nat->Prop}:∀ {st:List Lv} {G:Nat->Prop} {gs:List Nat},Lvs w B F G st gs->gs.length=st.length
 | [],_,_,h=>by cases h;rfl
 | _::_,_,_,⟨_,_,_,_,h1,_,_,_,_,_,_,h8⟩=>by subst h1;simp [h8.len]
structure zaq (w0 w:World) (F G:Nat->Prop) (p:Nat) (a:Option Addr) (cap:Nat) (bs:List UInt8) (yo:Bool) (st:List Lv) (at_:Int) (gs:List Nat) (osl:Value):Prop where
 blk:w.heap[p]?=some (.cells #[.slice a bs.length cap,.int .i64 at_,.bool yo,osl] 160 (0,0))
 base:w0.heap.size<=p
 gp:¬G p
 own:w.ownsRow w0.heap.size 163 1 osl st.length (ptrs gs)
 go:∀b,osl.ownBlock=some b->¬G b
 lvs:Lvs w w0.heap.size F G st gs
 fb:∀b,F b->w0.heap.size<=b/\¬G b/\∃cs,w.heap[b]?=some (.cells cs 27 (0,0))
 gb:∀b,G b->w0.heap.size<=b/\b<w.heap.size
 bel:Below w0.heap.size w0 w
 row:Row w0 1 a bs.length cap (bs.map u8C)
 small:bs.length<=400000
 deep:st.length<=64
section
variable {w0 w w' : World} {F F' G G' : Nat -> Prop} {p : Nat} {a : Option Addr} {cap : Nat} {bs : List UInt8} {yo : Bool} {st : List Lv} {at_ : Int} {gs : List Nat} {osl : Value}
theorem zaq.lt (h:zaq w0 w F G p a cap bs yo st at_ gs osl):p<w.heap.size:=zaf h.blk
theorem zaq.frame' (h:zaq w0 w F G p a cap bs yo st at_ gs osl) (hk:zae G w w') (hG':∀b,G' b->G b\/(w.heap.size<=b/\b<w'.heap.size)) (hFF:∀b,F b->F' b) (hF':∀b,F' b->F b\/(w.heap.size<=b/\¬G' b/\∃cs,w'.heap[b]?=some (.cells cs 27 (0,0)))) :
  zaq w0 w' F' G' p a cap bs yo st at_ gs osl:=by
 have hsz:=h.bel.size
 have hp:=h.lt
 have hFl:∀b,F b->b<w.heap.size:=fun b hb=>by obtain ⟨_,_,cs,hc⟩:=h.fb b hb;exact zaf hc
 have hol:∀b,osl.ownBlock=some b->b<w.heap.size:=fun b hb=>(h.own.lt b hb).2
 refine ⟨by rw [hk.block p hp h.gp];exact h.blk,h.base,fun h1=>?_,zaA h.own fun b hb=>hk.block b (hol b hb) (h.go b hb),fun b hb h1=>?_,?_,fun b hb=>?_,fun b hb=>?_,?_,h.row,h.small,h.deep⟩
 ·rcases hG' p h1 with h1|h1
  ·exact h.gp h1
  ·omega
 ·rcases hG' b h1 with h1|h1
  ·exact h.go b hb h1
  ·have:=hol b hb;omega
 ·refine h.lvs.keep ⟨hk.size,fun b hb hf=>hk.block b hb (h.fb b hf).2.1⟩ hFF (fun b hb hn=>hk.block b hb hn) (fun b hb=>?_) (fun b hb=>?_)
  ·rcases hF' b hb with h1|h1
   ·exact .inl h1
   ·exact .inr (.inr h1.1)
  ·exact (hG' b hb).imp id fun h=>h.1
 ·rcases hF' b hb with h1|⟨h1,h2,h3⟩
  ·obtain ⟨h2,h3,cs,h4⟩:=h.fb b h1
   refine ⟨h2,fun h5=>?_,cs,by rw [hk.block b (hFl b h1) h3];exact h4⟩
   rcases hG' b h5 with h5|h5
   ·exact h3 h5
   ·have:=hFl b h1;omega
  ·exact ⟨by omega,h2,h3⟩
 ·have:=hk.size
  rcases hG' b hb with h1|h1
  ·have:=h.gb b h1;omega
  ·omega
 ·exact h.bel.trans ⟨hk.os,hk.tape,hk.output,hk.size,fun b hb=>hk.block b (by omega) (fun h1=>by have:=h.gb b h1;omega)⟩
theorem zaq.frame (h:zaq w0 w F G p a cap bs yo st at_ gs osl) (hk:zae G w w') (hG':∀b,G' b->G b\/(w.heap.size<=b/\b<w'.heap.size)):zaq w0 w' F G' p a cap bs yo st at_ gs osl :=
 h.frame' hk hG' (fun _ h=>h) (fun _ h=>.inl h)
theorem zaq.mono (h:zaq w0 w F G p a cap bs yo st at_ gs osl) (hb:Below w.heap.size w w'):zaq w0 w' F G p a cap bs yo st at_ gs osl :=
 h.frame ⟨hb.os,hb.tape,hb.output,hb.size,fun b h1 _=>hb.block b h1⟩ (fun _ h=>.inl h)
theorem zaq.cells (h:zaq w0 w F G p a cap bs yo st at_ gs osl):(w.cell? ⟨p,0,none⟩=some (.slice a bs.length cap)/\w.cell? ⟨p,1,none⟩=some (.int .i64 at_)/\w.cell? ⟨p,2,none⟩=some (.bool yo)/\w.cell? ⟨p,3,none⟩=some osl) /\
  (w.frozen? ⟨p,0,none⟩=false/\w.frozen? ⟨p,1,none⟩=false/\w.frozen? ⟨p,2,none⟩=false/\w.frozen? ⟨p,3,none⟩=false):=zaj h.blk
theorem zaq.notF (h:zaq w0 w F G p a cap bs yo st at_ gs osl) {b:Nat} (hb:F b):b≠p:=by obtain ⟨_,_,cs,hc⟩:=h.fb b hb;exact zaO hc h.blk (by decide)
theorem zaq.setAt (h:zaq w0 w F G p a cap bs yo st at_ gs osl) (at2:Int):zaq w0 (w.setCell ⟨p,1,none⟩ (.int .i64 at2)) F G p a cap bs yo st at2 gs osl:=by
 have hk:∀b,b≠p->(w.setCell ⟨p,1,none⟩ (.int .i64 at2)).heap[b]?=w.heap[b]?:=fun b hb=>heap_setCell_other _ _ _ _ hb
 have hs:(w.setCell ⟨p,1,none⟩ (.int .i64 at2)).heap.size=w.heap.size:=by simp [World.setCell]
 have hl:∀ {st:List Lv} {G:Nat->Prop} {gs:List Nat},Lvs w w0.heap.size F G st gs->Lvs (w.setCell ⟨p,1,none⟩ (.int .i64 at2)) w0.heap.size F G st gs:=by
  intro st
  induction st with
  | nil=>exact fun h=>h
  | cons v st ih =>
   rintro G gs ⟨g,t,sl,cs,h1,h2,h3,h4,h5,h6,h7,h8⟩
   exact ⟨g,t,sl,cs,h1,h2,h3,by rw [hk g (zaO h4 h.blk (by decide))];exact h4,zaA h5 fun b hb=>hk b (by obtain ⟨cs,hc⟩:=zaB h5 hb;exact zaO hc h.blk (by decide)),
    IsVs.keep ⟨by omega,fun b _ hb=>hk b (h.notF hb)⟩ (fun _ h=>h) _ h6,h7,ih h8⟩
 exact ⟨heap_setCell_same w p 1 _ _ _ h.blk,h.base,h.gp,zaA h.own fun b hb=>hk b (by obtain ⟨cs,hc⟩:=zaB h.own hb;exact zaO hc h.blk (by decide)),h.go,hl h.lvs,fun b hb=>by
  obtain ⟨h1,h2,cs,h3⟩:=h.fb b hb
  exact ⟨h1,h2,cs,by rw [hk b (h.notF hb)];exact h3⟩,fun b hb=>by rw [hs];exact h.gb b hb,h.bel.trans ((Below.refl _ _).setCell h.base _),h.row,h.small,h.deep⟩
theorem zaq.drewN (h:zaq w0 w F G p a cap bs yo st at_ gs osl) (q:Nat):zaq w0 (w.drewN q) F G p a cap bs yo st at_ gs osl:=h.mono (zad (Below.refl _ _) q)
theorem zaq.alloc (h:zaq w0 w F G p a cap bs yo st at_ gs osl) (o:Obj):zaq w0 (w.alloc o) F G p a cap bs yo st at_ gs osl:=h.mono (zag w o)
theorem zaq.bytes (h:zaq w0 w F G p a cap bs yo st at_ gs osl):Row w 1 a bs.length cap (bs.map u8C):=h.row.mono h.bel
theorem zaq.res (h:zaq w0 w F G p a cap bs yo st at_ gs osl) (hb:Below w.heap.size w w') (hG':∀b,G' b->G b\/(w.heap.size<=b/\b<w'.heap.size)):zaq w0 w' F G' p a cap bs yo st at_ gs osl :=
 h.frame ⟨hb.os,hb.tape,hb.output,hb.size,fun b h1 _=>hb.block b h1⟩ hG'
theorem zaq.set (h:zaq w0 w F G p a cap bs yo st at_ gs osl) {r:Nat} (hr:G r) (i:Nat) (v:Value):zaq w0 (w.setCell ⟨r,i,none⟩ v) F G p a cap bs yo st at_ gs osl :=
 h.frame ((zae.refl G w).setCell (a:=⟨r,i,none⟩) (.inl hr) v) (fun _ h=>.inl h)
theorem zaq.set8 (h:zaq w0 w F G p a cap bs yo st at_ gs osl) {r:Nat} (hr:G r) (y0 y1 y2 y3 y4 y5 y6 y7:Value) :
  zaq w0 ((((((((w.setCell ⟨r,0,none⟩ y0).setCell ⟨r,1,none⟩ y1).setCell ⟨r,2,none⟩ y2).setCell ⟨r,3,none⟩ y3).setCell ⟨r,4,none⟩ y4).setCell ⟨r,5,none⟩ y5).setCell ⟨r,6,none⟩ y6).setCell ⟨r,7,none⟩ y7) F G p a cap bs yo st at_ gs osl :=
 (((((((h.set hr _ _).set hr _ _).set hr _ _).set hr _ _).set hr _ _).set hr _ _).set hr _ _).set hr _ _
theorem zaq.set4 (h:zaq w0 w F G p a cap bs yo st at_ gs osl) {r:Nat} (hr:G r) (y0 y1 y2 y3:Value) :
  zaq w0 ((((w.setCell ⟨r,0,none⟩ y0).setCell ⟨r,1,none⟩ y1).setCell ⟨r,2,none⟩ y2).setCell ⟨r,3,none⟩ y3) F G p a cap bs yo st at_ gs osl :=
 (((h.set hr _ _).set hr _ _).set hr _ _).set hr _ _
theorem zaq.give (h:zaq w0 w F G p a cap bs yo st at_ gs osl) (hG:∀b,G' b->G b):zaq w0 w F G' p a cap bs yo st at_ gs osl:=h.frame (zae.refl G w) fun b hb=>.inl (hG b hb)
end
theorem zar {w w':World} {S:Nat->Prop} (h:Below w.heap.size w w'):zae S w w':=⟨h.os,h.tape,h.output,h.size,fun b hb _=>h.block b hb⟩
section
variable {w0 w w' : World} {F G : Nat -> Prop} {p : Nat} {a : Option Addr} {cap : Nat} {bs : List UInt8} {yo : Bool} {st : List Lv} {at_ : Int}
def Stk (w0 w:World) (F G:Nat->Prop) (p:Nat) (a:Option Addr) (cap:Nat) (bs:List UInt8) (yo:Bool) (st:List Lv) (at_:Int):Prop:=∃gs osl,zaq w0 w F G p a cap bs yo st at_ gs osl
structure Nxt (w0 w:World) (F G:Nat->Prop) (p:Nat) (a:Option Addr) (cap:Nat) (bs:List UInt8) (yo:Bool) (st:List Lv) (at_:Int) (F':Nat->Prop) (w':World):Prop where
 stk:Stk w0 w' F' G p a cap bs yo st at_
 sg:zay G w w'
 sf:zay F w w'
 ff:∀b,F b->F' b
end
section
variable {w w' : World} {p q u o0 o1 o2 r : Nat} {x0 x1 x2 : Value}
def S3 (w:World) (p o0:Nat) (x0:Value) (q o1:Nat) (x1:Value) (u o2:Nat) (x2:Value):Prop:=w.cell? ⟨p,o0,none⟩=some x0/\w.cell? ⟨q,o1,none⟩=some x1/\w.cell? ⟨u,o2,none⟩=some x2
theorem S3.below (h:S3 w p o0 x0 q o1 x1 u o2 x2) (hb:Below w.heap.size w w'):S3 w' p o0 x0 q o1 x1 u o2 x2:=⟨cell?_keep hb h.1,cell?_keep hb h.2.1,cell?_keep hb h.2.2⟩
theorem S3.alloc (h:S3 w p o0 x0 q o1 x1 u o2 x2) (o:Obj):S3 (w.alloc o) p o0 x0 q o1 x1 u o2 x2:=h.below (zag w o)
theorem S3.drew (h:S3 w p o0 x0 q o1 x1 u o2 x2):S3 w.drew p o0 x0 q o1 x1 u o2 x2:=h
theorem S3.set8 (h:S3 w p o0 x0 q o1 x1 u o2 x2) (hp:p≠r) (hq:q≠r) (hu:u≠r) (y0 y1 y2 y3 y4 y5 y6 y7:Value) :
  S3 ((((((((w.setCell ⟨r,0,none⟩ y0).setCell ⟨r,1,none⟩ y1).setCell ⟨r,2,none⟩ y2).setCell ⟨r,3,none⟩ y3).setCell ⟨r,4,none⟩ y4).setCell ⟨r,5,none⟩ y5).setCell ⟨r,6,none⟩ y6).setCell ⟨r,7,none⟩ y7) p o0 x0 q o1 x1 u o2 x2 :=
 ⟨(zb6 hp _ _ _ _ _ _ _ _ _).trans h.1,(zb6 hq _ _ _ _ _ _ _ _ _).trans h.2.1,(zb6 hu _ _ _ _ _ _ _ _ _).trans h.2.2⟩
end
structure TkM (w W:World) (r:Nat) (cs:Array Value):Prop where
 bel:Below w.heap.size w W
 blk:W.heap[r]?=some (.cells cs 150 (0,0))
 new:w.heap.size<=r
section
variable {w0 w w' : World} {F F' G : Nat -> Prop} {p : Nat} {a : Option Addr} {cap : Nat} {bs : List UInt8} {yo : Bool} {st : List Lv} {at_ : Int} {gs : List Nat} {osl : Value}
theorem pnext_any (h:zaq w0 w F G p a cap bs yo st at_ gs osl):Calls Tryz.prog 81 #[.pointer (some ⟨p,0,none⟩)] w fun e w' =>
  e=.returned (.tuple #[.agg (tokN (zah bs at_ yo).1 (zah bs at_ yo).2.1 (zah bs at_ yo).2.2.1),.int .i64 (zah bs at_ yo).2.2.2]) /\
  zaq w0 w' F G p a cap bs yo st (if (zah bs at_ yo).2.2.2=0 then (zah bs at_ yo).2.2.1 else at_) gs osl/\zae (fun b=>b=p) w w':=by
 have HN:=ya (fun (W:World) (hb:Below w.heap.size w W)=>zdb (h.bytes.mono hb) h.small at_ yo)
 generalize zah bs at_ yo=V at *
 unfold zdL tokN at HN
 obtain ⟨x,f,t,er⟩:=V
 simp only at HN |-
 unfold tokN
 generalize x.kind=a0 at *
 generalize x.vk=a1 at *
 generalize x.vn=a2 at *
 generalize mkB x.vs=s1 at *
 generalize mkB x.s=s2 at *
 have HS:=ya h
 have hpw:=h.lt
 clear h
 go_enter Tryz.func81,Tryz.ntmps81
 go_wp2
 have HB1:=ya (zag w (.cells #[.int .i64 0,.int .i64 0,.int .i64 0,.int .i64 0,.int .i64 0,.string ⟨#[]⟩,.slice none 0 0,.string ⟨#[]⟩] 150))
 have HS1:=ya (HS.out.mono HB1.out)
 have HR1:=ya (zac (w:=w) (b:=w.heap.size) (.cells #[.int .i64 0,.int .i64 0,.int .i64 0,.int .i64 0,.int .i64 0,.string ⟨#[]⟩,.slice none 0 0,.string ⟨#[]⟩] 150) rfl)
 generalize w.alloc _=W1 at *
 obtain ⟨r,hr⟩:∃r,r=w.heap.size:=⟨_,rfl⟩
 have hpr0:p≠r:=by omega
 rw [<-hr] at HR1 |-
 have HRR:=ya hr
 clear hr hpw
 obtain ⟨⟨c0,c1,c2,c3⟩,f0,f1,f2,f3⟩:=HS1.out.cells
 have HA1:=ya (fun o:Obj=>(zag W1 o).drew)
 have HA2:=ya (fun o:Obj=>HB1.out.trans ((HA1.out o).mono (show w.heap.size<=W1.heap.size from HB1.out.size)))
 have HC0:Hid (S3 W1 p 0 (.slice a bs.length cap) p 1 (.int .i64 at_) p 2 (.bool yo)):=ya ⟨c0,c1,c2⟩
 have hpr:p≠W1.heap.size:=Nat.ne_of_lt HS1.out.lt
 have HR1L:=ya (show r<W1.heap.size from zaf HR1.out)
 go_region_held3 (fun w'=>w'.cell? ⟨p,0,none⟩=some (.slice a bs.length cap)/\w'.cell? ⟨p,1,none⟩=some (.int .i64 at_)/\w'.cell? ⟨p,2,none⟩=some (.bool yo))
  ((show S3 _ p 0 (.slice a bs.length cap) p 1 (.int .i64 at_) p 2 (.bool yo);(first
   |(with_reducible exact HC0.out.drew)
   |(with_reducible exact HC0.out)
   |(with_reducible exact (HC0.out.alloc _).drew)
   |(with_reducible exact Hid.out (by assumption))
   |(with_reducible exact S3.alloc (Hid.out (by assumption)) _)
   |(with_reducible exact S3.set8 (Hid.out (by assumption)) hpr hpr hpr _ _ _ _ _ _ _ _))))
  ((go_at_call 115;first
   |((with_reducible refine (HN.out _ HB1.out.drew).mono ?_);rintro e wN ⟨rfl,hbN⟩;have hbM:Below W1.heap.size W1 wN:=(Below.refl _ _).drew.trans hbN;have HSN:=ya (HC0.out.below hbM))
   |((with_reducible refine (HN.out _ (HA2.out _)).mono ?_);rintro e wN ⟨rfl,hbN⟩;have hbM:Below W1.heap.size W1 wN:=(HA1.out _).trans (hbN.mono (HA1.out _).size);have HSN:=ya (HC0.out.below hbM);have HZ:=ya (zaa hbN (zac (w:=W1) (b:=W1.heap.size) (.cells #[.int .i64 0,.int .i64 0,.int .i64 0,.int .i64 0,.int .i64 0,.string ⟨#[]⟩,.slice none 0 0,.string ⟨#[]⟩] 150) rfl));obtain ⟨⟨z0,z1,z2,z3,z4,z5,z6,z7⟩,y0,y1,y2,y3,y4,y5,y6,y7⟩:=zao HZ.out)))
 all_goals
  first
   |(obtain ⟨W2,hW2⟩:∃W2,W2=wN.alloc (.cells #[.int .i64 a0,.int .i64 f,.int .i64 t,.int .i64 a1,.int .i64 a2,.string s1,.slice none 0 0,.string s2] 150):=⟨_,rfl⟩
     rw [<-hW2]
     have HT:=ya (show TkM W1 W2 wN.heap.size #[.int .i64 a0,.int .i64 f,.int .i64 t,.int .i64 a1,.int .i64 a2,.string s1,.slice none 0 0,.string s2] from ⟨by rw [hW2];exact hbM.alloc hbM.size _,by rw [hW2];exact zac _ rfl,hbM.size⟩)
     obtain ⟨r2,hr2⟩:∃r2,r2=wN.heap.size:=⟨_,rfl⟩
     rw [<-hr2] at HT |-)
   |(obtain ⟨W2,hW2⟩:∃W2,W2=((((((((wN.setCell ⟨W1.heap.size,0,none⟩ (.int .i64 a0)).setCell ⟨W1.heap.size,1,none⟩ (.int .i64 f)).setCell ⟨W1.heap.size,2,none⟩ (.int .i64 t)).setCell ⟨W1.heap.size,3,none⟩ (.int .i64 a1)).setCell ⟨W1.heap.size,4,none⟩ (.int .i64 a2)).setCell ⟨W1.heap.size,5,none⟩ (.string s1)).setCell ⟨W1.heap.size,6,none⟩ (.slice none 0 0)).setCell ⟨W1.heap.size,7,none⟩ (.string s2)):=⟨_,rfl⟩
     rw [<-hW2]
     have HT:=ya (show TkM W1 W2 W1.heap.size #[.int .i64 a0,.int .i64 f,.int .i64 t,.int .i64 a1,.int .i64 a2,.string s1,.slice none 0 0,.string s2] from ⟨by rw [hW2];exact zaZ hbM (ym _) _ _ _ _ _ _ _ _,by rw [hW2];exact set8 HZ.out _ _ _ _ _ _ _ _,ym _⟩)
     clear z0 z1 z2 z3 z4 z5 z6 z7 y0 y1 y2 y3 y4 y5 y6 y7 HZ
     obtain ⟨r2,hr2⟩:∃r2,r2=W1.heap.size:=⟨_,rfl⟩
     rw [<-hr2] at HT |-)
  clear hW2 hr2 hbN hbM HSN
  have HS2:=ya (HS1.out.mono HT.out.bel)
  have HR2:=ya (zaa HT.out.bel HR1.out)
  have hp2:p≠r2:=by have:=HT.out.new;have:=HS1.out.lt;omega
  have hr22:r≠r2:=by have:=HT.out.new;have:=HR1L.out;omega
  have HB2:=ya (HB1.out.trans (HT.out.bel.mono HB1.out.size))
  clear c0 c1 c2 c3 f0 f1 f2 f3 hpr
  obtain ⟨⟨c0,c1,c2,c3⟩,f0,f1,f2,f3⟩:=HS2.out.cells
  obtain ⟨⟨k0,k1,k2,k3,k4,k5,k6,k7⟩,m0,m1,m2,m3,m4,m5,m6,m7⟩:=zao HT.out.blk
  obtain ⟨⟨g0,g1,g2,g3,g4,g5,g6,g7⟩,l0,l1,l2,l3,l4,l5,l6,l7⟩:=zao HR2.out
  by_cases her:er=0
  ·subst her
   go_wp2
   refine yh (zab rfl _ _ r 150 _ (0,0) _ rfl (set8 ((heap_setCell_other _ _ _ _ (Ne.symm hpr0)).trans HR2.out) _ _ _ _ _ _ _ _) Tryz.underlying150 rfl zat _ rfl) rfl ?_
   refine ⟨rfl,?_,?_⟩
   ·exact (((HS.out.res (G':=fun b=>G b\/b=r) HB2.out (fun b hb=>hb.imp id fun e=>by rw [e];exact ⟨Nat.le_of_eq HRR.out.symm,zaf HR2.out⟩)).setAt t).set8 (.inr rfl) _ _ _ _ _ _ _ _).give fun b hb=>.inl hb
   ·exact za0 (zae.setCell (S:=fun b=>b=p) (a:=⟨p,1,none⟩) (zar HB2.out) (.inl rfl) _) (Nat.le_of_eq HRR.out.symm) _ _ _ _ _ _ _ _
  ·have e1:(er==0)=false:=by rw [ye];exact her
   go_wp2
   refine yh (zab rfl _ _ r 150 _ (0,0) _ rfl (set8 HR2.out _ _ _ _ _ _ _ _) Tryz.underlying150 rfl zat _ rfl) rfl ?_
   refine ⟨rfl,?_,?_⟩
   ·exact ((HS.out.res (G':=fun b=>G b\/b=r) HB2.out (fun b hb=>hb.imp id fun e=>by rw [e];exact ⟨Nat.le_of_eq HRR.out.symm,zaf HR2.out⟩)).set8 (.inr rfl) _ _ _ _ _ _ _ _).give fun b hb=>.inl hb
   ·exact za0 (zar HB2.out) (Nat.le_of_eq HRR.out.symm) _ _ _ _ _ _ _ _
def topP:List Nat->Option Addr
 | []=>none
 | g::_=>some ⟨g,0,none⟩
theorem zgw (h:zaq w0 w F G p a cap bs yo st at_ gs osl):Calls Tryz.prog 83 #[.pointer (some ⟨p,0,none⟩)] w fun e w'=>e=.returned (.pointer (topP gs))/\∃q,w'=w.drewN q:=by
 have hl:=h.lvs.len
 have hd:=h.deep
 obtain ⟨ao,oc,rfl,hro,-⟩:=Row.of_owns h.own
 obtain ⟨⟨c0,c1,c2,c3⟩,f0,f1,f2,f3⟩:=h.cells
 cases gs with
 | nil =>
  have h0:st.length=0:=by simpa using hl.symm
  rw [h0] at c3
  clear hl hro h h0 hd
  go_enter Tryz.func83,Tryz.ntmps83
  go_wp2
  go_ret
  exact ⟨rfl,0,rfl⟩
 | cons g t =>
  have h0:st.length=t.length+1:=by simpa using hl.symm
  rw [h0] at hro c3 hd
  obtain ⟨b,off,rfl,hb,hc⟩:=hro.2.2.2.2 (by omega)
  have hcell:=hc t.length (.pointer (some ⟨g,0,none⟩)) (by simp [ptrs])
  have hce:decide (t.length+1=0)=false:=by simp
  have hci:((t.length:Int)+1==0)=false:=by rw [ye];omega
  have h1:(0:Int)<=(t.length:Int)+1-1:=by omega
  have h2:((t.length:Int)+1-1).toNat=t.length:=by omega
  have h3:IntKind.i64.wrap ((t.length:Int)+1-1)=(t.length:Int):=by rw [IntWalk.i64_in _ (by omega)];omega
  have h4:(t.length:Int)<(t.length:Int)+1:=by omega
  have h5:(0:Int)<=(t.length:Int):=by omega
  have h6:((t.length:Int)).toNat=t.length:=by omega
  clear hc hro hl h h0
  unfold topP
  generalize t.length=n at *
  go_enter Tryz.func83,Tryz.ntmps83
  go_wp2
  go_quiet (fail)
  go_wp2
  go_ret
  exact ⟨rfl,_,rfl⟩
end
structure IsRd (w0 w:World) (p:Nat) (a:Option Addr) (cap:Nat) (bs:List UInt8) (yo:Bool) (at_:Int):Prop where
 blk:w.heap[p]?=some (.cells #[.slice a bs.length cap,.int .i64 at_,.bool yo] 103 (0,0))
 new:w0.heap.size<=p
 row:Row w0 1 a bs.length cap (bs.map u8C)
 bel:Below w0.heap.size w0 w
 small:bs.length<=400000
theorem set3 {w:World} {b:Nat} {x0 x1 x2:Value} {t:TypeId} (h:w.heap[b]?=some (.cells #[x0,x1,x2] t (0,0))) (y:Value):(w.setCell ⟨b,1,none⟩ y).heap[b]?=some (.cells #[x0,y,x2] t (0,0)):=by
 rw [heap_setCell_same w b 1 _ _ _ h];rfl
section
variable {w0 w w' : World} {p : Nat} {a : Option Addr} {cap : Nat} {bs : List UInt8} {yo : Bool} {at_ : Int}
theorem IsRd.lt (h:IsRd w0 w p a cap bs yo at_):p<w.heap.size:=zaf h.blk
theorem IsRd.mono (h:IsRd w0 w p a cap bs yo at_) (hb:Below w.heap.size w w'):IsRd w0 w' p a cap bs yo at_ :=
 ⟨zaa hb h.blk,h.new,h.row,h.bel.trans (hb.mono h.bel.size),h.small⟩
theorem IsRd.bytes (h:IsRd w0 w p a cap bs yo at_):Row w 1 a bs.length cap (bs.map u8C):=h.row.mono h.bel
theorem IsRd.cells (h:IsRd w0 w p a cap bs yo at_):(w.cell? ⟨p,0,none⟩=some (.slice a bs.length cap)/\w.cell? ⟨p,1,none⟩=some (.int .i64 at_)/\w.cell? ⟨p,2,none⟩=some (.bool yo)) /\
  w.frozen? ⟨p,0,none⟩=false/\w.frozen? ⟨p,1,none⟩=false/\w.frozen? ⟨p,2,none⟩=false :=
 ⟨⟨by rw [cell_of_row _ _ _ _ _ _ h.blk];rfl,by rw [cell_of_row _ _ _ _ _ _ h.blk];rfl,by rw [cell_of_row _ _ _ _ _ _ h.blk];rfl⟩,frozen_of_row _ _ _ _ _ h.blk,frozen_of_row _ _ _ _ _ h.blk,frozen_of_row _ _ _ _ _ h.blk⟩
theorem IsRd.setAt (h:IsRd w0 w p a cap bs yo at_) (at2:Int):IsRd w0 (w.setCell ⟨p,1,none⟩ (.int .i64 at2)) p a cap bs yo at2 :=
 ⟨set3 h.blk _,h.new,h.row,h.bel.setCell h.new _,h.small⟩
theorem IsRd.set8 (h:IsRd w0 w p a cap bs yo at_) {r:Nat} (hr:p≠r) (h0:w0.heap.size<=r) (y0 y1 y2 y3 y4 y5 y6 y7:Value) :
  IsRd w0 ((((((((w.setCell ⟨r,0,none⟩ y0).setCell ⟨r,1,none⟩ y1).setCell ⟨r,2,none⟩ y2).setCell ⟨r,3,none⟩ y3).setCell ⟨r,4,none⟩ y4).setCell ⟨r,5,none⟩ y5).setCell ⟨r,6,none⟩ y6).setCell ⟨r,7,none⟩ y7) p a cap bs yo at_ :=
 ⟨(zfO hr _ _ _ _ _ _ _ _).trans h.blk,h.new,h.row,zaZ h.bel h0 _ _ _ _ _ _ _ _,h.small⟩
theorem nxt_1 (bs:List UInt8) (yo:Bool) (k:Int):(nxtV bs yo k).1=(zah bs k yo).1:=by unfold nxtV;split<;>rfl
theorem nxt_2 (bs:List UInt8) (yo:Bool) (k:Int):(nxtV bs yo k).2.1=(zah bs k yo).2.1:=by unfold nxtV;split<;>rfl
theorem nxt_3 (bs:List UInt8) (yo:Bool) (k:Int):(nxtV bs yo k).2.2.1=(zah bs k yo).2.2.1:=by unfold nxtV;split<;>rfl
def nxE (V:Tk×Int×Int×Int):Int:=if V.2.2.2=0/\V.1.kind=0 then 10 else V.2.2.2
theorem nxt_4 (bs:List UInt8) (yo:Bool) (k:Int):(nxtV bs yo k).2.2.2=nxE (zah bs k yo):=by unfold nxtV nxE;split<;>rfl
theorem ze1 (h:IsRd w0 w p a cap bs yo at_):Calls Tryz.prog 78 #[.pointer (some ⟨p,0,none⟩)] w fun e w' =>
  e=.returned (.tuple #[.agg (tokN (nxtV bs yo at_).1 (nxtV bs yo at_).2.1 (nxtV bs yo at_).2.2.1),.int .i64 (nxtV bs yo at_).2.2.2]) /\
  IsRd w0 w' p a cap bs yo (if (nxtV bs yo at_).2.2.2=0 then (nxtV bs yo at_).2.2.1 else at_)/\zae (fun b=>b=p) w w':=by
 have HN:=ya (fun (W:World) (hb:Below w.heap.size w W)=>zdb (h.bytes.mono hb) h.small at_ yo)
 rw [nxt_1,nxt_2,nxt_3,nxt_4]
 generalize zah bs at_ yo=V at *
 unfold zdL tokN at HN
 obtain ⟨x,f,t,er⟩:=V
 simp only at HN |-
 unfold tokN nxE
 simp only
 generalize x.kind=a0 at *
 obtain ⟨E,hE⟩:∃E,E=(if er=0/\a0=0 then (10:Int) else er):=⟨_,rfl⟩
 rw [<-hE]
 obtain ⟨A,hA⟩:∃A,A=(if E=0 then t else at_):=⟨_,rfl⟩
 rw [<-hA]
 have HEE:=ya hE
 have HAA:=ya hA
 clear hE hA
 generalize x.vk=a1 at *
 generalize x.vn=a2 at *
 generalize mkB x.vs=s1 at *
 generalize mkB x.s=s2 at *
 have HS:=ya h
 have hpw:=h.lt
 clear h
 go_enter Tryz.func78,Tryz.ntmps78
 go_wp2
 have HB1:=ya (zag w (.cells #[.int .i64 0,.int .i64 0,.int .i64 0,.int .i64 0,.int .i64 0,.string ⟨#[]⟩,.slice none 0 0,.string ⟨#[]⟩] 150))
 have HS1:=ya (HS.out.mono HB1.out)
 have HR1:=ya (zac (w:=w) (b:=w.heap.size) (.cells #[.int .i64 0,.int .i64 0,.int .i64 0,.int .i64 0,.int .i64 0,.string ⟨#[]⟩,.slice none 0 0,.string ⟨#[]⟩] 150) rfl)
 generalize w.alloc _=W1 at *
 obtain ⟨r,hr⟩:∃r,r=w.heap.size:=⟨_,rfl⟩
 have hpr0:p≠r:=by omega
 rw [<-hr] at HR1 |-
 have HRR:=ya hr
 clear hr hpw
 obtain ⟨⟨c0,c1,c2⟩,f0,f1,f2⟩:=HS1.out.cells
 have HA1:=ya (fun o:Obj=>(zag W1 o).drew)
 have HA2:=ya (fun o:Obj=>HB1.out.trans ((HA1.out o).mono (show w.heap.size<=W1.heap.size from HB1.out.size)))
 have HC0:Hid (S3 W1 p 0 (.slice a bs.length cap) p 1 (.int .i64 at_) p 2 (.bool yo)):=ya ⟨c0,c1,c2⟩
 have hpr:p≠W1.heap.size:=Nat.ne_of_lt HS1.out.lt
 have HR1L:=ya (show r<W1.heap.size from zaf HR1.out)
 go_region_held3 (fun w'=>w'.cell? ⟨p,0,none⟩=some (.slice a bs.length cap)/\w'.cell? ⟨p,1,none⟩=some (.int .i64 at_)/\w'.cell? ⟨p,2,none⟩=some (.bool yo))
  ((show S3 _ p 0 (.slice a bs.length cap) p 1 (.int .i64 at_) p 2 (.bool yo);(first
   |(with_reducible exact HC0.out.drew)
   |(with_reducible exact HC0.out)
   |(with_reducible exact (HC0.out.alloc _).drew)
   |(with_reducible exact Hid.out (by assumption))
   |(with_reducible exact S3.alloc (Hid.out (by assumption)) _)
   |(with_reducible exact S3.set8 (Hid.out (by assumption)) hpr hpr hpr _ _ _ _ _ _ _ _))))
  ((go_at_call 115;first
   |((with_reducible refine (HN.out _ HB1.out.drew).mono ?_);rintro e wN ⟨rfl,hbN⟩;have hbM:Below W1.heap.size W1 wN:=(Below.refl _ _).drew.trans hbN;have HSN:=ya (HC0.out.below hbM))
   |((with_reducible refine (HN.out _ (HA2.out _)).mono ?_);rintro e wN ⟨rfl,hbN⟩;have hbM:Below W1.heap.size W1 wN:=(HA1.out _).trans (hbN.mono (HA1.out _).size);have HSN:=ya (HC0.out.below hbM);have HZ:=ya (zaa hbN (zac (w:=W1) (b:=W1.heap.size) (.cells #[.int .i64 0,.int .i64 0,.int .i64 0,.int .i64 0,.int .i64 0,.string ⟨#[]⟩,.slice none 0 0,.string ⟨#[]⟩] 150) rfl));obtain ⟨⟨z0,z1,z2,z3,z4,z5,z6,z7⟩,y0,y1,y2,y3,y4,y5,y6,y7⟩:=zao HZ.out)))
 all_goals
  first
   |(obtain ⟨W2,hW2⟩:∃W2,W2=wN.alloc (.cells #[.int .i64 a0,.int .i64 f,.int .i64 t,.int .i64 a1,.int .i64 a2,.string s1,.slice none 0 0,.string s2] 150):=⟨_,rfl⟩
     rw [<-hW2]
     have HT:=ya (show TkM W1 W2 wN.heap.size #[.int .i64 a0,.int .i64 f,.int .i64 t,.int .i64 a1,.int .i64 a2,.string s1,.slice none 0 0,.string s2] from ⟨by rw [hW2];exact hbM.alloc hbM.size _,by rw [hW2];exact zac _ rfl,hbM.size⟩)
     obtain ⟨r2,hr2⟩:∃r2,r2=wN.heap.size:=⟨_,rfl⟩
     rw [<-hr2] at HT |-)
   |(obtain ⟨W2,hW2⟩:∃W2,W2=((((((((wN.setCell ⟨W1.heap.size,0,none⟩ (.int .i64 a0)).setCell ⟨W1.heap.size,1,none⟩ (.int .i64 f)).setCell ⟨W1.heap.size,2,none⟩ (.int .i64 t)).setCell ⟨W1.heap.size,3,none⟩ (.int .i64 a1)).setCell ⟨W1.heap.size,4,none⟩ (.int .i64 a2)).setCell ⟨W1.heap.size,5,none⟩ (.string s1)).setCell ⟨W1.heap.size,6,none⟩ (.slice none 0 0)).setCell ⟨W1.heap.size,7,none⟩ (.string s2)):=⟨_,rfl⟩
     rw [<-hW2]
     have HT:=ya (show TkM W1 W2 W1.heap.size #[.int .i64 a0,.int .i64 f,.int .i64 t,.int .i64 a1,.int .i64 a2,.string s1,.slice none 0 0,.string s2] from ⟨by rw [hW2];exact zaZ hbM (ym _) _ _ _ _ _ _ _ _,by rw [hW2];exact set8 HZ.out _ _ _ _ _ _ _ _,ym _⟩)
     clear z0 z1 z2 z3 z4 z5 z6 z7 y0 y1 y2 y3 y4 y5 y6 y7 HZ
     obtain ⟨r2,hr2⟩:∃r2,r2=W1.heap.size:=⟨_,rfl⟩
     rw [<-hr2] at HT |-)
  clear hW2 hr2 hbN hbM HSN
  have HS2:=ya (HS1.out.mono HT.out.bel)
  have HR2:=ya (zaa HT.out.bel HR1.out)
  have hp2:p≠r2:=by have:=HT.out.new;have:=HS1.out.lt;omega
  have hr22:r≠r2:=by have:=HT.out.new;have:=HR1L.out;omega
  have HB2:=ya (HB1.out.trans (HT.out.bel.mono HB1.out.size))
  clear c0 c1 c2 f0 f1 f2 hpr
  obtain ⟨⟨c0,c1,c2⟩,f0,f1,f2⟩:=HS2.out.cells
  obtain ⟨⟨k0,k1,k2,k3,k4,k5,k6,k7⟩,m0,m1,m2,m3,m4,m5,m6,m7⟩:=zao HT.out.blk
  obtain ⟨⟨g0,g1,g2,g3,g4,g5,g6,g7⟩,l0,l1,l2,l3,l4,l5,l6,l7⟩:=zao HR2.out
  have h0r:=Nat.le_trans HS.out.bel.size (Nat.le_of_eq HRR.out.symm)
  by_cases her:er=0
  ·subst her
   by_cases hk0:a0=0
   ·subst hk0
    obtain rfl:E=10:=by rw [HEE.out,yf ⟨rfl,rfl⟩]
    obtain rfl:at_=A:=by rw [HAA.out,yg (by decide)]
    go_wp2
    refine yh (zab rfl _ _ r 150 _ (0,0) _ rfl (set8 HR2.out _ _ _ _ _ _ _ _) Tryz.underlying150 rfl zat _ rfl) rfl ?_
    refine ⟨rfl,?_,?_⟩
    ·exact HS2.out.set8 hpr0 h0r _ _ _ _ _ _ _ _
    ·exact za0 (zar HB2.out) (Nat.le_of_eq HRR.out.symm) _ _ _ _ _ _ _ _
   ·have hk1:(a0==0)=false:=by rw [ye];exact hk0
    obtain rfl:E=0:=by rw [HEE.out,yg (fun h=>hk0 h.2)]
    obtain rfl:t=A:=by rw [HAA.out,yf rfl]
    go_wp2
    refine yh (zab rfl _ _ r 150 _ (0,0) _ rfl (set8 ((heap_setCell_other _ _ _ _ (Ne.symm hpr0)).trans HR2.out) _ _ _ _ _ _ _ _) Tryz.underlying150 rfl zat _ rfl) rfl ?_
    refine ⟨rfl,?_,?_⟩
    ·exact (HS2.out.setAt t).set8 hpr0 h0r _ _ _ _ _ _ _ _
    ·exact za0 (zae.setCell (S:=fun b=>b=p) (a:=⟨p,1,none⟩) (zar HB2.out) (.inl rfl) _) (Nat.le_of_eq HRR.out.symm) _ _ _ _ _ _ _ _
  ·have e1:(er==0)=false:=by rw [ye];exact her
   obtain rfl:er=E:=by rw [HEE.out,yg (fun h=>her h.1)]
   obtain rfl:at_=A:=by rw [HAA.out,yg her]
   go_wp2
   refine yh (zab rfl _ _ r 150 _ (0,0) _ rfl (set8 HR2.out _ _ _ _ _ _ _ _) Tryz.underlying150 rfl zat _ rfl) rfl ?_
   refine ⟨rfl,?_,?_⟩
   ·exact HS2.out.set8 hpr0 h0r _ _ _ _ _ _ _ _
   ·exact za0 (zar HB2.out) (Nat.le_of_eq HRR.out.symm) _ _ _ _ _ _ _ _
end
def entC (e:Ent):List Value:=[.int .i64 e.at_,.int .i64 e.gen,.bool e.used]
def zbY (l:List Ent):List Value:=l.flatMap entC
def entA (e:Ent):Value:=.agg #[.int .i64 e.at_,.int .i64 e.gen,.bool e.used]
theorem zdV (l m:List Ent):zbY (l++m)=zbY l++zbY m:=by simp [zbY]
theorem entsC_get:∀(l:List Ent) (k:Nat) (e:Ent),l[k]?=some e->(zbY l)[k*3]?=some (.int .i64 e.at_)/\(zbY l)[k*3+1]?=some (.int .i64 e.gen)/\(zbY l)[k*3+2]?=some (.bool e.used)
 | [],k,e,h=>by simp at h
 | x::l,0,e,h=>by
  simp at h;subst h
  exact ⟨rfl,rfl,rfl⟩
 | x::l,k+1,e,h=>by
  obtain ⟨h1,h2,h3⟩:=entsC_get l k e (by simpa using h)
  have hx:zbY (x::l)=.int .i64 x.at_::.int .i64 x.gen::.bool x.used::zbY l:=rfl
  rw [hx,show (k+1)*3=k*3+1+1+1 by omega]
  simp only [List.getElem?_cons_succ]
  exact ⟨h1,h2,h3⟩
def IsE (w:World) (F:Nat->Prop) (es:List Ent) (v:Value):Prop:=∃a cap,v=.slice a es.length cap/\Row w 3 a es.length cap (zbY es)/\(0<es.length->∀x,a=some x->F x.block)
def IsGs (w:World) (F:Nat->Prop):List Grp->List Value->Prop
 | [],cs=>cs=[]
 | g::gs,cs=>∃v t,cs=.int .i64 g.first::v::t/\IsE w F g.es v/\IsGs w F gs t
def IsG (w:World) (F:Nat->Prop) (gs:List Grp) (v:Value):Prop:=∃a cap cs,v=.slice a gs.length cap/\Row w 2 a gs.length cap cs/\(0<gs.length->∀x,a=some x->F x.block)/\IsGs w F gs cs
theorem IsE.keep {w w':World} {F G:Nat->Prop} (hk:zay F w w') (hG:∀b,F b->G b) {es:List Ent} {v:Value} (h:IsE w F es v):IsE w' G es v:=by
 obtain ⟨a,cap,e,hr,hF⟩:=h
 exact ⟨a,cap,e,hr.stays hk hF,fun h0 x hx=>hG _ (hF h0 x hx)⟩
theorem IsGs.keep {w w':World} {F G:Nat->Prop} (hk:zay F w w') (hG:∀b,F b->G b):∀ {gs:List Grp} {cs:List Value},IsGs w F gs cs->IsGs w' G gs cs
 | [],_,h=>h
 | _::_,_,⟨v,t,e,h1,h2⟩=>⟨v,t,e,h1.keep hk hG,IsGs.keep hk hG h2⟩
theorem IsG.keep {w w':World} {F G:Nat->Prop} (hk:zay F w w') (hG:∀b,F b->G b) {gs:List Grp} {v:Value} (h:IsG w F gs v):IsG w' G gs v:=by
 obtain ⟨a,cap,cs,e,hr,hF,hs⟩:=h
 exact ⟨a,cap,cs,e,hr.stays hk hF,fun h0 x hx=>hG _ (hF h0 x hx),hs.keep hk hG⟩
theorem IsE.below {w w':World} {F:Nat->Prop} {es:List Ent} {v:Value} (h:IsE w F es v) (hb:Below w.heap.size w w'):IsE w' F es v:=h.keep (zay.of_below hb) (fun _ h=>h)
theorem IsGs.below {w w':World} {F:Nat->Prop} {gs:List Grp} {cs:List Value} (h:IsGs w F gs cs) (hb:Below w.heap.size w w'):IsGs w' F gs cs:=h.keep (zay.of_below hb) (fun _ h=>h)
theorem IsG.below {w w':World} {F:Nat->Prop} {gs:List Grp} {v:Value} (h:IsG w F gs v) (hb:Below w.heap.size w w'):IsG w' F gs v:=h.keep (zay.of_below hb) (fun _ h=>h)
theorem IsE.nil (w:World) (F:Nat->Prop):IsE w F [] (.slice none 0 0):=⟨none,0,rfl,Row.nil w 3,fun h=>by cases h⟩
theorem IsG.nil (w:World) (F:Nat->Prop):IsG w F [] (.slice none 0 0):=⟨none,0,[],rfl,Row.nil w 2,fun h=>(by cases h),rfl⟩
theorem IsGs.length {w:World} {F:Nat->Prop}:∀ {gs:List Grp} {cs:List Value},IsGs w F gs cs->cs.length=gs.length*2
 | [],_,h=>by cases h;rfl
 | _::_,_,⟨v,t,e,_,h2⟩=>by subst e;have:=IsGs.length h2;simp;omega
theorem IsGs.append {w:World} {F:Nat->Prop}:∀ {l m:List Grp} {cs ds:List Value},IsGs w F l cs->IsGs w F m ds->IsGs w F (l++m) (cs++ds)
 | [],_,_,_,h,hm=>by cases h;exact hm
 | _::_,_,_,_,⟨v,t,e,h1,h2⟩,hm=>⟨v,t++_,by subst e;rfl,h1,IsGs.append h2 hm⟩
theorem IsGs.snoc {w:World} {F:Nat->Prop} {gs:List Grp} {cs:List Value} (h:IsGs w F gs cs) {n:Int} {es:List Ent} {v:Value} (hv:IsE w F es v):IsGs w F (gs++[⟨n,es⟩]) (cs++[.int .i64 n,v]):=h.append ⟨v,[],rfl,hv,rfl⟩
theorem IsGs.get {w:World} {F:Nat->Prop}:∀ {gs:List Grp} {cs:List Value},IsGs w F gs cs->∀(k:Nat) (g:Grp),gs[k]?=some g->∃v,IsE w F g.es v/\cs[k*2]?=some (.int .i64 g.first)/\cs[k*2+1]?=some v
 | [],_,_,_,_,hk=>by simp at hk
 | x::l,_,⟨v,t,e,h1,h2⟩,0,g,hk=>by
  simp at hk;subst hk e
  exact ⟨v,h1,rfl,rfl⟩
 | x::l,_,⟨v,t,e,h1,h2⟩,k+1,g,hk=>by
  subst e
  obtain ⟨v2,h3,h4,h5⟩:=h2.get k g (by simpa using hk)
  refine ⟨v2,h3,?_,?_⟩
  ·rw [show (k+1)*2=k*2+1+1 by omega];simpa using h4
  ·rw [show (k+1)*2+1=k*2+1+1+1 by omega];simpa using h5
theorem IsE.len {w:World} {F:Nat->Prop} {es:List Ent} {v:Value} (h:IsE w F es v):∃a cap,v=.slice a es.length cap/\es.length<=cap/\cap<=maxLen/\(a=none->cap=0):=by
 obtain ⟨a,cap,e,hr,_⟩:=h
 exact ⟨a,cap,e,hr.2.1,hr.2.2.1,hr.2.2.2.1⟩
theorem IsG.len {w:World} {F:Nat->Prop} {gs:List Grp} {v:Value} (h:IsG w F gs v):∃a cap,v=.slice a gs.length cap/\gs.length<=cap/\cap<=maxLen/\(a=none->cap=0):=by
 obtain ⟨a,cap,cs,e,hr,_⟩:=h
 exact ⟨a,cap,e,hr.2.1,hr.2.2.1,hr.2.2.2.1⟩
theorem IsE.at {w:World} {F:Nat->Prop} {es:List Ent} {a:Option Addr} {n cap:Nat} (h:IsE w F es (.slice a n cap)) (hn:0<n) :
  n=es.length/\n<=cap/\cap<=maxLen/\∃b off,a=some ⟨b,off,none⟩/\b<w.heap.size/\F b/\∀k x,es[k]?=some x->w.cell? ⟨b,off+k*3,none⟩=some (.int .i64 x.at_) /\
   w.cell? ⟨b,off+k*3+1,none⟩=some (.int .i64 x.gen)/\w.cell? ⟨b,off+k*3+2,none⟩=some (.bool x.used):=by
 obtain ⟨a',cap',e,hr,hF⟩:=h
 simp only [Value.slice.injEq] at e
 obtain ⟨rfl,rfl,rfl⟩:=e
 obtain ⟨b,off,rfl,hb,hc⟩:=hr.2.2.2.2 hn
 refine ⟨rfl,hr.2.1,hr.2.2.1,b,off,rfl,hb,hF hn _ rfl,fun k x hx=>?_⟩
 obtain ⟨h2,h3,h4⟩:=entsC_get es k x hx
 exact ⟨hc _ _ h2,(Nat.add_assoc off (k*3) 1).symm▸hc _ _ h3,(Nat.add_assoc off (k*3) 2).symm▸hc _ _ h4⟩
theorem IsG.at {w:World} {F:Nat->Prop} {gs:List Grp} {a:Option Addr} {n cap:Nat} (h:IsG w F gs (.slice a n cap)) (hn:0<n) :
  n=gs.length/\n<=cap/\cap<=maxLen/\∃b off,a=some ⟨b,off,none⟩/\b<w.heap.size/\F b/\∀k x,gs[k]?=some x->∃v,IsE w F x.es v/\w.cell? ⟨b,off+k*2,none⟩=some (.int .i64 x.first) /\
   w.cell? ⟨b,off+k*2+1,none⟩=some v:=by
 obtain ⟨a',cap',cs,e,hr,hF,hs⟩:=h
 simp only [Value.slice.injEq] at e
 obtain ⟨rfl,rfl,rfl⟩:=e
 obtain ⟨b,off,rfl,hb,hc⟩:=hr.2.2.2.2 hn
 refine ⟨rfl,hr.2.1,hr.2.2.1,b,off,rfl,hb,hF hn _ rfl,fun k x hx=>?_⟩
 obtain ⟨v,h1,h2,h3⟩:=hs.get k x hx
 exact ⟨v,h1,hc _ _ h2,(Nat.add_assoc off (k*2) 1).symm▸hc _ _ h3⟩
def secC (s:Sec) (gv sl:Value):List Value:=gv::pvC s.tr sl
def secA (s:Sec) (gv sl:Value):Value:=.agg #[gv,.int .i64 s.tr.kind,.int .i64 s.tr.n,.string (mkB s.tr.s),sl]
def zbe (w:World) (F:Nat->Prop) (s:Sec) (gv sl:Value):Prop:=IsG w F s.gs gv/\IsV w F s.tr sl
theorem zbe.keep {w w':World} {F G:Nat->Prop} (hk:zay F w w') (hG:∀b,F b->G b) {s:Sec} {gv sl:Value} (h:zbe w F s gv sl):zbe w' G s gv sl:=⟨h.1.keep hk hG,IsV.keep hk hG _ h.2⟩
theorem zbe.below {w w':World} {F:Nat->Prop} {s:Sec} {gv sl:Value} (h:zbe w F s gv sl) (hb:Below w.heap.size w w'):zbe w' F s gv sl:=h.keep (zay.of_below hb) (fun _ h=>h)
theorem zdD (w:World) (F:Nat->Prop):zbe w F Sec.none (.slice none 0 0) (.slice none 0 0):=⟨IsG.nil w F,IsV.leaf w F _ rfl⟩
theorem zeL (x:Tk) (f t:Int) (w:World):Calls Tryz.prog 79 #[.agg (tokN x f t)] w fun e w'=>e=.returned (.bool (zaD x))/\Below w.heap.size w w':=by
 unfold tokN zaD
 generalize x.kind=a0 at *
 generalize x.vk=a1 at *
 generalize x.vn=a2 at *
 generalize mkB x.vs=s1 at *
 generalize mkB x.s=s2 at *
 cases h0:(a0==1)
 ·go_enter Tryz.func79,Tryz.ntmps79
  go_wp2
  go_ret
  exact ⟨rfl,zag w _⟩
 ·go_enter Tryz.func79,Tryz.ntmps79
  go_wp2
  go_ret
  exact ⟨rfl,zag w _⟩
theorem fits_any (f n:Int) (w:World):Calls Tryz.prog 116 #[.int .i64 f,.int .i64 n] w fun e w'=>e=.returned (.bool (zfo f n))/\w=w':=by
 unfold zfo
 by_cases a1:0<=f
 ·by_cases a2:f<=4097
  ·by_cases a3:0<=n
   ·by_cases a4:n<=4097-f
    ·go_enter Tryz.func116,Tryz.ntmps116
     go_wp2
     go_ret
     exact ⟨by simp [a1,a2,a3,a4],rfl⟩
    ·go_enter Tryz.func116,Tryz.ntmps116
     go_wp2
     go_ret
     exact ⟨by simp [a4],rfl⟩
   ·go_enter Tryz.func116,Tryz.ntmps116
    go_wp2
    go_ret
    exact ⟨by simp;omega,rfl⟩
  ·go_enter Tryz.func116,Tryz.ntmps116
   go_wp2
   go_ret
   exact ⟨by simp;omega,rfl⟩
 ·go_enter Tryz.func116,Tryz.ntmps116
  go_wp2
  go_ret
  exact ⟨by simp;omega,rfl⟩
def dig1 (l:List UInt8) (most:Int):Int:=if (zaz l).2≠0\/most<(zaz l).1 then -1 else (zaz l).1
structure zaU (W:World) where
 w:World
 h:Below W.heap.size W w
instance zaU.there (W:World):Nonempty (zaU W):=⟨⟨W,Below.refl _ _⟩⟩
theorem zaW {P:Program} {id:Nat} {Q:Exit->Act->World->Prop} {a:Act} {W:World} {l:List Oper} (hm:P.follows .mixedOrders=true) (hB:Region.lexB .any l.toArray=true)
  (h:wpQuiet P l.toArray (fun w'=>∃p:zaU W,w'=p.w) (fun a'=>∀w',(∃p:zaU W,w'=p.w)->Q .normal a' w') l a):(Code.region id l.toArray true).wp P Q a W :=
 wp_region_quiet (C:=fun w'=>∃p:zaU W,w'=p.w) hm hB ⟨⟨W.drew,(Below.refl _ _).drew⟩,rfl⟩ (by simpa using h)
theorem Calls.below_of {P:Program} {f:FuncId} {args:Array Value} {W:World} {p:zaU W} {v:Value}
  (h:Calls P f args p.w fun e w'=>e=.returned v/\Below p.w.heap.size p.w w'):Calls P f args p.w fun e w''=>e=.returned v/\∃p':zaU W,w''=p'.w :=
 h.mono fun _ w' ⟨he,hb⟩=>⟨he,⟨w',p.h.trans (hb.mono p.h.size)⟩,rfl⟩
theorem zaU.cell {W:World} {b o:Nat} {v:Value} (hc:W.cell? ⟨b,o,none⟩=some v) (p:zaU W):p.w.cell? ⟨b,o,none⟩=some v:=cell?_keep p.h hc
theorem zeB {w:World} {a:Option Addr} {cap:Nat} {bs:List UInt8} (hr:Row w 1 a bs.length cap (bs.map u8C)):(convert 22 9 (.slice a bs.length cap)).run Tryz.prog w=.ok (.string (mkB bs)) w:=by
 cases a with
 | none =>
  have h0:=hr.2.2.2.1 rfl
  have h1:=hr.2.1
  have ho:bs=[]:=List.eq_nil_of_length_eq_zero (by omega)
  subst ho
  rw [h0]
  exact run_convert_bytes_string w 22 9 5 none 0 0 Tryz.underlying22 Tryz.underlying5 Tryz.underlying9
 | some x =>
  refine run_convert_bytes_back (P:=Tryz.prog) w 22 9 5 x cap bs Tryz.underlying22 Tryz.underlying5 Tryz.underlying9 (fun j hj=>?_)
  obtain ⟨b,o,hx,-,hc⟩:=hr.2.2.2.2 (by omega)
  cases hx
  rw [Addr.add_lit]
  exact hc j (u8C bs[j]) (by simp [hj])
theorem xdig_any {w:World} {a:Option Addr} {n cap:Nat} {l:List UInt8} (hr:Row w 1 a n cap (l.map u8C)) (hl:l.length=n) (most:Int) :
  Calls Tryz.prog 157 #[.slice a n cap,.int .i64 most] w fun e w'=>e=.returned (.int .i64 (dig1 l most))/\Below w.heap.size w w':=by
 subst hl
 have hcv:=zeB hr
 have HD:=ya (zca (mkB l) w)
 rw [show bl (mkB l)=l from rfl] at HD
 unfold dig1
 generalize zaz l=V at *
 obtain ⟨n,e⟩:=V
 unfold DigEnd at HD
 simp only at HD |-
 clear hr
 generalize l.length=L at *
 generalize mkB l=s at *
 by_cases he:e=0
 ·subst he
  by_cases hn:most<n
  ·rw [yf (.inr hn)]
   go_enter Tryz.func157,Tryz.ntmps157
   go_wp2_with (go_at_call 184;refine HD.out.mono ?_;rintro e w' ⟨rfl,hb⟩;have HB:=ya hb;clear hb)
   go_ret
   exact ⟨rfl,HB.out⟩
  ·rw [yg (by simpa using hn)]
   go_enter Tryz.func157,Tryz.ntmps157
   go_wp2_with (go_at_call 184;refine HD.out.mono ?_;rintro e w' ⟨rfl,hb⟩;have HB:=ya hb;clear hb)
   go_ret
   exact ⟨rfl,HB.out⟩
 ·rw [yf (.inl he)]
  have e0:(e==0)=false:=by rw [ye];exact he
  have e1:(e != 0)=true:=by simp only [bne,e0,yi]
  clear he
  go_enter Tryz.func157,Tryz.ntmps157
  go_wp2_with (go_at_call 184;refine HD.out.mono ?_;rintro e w' ⟨rfl,hb⟩;have HB:=ya hb;clear hb)
  go_ret
  exact ⟨rfl,HB.out⟩
theorem set3a {w:World} {b:Nat} {x0 x1 x2:Value} {t:TypeId} (h:w.heap[b]?=some (.cells #[x0,x1,x2] t (0,0))) (y0 y1 y2:Value) :
  (((w.setCell ⟨b,0,none⟩ y0).setCell ⟨b,1,none⟩ y1).setCell ⟨b,2,none⟩ y2).heap[b]?=some (.cells #[y0,y1,y2] t (0,0)):=by
 rw [heap_setCell_same _ _ 2 _ _ _ (heap_setCell_same _ _ 1 _ _ _ (heap_setCell_same w _ 0 _ _ _ h))];rfl
theorem zbu {w:World} {b:Nat} {x0 x1 x2:Value} {t:TypeId} (h:w.heap[b]?=some (.cells #[x0,x1,x2] t (0,0))) :
  (w.cell? ⟨b,0,none⟩=some x0/\w.cell? ⟨b,1,none⟩=some x1/\w.cell? ⟨b,2,none⟩=some x2)/\(w.frozen? ⟨b,0,none⟩=false/\w.frozen? ⟨b,1,none⟩=false/\w.frozen? ⟨b,2,none⟩=false):=by
 refine ⟨⟨?_,?_,?_⟩,frozen_of_row w b 0 _ _ h,frozen_of_row w b 1 _ _ h,frozen_of_row w b 2 _ _ h⟩
 ·rw [cell_of_row w b 0 _ _ _ h];rfl
 ·rw [cell_of_row w b 1 _ _ _ h];rfl
 ·rw [cell_of_row w b 2 _ _ _ h];rfl
theorem u8_of {c d:UInt8} {n:Nat} (h:c.toNat=n) (hd:d.toNat=n):c=d:=UInt8.toNat_inj.1 (h.trans hd.symm)
theorem u8_beq (c d:UInt8) (n:Nat) (hd:d.toNat=n):(c==d)=((c.toNat:Int)==(n:Int)):=by
 by_cases h:c=d
 ·subst h;rw [hd];simp
 ·have h2:c.toNat≠n:=fun e=>h (u8_of e hd)
  rw [beq_eq_false_iff_ne.2 h,eq_comm,ye]
  omega
theorem ent_isNone {s:List UInt8} (h:true=(entS s).isNone):entS s=none:=by
 cases hs:entS s with
 | none=>rfl
 | some x=>rw [hs] at h;cases h
theorem zcW:(Tryz.prog.info? 44).map (·.size)=some 3:=by kernel_rfl
theorem skip_go {bs:List UInt8} {j:Nat} (hj:j<bs.length) (h:isSp (bs.getD j 0)=true):zcL bs j=zcL bs (j+1):=by
 unfold zcL
 rw [zaS hj,List.takeWhile_cons,yf h,List.length_cons]
 omega
theorem skip_stop {bs:List UInt8} {j:Nat} (hj:j<bs.length) (h:isSp (bs.getD j 0)=false):zcL bs j=j:=by
 unfold zcL
 rw [zaS hj,List.takeWhile_cons,yg (by rw [h];decide)]
 rfl
theorem skip_end (bs:List UInt8):zcL bs bs.length=bs.length:=by
 unfold zcL
 rw [List.drop_length]
 rfl
theorem zdU {s:List UInt8} (h:dig1 (s.take 10) 2147483647<0\/dig1 ((s.drop 11).take 5) 65535<0\/s.getD 10 0≠32\/s.getD 16 0≠32\/(s.getD 17 0≠110/\s.getD 17 0≠102)\/(s.getD 18 0≠32/\s.getD 18 0≠10/\s.getD 18 0≠13)):entS s=none:=by
 unfold entS
 rw [yf]
 rcases h with h|h|h|h|h|h
 ·left
  unfold dig1 at h
  split at h
  ·rename_i hq
   rcases hq with hq|hq
   ·exact hq
   ·have:=zcD (s.take 10)
    omega
  ·have:=zcD (s.take 10)
   omega
 ·unfold dig1 at h
  split at h
  ·rename_i hq
   rcases hq with hq|hq
   ·exact .inr (.inl hq)
   ·exact .inr (.inr (.inl hq))
  ·have:=zcD ((s.drop 11).take 5)
   omega
 ·exact .inr (.inr (.inr (.inl h)))
 ·exact .inr (.inr (.inr (.inr (.inl h))))
 ·exact .inr (.inr (.inr (.inr (.inr (.inl h)))))
 ·exact .inr (.inr (.inr (.inr (.inr (.inr h)))))
theorem row_cut {w:World} {b o n cap:Nat} {bs:List UInt8} (h:Row w 1 (some ⟨b,o,none⟩) n cap (bs.map u8C)) (u m:Nat) (hm:u+m<=n):Row w 1 (some ⟨b,o+u,none⟩) m (cap-u) (((bs.drop u).take m).map u8C):=by
 obtain ⟨h1,h2,h3,-,h5⟩:=h
 rw [List.length_map] at h1
 refine ⟨by rw [List.length_map,List.length_take,yj];omega,by omega,by omega,fun h=>(by cases h),fun hm0=>?_⟩
 obtain ⟨b',o',e,hb,hc⟩:=h5 (by omega)
 cases e
 refine ⟨b,o+u,rfl,hb,fun j x hj=>?_⟩
 rw [Nat.add_assoc]
 refine hc _ _ ?_
 rw [List.getElem?_map] at hj |-
 rw [List.getElem?_take] at hj
 split at hj
 ·rw [List.getElem?_drop] at hj;exact hj
 ·cases hj
theorem entV_cut {bs:List UInt8} {yo:Bool} {k j:Nat} (h:zcL bs k=j) (hl:bs.length<j+19):entV bs yo k=({},0,zbt yo):=by unfold entV;rw [h,yf hl]
theorem entV_bad {bs:List UInt8} {yo:Bool} {k j:Nat} (h:zcL bs k=j) (hl:¬bs.length<j+19) (hs:entS ((bs.drop j).take 19)=none):entV bs yo k=({},0,20):=by unfold entV;rw [h,yg hl,hs]
theorem entV_ok {bs:List UInt8} {yo:Bool} {k j:Nat} (h:zcL bs k=j) (hl:¬bs.length<j+19) {x:Ent} (hs:entS ((bs.drop j).take 19)=some x):entV bs yo k=(x,j+19,0):=by unfold entV;rw [h,yg hl,hs]
theorem ent_some {s:List UInt8} (h:false=(entS s).isNone):entS s=some { at_:=dig1 (s.take 10) 2147483647,gen:=dig1 ((s.drop 11).take 5) 65535,used:=s.getD 17 0==110 }:=by
 unfold entS at h |-
 split at h
 ·cases h
 ·rename_i hn
  rw [yg hn]
  have e1:¬((zaz (s.take 10)).2≠0\/2147483647<(zaz (s.take 10)).1):=by
   have:=zcD (s.take 10)
   rintro (h|h)
   ·exact hn (.inl h)
   ·omega
  have e2:¬((zaz ((s.drop 11).take 5)).2≠0\/65535<(zaz ((s.drop 11).take 5)).1):=by
   rintro (h|h)
   ·exact hn (.inr (.inl h))
   ·exact hn (.inr (.inr (.inl h)))
  unfold dig1
  rw [yg e1,yg e2]
theorem ent_good {s:List UInt8} (h1:0<=dig1 (s.take 10) 2147483647) (h2:0<=dig1 ((s.drop 11).take 5) 65535) (h3:s.getD 10 0=32) (h4:s.getD 16 0=32) (h5:s.getD 17 0=110\/s.getD 17 0=102) (h6:s.getD 18 0=32\/s.getD 18 0=10\/s.getD 18 0=13) :
  entS s=some { at_:=dig1 (s.take 10) 2147483647,gen:=dig1 ((s.drop 11).take 5) 65535,used:=s.getD 17 0==110 }:=by
 unfold dig1 at *
 have e1:¬((zaz (s.take 10)).2≠0\/2147483647<(zaz (s.take 10)).1):=by intro hn;rw [yf hn] at h1;exact absurd h1 (by decide)
 have e2:¬((zaz ((s.drop 11).take 5)).2≠0\/65535<(zaz ((s.drop 11).take 5)).1):=by intro hn;rw [yf hn] at h2;exact absurd h2 (by decide)
 rw [yg e1,yg e2]
 unfold entS
 rw [yg]
 rintro (hn|hn|hn|hn|hn|hn|hn)
 ·exact e1 (.inl hn)
 ·exact e2 (.inl hn)
 ·exact e2 (.inr hn)
 ·exact hn h3
 ·exact hn h4
 ·rcases h5 with h|h
  ·exact hn.1 h
  ·exact hn.2 h
 ·rcases h6 with h|h|h
  ·exact hn.1 h
  ·exact hn.2.1 h
  ·exact hn.2.2 h
section
variable {w0 w w' : World} {p : Nat} {a : Option Addr} {cap : Nat} {bs : List UInt8} {yo : Bool} {at_ : Int}
theorem IsRd.set3r (h:IsRd w0 w p a cap bs yo at_) {r:Nat} (hr:p≠r) (h0:w0.heap.size<=r) (y0 y1 y2:Value):IsRd w0 (((w.setCell ⟨r,0,none⟩ y0).setCell ⟨r,1,none⟩ y1).setCell ⟨r,2,none⟩ y2) p a cap bs yo at_ :=
 ⟨by rw [heap_setCell_other _ _ _ _ hr,heap_setCell_other _ _ _ _ hr,heap_setCell_other _ _ _ _ hr];exact h.blk,h.new,h.row,((h.bel.setCell h0 _).setCell h0 _).setCell h0 _,h.small⟩
theorem zdK {S:Nat->Prop} {W:World} (h:zae S w W) {r:Nat} (hr:w.heap.size<=r) (y0 y1 y2:Value):zae S w (((W.setCell ⟨r,0,none⟩ y0).setCell ⟨r,1,none⟩ y1).setCell ⟨r,2,none⟩ y2) :=
 ((h.setCell (.inr hr) _).setCell (.inr hr) _).setCell (.inr hr) _
theorem xopen_any (h:IsRd w0 w p a cap bs yo at_):Calls Tryz.prog 156 #[.pointer (some ⟨p,0,none⟩)] w fun e w'=>e=.returned (.int .i64 (zbt yo))/\w=w':=by
 obtain ⟨⟨-,-,c2⟩,-⟩:=h.cells
 clear h
 cases yo
 ·go_enter Tryz.func156,Tryz.ntmps156
  go_wp2
  go_ret
  exact ⟨rfl,rfl⟩
 ·go_enter Tryz.func156,Tryz.ntmps156
  go_wp2
  go_ret
  exact ⟨rfl,rfl⟩
def EntEnd (w0 w:World) (p:Nat) (a:Option Addr) (cap:Nat) (bs:List UInt8) (yo:Bool) (V:Ent×Nat×Int) (e:Ending) (w':World):Prop :=
 e=.returned (.tuple #[entA V.1,.int .i64 V.2.2])/\(∃at2:Int,IsRd w0 w' p a cap bs yo at2/\(V.2.2=0->at2=V.2.1))/\zae (fun b=>b=p) w w'
theorem xentry_any {k:Nat} (h:IsRd w0 w p a cap bs yo (k:Int)) (hk:k<=bs.length):Calls Tryz.prog 117 #[.pointer (some ⟨p,0,none⟩)] w (EntEnd w0 w p a cap bs yo (entV bs yo k)):=by
 obtain ⟨V,hV⟩:∃V,V=entV bs yo k:=⟨_,rfl⟩
 rw [<-hV]
 have HV:=ya hV
 have hsm:=h.small
 have hcp:=h.row.2.1
 have hcm:=h.row.i64c
 have HR:=ya h
 clear h hV
 go_enter Tryz.func117,Tryz.ntmps117
 go_upto_block 0 with fail
 have HB1:=ya (zag w (.cells #[.int .i64 0,.int .i64 0,.bool false] 44))
 have HS1:=ya (HR.out.mono HB1.out)
 obtain ⟨r,hr⟩:∃r,r=w.heap.size:=⟨_,rfl⟩
 have HZ1:=ya (zac (w:=w) (b:=r) (.cells #[.int .i64 0,.int .i64 0,.bool false] 44) hr)
 have hpr:p≠r:=by have:=HR.out.lt;omega
 have HPR:=ya hpr
 have HRR:=ya (Nat.le_of_eq hr.symm)
 have HR0:=ya (Nat.le_trans HR.out.bel.size HRR.out)
 rw [<-hr]
 clear hr hpr
 generalize w.alloc _=W1 at *
 obtain ⟨J,hJ⟩:∃J,J=zcL bs k:=⟨_,rfl⟩
 have HJ:=ya hJ
 clear hJ
 go_cut [] from 8 (fun wx=>∃j:Nat,k<=j/\j<=bs.length/\Hid (J=j)/\Hid (IsRd w0 wx p a cap bs yo (j:Int))/\Hid (zae (fun b=>b=p) W1 wx))
 case first =>
  go_wp2_with fail
  go_loopg [] (bs.length-k) (fun g wr=>∃j:Nat,g=bs.length-j/\k<=j/\j<=bs.length/\Hid (zcL bs j=J)/\Hid (IsRd w0 wr p a cap bs yo (j:Int))/\Hid (zae (fun b=>b=p) W1 wr))
  case atStart=>exact ⟨k,rfl,ym _,hk,ya HJ.out.symm,HS1,ya (zae.refl _ _)⟩
  case round =>
   obtain ⟨j,hg,hkj,hj,HSK,HI,HKP⟩:=hrel
   have HG:=ya hg
   obtain ⟨⟨c0,c1,c2⟩,f0,f1,f2⟩:=HI.out.cells
   clear hg
   have hck:(j:Int)<=400000:=by omega
   by_cases hjl:j<bs.length
   ·obtain ⟨b,off,rfl,-,hcc⟩:=HI.out.bytes.at 0 j hjl
    have hcj:=hcc j hjl
    unfold u8C at hcj
    have hjd:decide ((j:Int)<bs.length)=true:=by simp;omega
    have hjd2:decide (j<bs.length)=true:=by simp;omega
    have HSP:=ya (fun W=>zc0 (bs.getD j 0).toNat W)
    rw [<-spI_eq] at HSP
    have HG2:=ya (fun h=>skip_go (bs:=bs) hjl h)
    have HST:=ya (fun h=>skip_stop (bs:=bs) hjl h)
    clear hcc
    generalize bs.getD j 0=c at *
    obtain ⟨sp,hsp⟩:∃sp,isSp c=sp:=⟨_,rfl⟩
    rw [hsp] at HSP
    have HSB:=ya hsp
    clear hsp
    generalize c.toNat=x at *
    cases sp
    ·go_wp2
     go_quiet ((go_at_call 155;exact (HSP.out _).mono fun _ _ ⟨he,hm⟩=>⟨he,_,hm.symm⟩))
     go_wp2_with fail
     go_meet
     exact ⟨j,hkj,hj,ya (HSK.out.symm.trans (HST.out HSB.out)),ya (HI.out.mono (zad (Below.refl _ _) _)),ya (HKP.out.drewN _)⟩
    ·go_wp2
     go_quiet ((go_at_call 155;exact (HSP.out _).mono fun _ _ ⟨he,hm⟩=>⟨he,_,hm.symm⟩))
     go_wp2
     go_roundg (bs.length-(j+1))
     case rel=>exact ⟨j+1,rfl,by omega,by omega,ya ((HG2.out HSB.out).symm.trans HSK.out),ya ((HI.out.mono (zad (Below.refl _ _) _)).setAt _),ya ((HKP.out.drewN _).setCell (.inl rfl) _)⟩
     case measure=>have:=HG.out;omega
   ·have hje:j=bs.length:=by omega
    have HJE:=ya (show J=j by rw [<-HSK.out,hje];exact skip_end bs)
    have hjd:decide ((j:Int)<bs.length)=false:=yd (by omega)
    have hjd2:decide (j<bs.length)=false:=yd (by omega)
    clear hje
    go_wp2
    go_quiet (fail)
    go_wp2_with fail
    go_meet
    exact ⟨j,hkj,hj,HJE,ya (HI.out.mono (zad (Below.refl _ _) _)),ya (HKP.out.drewN _)⟩
 case rest =>
  obtain ⟨j,hkj,hj,HJE,HI2,HK2⟩:=hcut
  have hck:(j:Int)<=400000:=by omega
  generalize wc=W2 at *
  obtain ⟨⟨c0,c1,c2⟩,f0,f1,f2⟩:=HI2.out.cells
  have HZ2:=ya (HK2.out.obj HZ1.out (fun e=>HPR.out e.symm))
  have HKW:=ya (zae.trans (S:=fun b=>b=p) (zar HB1.out) HK2.out (fun x h=>.inl h))
  obtain ⟨⟨z0,z1,z2⟩,y0,y1,y2⟩:=zbu HZ2.out
  by_cases hlen:bs.length<j+19
  ·have HV3:=ya (HV.out.trans (entV_cut (yo:=yo) (HJ.out.symm.trans HJE.out) hlen))
   have hld:decide ((bs.length:Int)-j<19)=true:=yb (by omega)
   have HOP:=ya (fun q=>xopen_any (HI2.out.mono (zad (Below.refl _ _) q)))
   clear hlen
   go_wp2
   go_quiet (fail)
   go_wp2_with (go_at_call 156;refine (HOP.out _).mono ?_;rintro e w' ⟨rfl,rfl⟩)
   refine yh (zab rfl _ _ r 44 _ (0,0) _ rfl (by exact set3a HZ2.out _ _ _) Tryz.underlying44 rfl (by exact zcW) _ rfl) rfl ?_
   rw [HV3.out]
   exact ⟨rfl,⟨_,(HI2.out.mono (zad (Below.refl _ _) _)).set3r HPR.out HR0.out _ _ _,fun h=>absurd h (zet yo)⟩,zdK (HKW.out.drewN _) HRR.out _ _ _⟩
  ·have hjl:j<bs.length:=by omega
   have hld:decide ((bs.length:Int)-j<19)=false:=yd (by omega)
   have HRB:=HI2.out.bytes
   obtain ⟨b2,off2,ha,-,hcc⟩:=HRB.at 0 j hjl
   have HBP:=ya (show ¬b2=p from fun e=>by have h1:b2<w0.heap.size:=HI2.out.row.lt (by omega) ⟨b2,off2,none⟩ ha;have h2:=HI2.out.new;omega)
   rw [ha] at c0 HRB
   have hj19:j+19<=bs.length:=by omega
   have HR1:=ya (row_cut HRB j 19 hj19)
   have HSL:=ya (show ((bs.drop j).take 19).length=19 by rw [List.length_take,yj];omega)
   have HEB:=ya (fun h=>HV.out.trans (entV_bad (yo:=yo) (HJ.out.symm.trans HJE.out) hlen h))
   have HEO:=ya (fun x h=>HV.out.trans (entV_ok (yo:=yo) (x:=x) (HJ.out.symm.trans HJE.out) hlen h))
   generalize (bs.drop j).take 19=s at *
   clear hcc ha hlen HJE HJ HV HRB
   go_wp2
   go_quiet (fail)
   generalize nq=nqa
   go_wp2
   go_quiet (fail)
   generalize nq=nqb
   go_wp2
   have e19:j+18+1-j=19:=by omega
   rw [e19]
   have HI3:=ya (HI2.out.mono (zad (zad (Below.refl _ _) nqa) nqb))
   have HK3:=ya ((HKW.out.drewN nqa).drewN nqb)
   have HZ3:=ya (zaa (zad (zad (Below.refl W2.heap.size W2) nqa) nqb) HZ2.out)
   have HR3:=ya (HR1.out.mono (zad (zad (Below.refl W2.heap.size W2) nqa) nqb))
   generalize (W2.drewN nqa).drewN nqb=W3 at *
   clear HI2 HK2 HKW HZ2 HR1 c0 c1 c2 f0 f1 f2 z0 z1 z2 y0 y1 y2
   have hC1:19<=cap-j:=by omega
   have hC2:((cap-j:Nat):Int)<=9223372036854775807:=by omega
   generalize cap-j=C at *
   have HRA:=ya (row_cut HR3.out 0 10 (by omega))
   have HRG:=ya (row_cut HR3.out 11 5 (by omega))
   simp only [List.drop_zero,Nat.add_zero,Nat.sub_zero] at HRA
   have HDA:=ya (fun q:zaU W3=>xdig_any (HRA.out.mono q.h) (by rw [List.length_take];have:=HSL.out;omega) 2147483647)
   have HDG:=ya (fun q:zaU W3=>xdig_any (HRG.out.mono q.h) (by rw [List.length_take,yj];have:=HSL.out;omega) 65535)
   obtain ⟨A,hA⟩:∃A,A=dig1 (s.take 10) 2147483647:=⟨_,rfl⟩
   obtain ⟨G,hG⟩:∃G,G=dig1 ((s.drop 11).take 5) 65535:=⟨_,rfl⟩
   rw [<-hA] at HDA
   rw [<-hG] at HDG
   have HA:=ya hA
   have HGG:=ya hG
   clear hA hG
   refine zaW (by kernel_rfl) (by kernel_rfl) ?_
   repeat (go_big_quiet_step ((first
    |(go_at_call_of 157 (Value.slice (some ⟨b2,off2+j,none⟩) 10 C);with_reducible exact Calls.below_of (HDA.out _))
    |(go_at_call 157;with_reducible exact Calls.below_of (HDG.out _)))))
   refine wpQuiet_nil ?_
   rintro W4 ⟨⟨w4,hb4⟩,hw⟩
   replace hw:W4=w4:=hw
   subst hw
   have HI4:=ya (HI3.out.mono hb4)
   have HK4:=ya (zae.trans HK3.out (zar (S:=fun _=>False) hb4) (fun x h=>(by cases h)))
   have HZ4:=ya (zaa hb4 HZ3.out)
   obtain ⟨_,_,ha,-,hcc⟩:=(HR3.out.mono hb4).at 0 0 (by decide)
   cases ha
   have hc10:=hcc 10 (by decide)
   have hc16:=hcc 16 (by decide)
   have hc17:=hcc 17 (by decide)
   have hc18:=hcc 18 (by decide)
   unfold u8C at hc10 hc16 hc17 hc18
   clear hcc hb4 HI3 HK3 HZ3 HR3 HRA HRG HDA HDG
   obtain ⟨⟨c0,c1,c2⟩,f0,f1,f2⟩:=HI4.out.cells
   obtain ⟨⟨z0,z1,z2⟩,y0,y1,y2⟩:=zbu HZ4.out
   obtain ⟨x10,hx10⟩:∃x,(s.getD 10 0).toNat=x:=⟨_,rfl⟩
   obtain ⟨x16,hx16⟩:∃x,(s.getD 16 0).toNat=x:=⟨_,rfl⟩
   obtain ⟨x17,hx17⟩:∃x,(s.getD 17 0).toNat=x:=⟨_,rfl⟩
   obtain ⟨x18,hx18⟩:∃x,(s.getD 18 0).toNat=x:=⟨_,rfl⟩
   rw [hx10] at hc10
   rw [hx16] at hc16
   rw [hx17] at hc17
   rw [hx18] at hc18
   have HX10:=ya hx10
   have HX16:=ya hx16
   have HX17:=ya hx17
   have HX18:=ya hx18
   clear hx10 hx16 hx17 hx18
   obtain ⟨bd,hbd⟩:∃bd,bd=(entS s).isNone:=⟨_,rfl⟩
   have HBD:=ya hbd
   clear hbd
   go_upto_region 8 with fail
   go_cut [130] from 89 (fun v wx=>v=.bool bd/\wx=W4)
   case first =>
    clear c0 c1 c2 f0 f1 f2 z0 z1 z2 y0 y1 y2 HEB HEO
    by_cases hA0:A<0
    case pos =>
     obtain rfl:bd=true:=by rw [HBD.out,zdU (.inl (by rw [<-HA.out];exact hA0))];rfl
     go_wp2_with fail
     go_meet
     exact ⟨rfl,rfl⟩
    by_cases hG0:G<0
    case pos =>
     obtain rfl:bd=true:=by rw [HBD.out,zdU (.inr (.inl (by rw [<-HGG.out];exact hG0)))];rfl
     go_wp2_with fail
     go_meet
     exact ⟨rfl,rfl⟩
    by_cases h10:x10=32
    case neg =>
     obtain rfl:bd=true:=by rw [HBD.out,zdU (.inr (.inr (.inl (fun e=>h10 (by rw [<-HX10.out,e];rfl)))))];rfl
     have e32:((x10:Int)==32)=false:=by rw [ye];omega
     have f32:((x10:Int) != 32)=true:=by simp only [bne,e32,yi]
     go_wp2_with fail
     go_meet
     exact ⟨rfl,rfl⟩
    subst h10
    by_cases h16:x16=32
    case neg =>
     obtain rfl:bd=true:=by rw [HBD.out,zdU (.inr (.inr (.inr (.inl (fun e=>h16 (by rw [<-HX16.out,e];rfl))))))];rfl
     have e32:((x16:Int)==32)=false:=by rw [ye];omega
     have f32:((x16:Int) != 32)=true:=by simp only [bne,e32,yi]
     go_wp2_with fail
     go_meet
     exact ⟨rfl,rfl⟩
    subst h16
    by_cases h17:x17=110\/x17=102
    case neg =>
     obtain rfl:bd=true:=by rw [HBD.out,zdU (.inr (.inr (.inr (.inr (.inl ⟨fun e=>h17 (.inl (by rw [<-HX17.out,e];rfl)),fun e=>h17 (.inr (by rw [<-HX17.out,e];rfl))⟩)))))];rfl
     have e110:((x17:Int)==110)=false:=by rw [ye];omega
     have f110:((x17:Int) != 110)=true:=by simp only [bne,e110,yi]
     have e102:((x17:Int)==102)=false:=by rw [ye];omega
     have f102:((x17:Int) != 102)=true:=by simp only [bne,e102,yi]
     go_wp2_with fail
     go_meet
     exact ⟨rfl,rfl⟩
    by_cases h18:x18=32\/x18=10\/x18=13
    case neg =>
     obtain rfl:bd=true:=by rw [HBD.out,zdU (.inr (.inr (.inr (.inr (.inr (⟨fun e=>h18 (.inl (by rw [<-HX18.out,e];rfl)),fun e=>h18 (.inr (.inl (by rw [<-HX18.out,e];rfl))),fun e=>h18 (.inr (.inr (by rw [<-HX18.out,e];rfl)))⟩))))))];rfl
     have e32:((x18:Int)==32)=false:=by rw [ye];omega
     have f32:((x18:Int) != 32)=true:=by simp only [bne,e32,yi]
     have e10:((x18:Int)==10)=false:=by rw [ye];omega
     have f10:((x18:Int) != 10)=true:=by simp only [bne,e10,yi]
     have e13:((x18:Int)==13)=false:=by rw [ye];omega
     have f13:((x18:Int) != 13)=true:=by simp only [bne,e13,yi]
     rcases h17 with rfl|rfl
     all_goals (go_wp2_with fail;go_meet;exact ⟨rfl,rfl⟩)
    obtain rfl:bd=false:=by rw [HBD.out,ent_good (by rw [<-HA.out];omega) (by rw [<-HGG.out];omega) (u8_of HX10.out rfl) (u8_of HX16.out rfl) (h17.imp (fun e=>u8_of (HX17.out.trans e) rfl) (fun e=>u8_of (HX17.out.trans e) rfl)) (h18.imp (fun e=>u8_of (HX18.out.trans e) rfl) (fun h=>h.imp (fun e=>u8_of (HX18.out.trans e) rfl) (fun e=>u8_of (HX18.out.trans e) rfl)))];rfl
    rcases h17 with rfl|rfl<;>rcases h18 with rfl|rfl|rfl
    all_goals (go_wp2_with fail;go_meet;exact ⟨rfl,rfl⟩)
   case rest =>
    obtain ⟨rfl,rfl⟩:=hcut
    cases bd
    case true =>
     have HVB:=ya (HEB.out (ent_isNone HBD.out))
     clear HEB HEO hc10 hc16 hc17 hc18
     go_wp2
     refine yh (zab rfl _ _ r 44 _ (0,0) _ rfl (by exact set3a HZ4.out _ _ _) Tryz.underlying44 rfl (by exact zcW) _ rfl) rfl ?_
     rw [HVB.out]
     exact ⟨rfl,⟨_,HI4.out.set3r HPR.out HR0.out _ _ _,fun h=>(by cases h)⟩,zdK HK4.out HRR.out _ _ _⟩
    have HVO:=ya (HEO.out _ (ent_some HBD.out))
    rw [<-HA.out,<-HGG.out] at HVO
    have HU:=ya (show (s.getD 17 0==110)=((x17:Int)==110) by rw [<-HX17.out];exact u8_beq _ 110 110 rfl)
    rw [HU.out] at HVO
    have hbp:=HBP.out
    have hrp:¬r=p:=Ne.symm HPR.out
    clear HEB HEO HU HA HGG hc10 hc16 hc18
    go_wp2
    refine yh (zab rfl _ _ r 44 _ (0,0) _ rfl (by exact set3a ((heap_setCell_other _ _ _ _ (show r≠(⟨p,1,none⟩:Addr).block from Ne.symm HPR.out)).trans HZ4.out) _ _ _) Tryz.underlying44 rfl (by exact zcW) _ rfl) rfl ?_
    rw [HVO.out]
    exact ⟨rfl,⟨_,(HI4.out.setAt _).set3r HPR.out HR0.out _ _ _,fun _=>rfl⟩,zdK (HK4.out.setCell (a:=⟨p,1,none⟩) (.inl rfl) _) HRR.out _ _ _⟩
end
theorem own_new {P:Program} {w:World} {t ty e:TypeId} {z:Value} {size bytes:Nat} (T:zdM P t e z size bytes) {base:Nat} {v:Value} {n:Nat} {xs:List Value} (hown:w.ownsRow base e size v n xs)
  {a:Addr} {c:Nat} {news:List Value} (hl:news.length=1*size) (hnews:∀j u,news[j]?=some u->w.cell? (a.add j)=some u) (h1:∀u∈news,u.oneCell'=true) (h63:n+1<=maxLen) (hbytes:(n+1)*bytes<=140737488355328)
  {v':Value} {w':World} (hr:(Builtin.append_ #[t,t] ty #[v,.slice (some a) 1 c]).run P w=.ok v' w'):∀b,v'.ownBlock=some b->v.ownBlock=some b\/w.heap.size<=b:=by
 obtain ⟨i,hi,hz,hs,hb⟩:=info_parts T.info
 subst hb
 subst hs
 have hsmall:n+1<=9223372036854775807:=by simp only [maxLen] at h63;omega
 intro b hb
 rcases hown.2 with ⟨rfl,rfl⟩|⟨g,cap,cur,rfl,hbg,hg,hnc,hcm,hcs,htake⟩
 ·rw [run_append_nil (P:=P) w t ty e i z T.und hi hz a 1 c news hl hnews (by omega) (by omega) (by omega)] at hr
  cases hr
  right
  simp [Value.ownBlock] at hb
  omega
 ·by_cases hroom:n+1<=cap
  ·have hfit:n*i.size+news.length<=cur.size:=by rw [hl,hcs,<-Nat.add_mul];exact Nat.mul_le_mul_right _ hroom
   rw [run_append_room (P:=P) w t ty e i T.und hi g n cap cur hg a 1 c news hl hnews h1 hroom hfit] at hr
   cases hr
   left
   simpa [Value.ownBlock] using hb
  ·have holds:∀j u,xs[j]?=some u->w.cell? ((⟨g,0,none⟩:Addr).add j)=some u:=hown.cells (g:=g) rfl
   rw [run_append_grow (P:=P) w t ty e i z T.und hi hz ⟨g,0,none⟩ n cap xs hown.1 holds a 1 c news hl hnews (by omega) (by omega) (growslice_fits (by omega) hbytes)] at hr
   cases hr
   right
   simp [Value.ownBlock] at hb
   omega
theorem zdC {P:Program} {w:World} {ops:Array Oper} {rest:List Oper} {o:Oper} {a:Act} {Q:Exit->Act->World->Prop} {t e:TypeId} {z:Value} {size bytes:Nat} (T:zdM P t e z size bytes)
  (hgd:o.guard=none) (s x:Operand) (ho:o.op=.call { callee:=.builtin .append,args:=#[s,x],argTypes:=#[t,t] })
  (base:Nat) (v:Value) (n:Nat) (xs:List Value) (hs:a.eval s=v) (hown:w.ownsRow base e size v n xs)
  (ad:Addr) (c:Nat) (news:List Value) (hx:a.eval x=.slice (some ad) 1 c) (hr:Row w size (some ad) 1 c news) (h1:∀u∈news,u.oneCell'=true)
  (h63:n+1<=maxLen) (hbytes:(n+1)*bytes<=140737488355328) (hbase:base<=w.heap.size)
  (h:∀v' w',w'.ownsRow base e size v' (n+1) (xs++news)->w.grownBy w' v.ownBlock->(∀b,v'.ownBlock=some b->v.ownBlock=some b\/w.heap.size<=b)->wpList P ops Q rest (a.put o.dst v') w'):wpList P ops Q (o::rest) a w:=by
 obtain ⟨i,hi,hz,hs',hb⟩:=info_parts T.info
 have hl:news.length=1*size:=hr.1
 have hnews:∀j u,news[j]?=some u->w.cell? (ad.add j)=some u:=fun j u hj=>by
  obtain ⟨b,off,hab,_,hc⟩:=hr.2.2.2.2 (by omega)
  obtain rfl:=Option.some.inj hab
  rw [Addr.add_lit];exact hc j u hj
 obtain ⟨v',w',hrun,h2,h3,h4⟩:=run_append_own (P:=P) w base t o.type e i z size bytes T.und hi hz hs' hb T.cells T.pos v n xs hown ad 1 c news hl hnews h1 h63 hbytes hbase
 have h5:=own_new T hown hl hnews h1 h63 hbytes hrun
 refine wpList_plain hgd fun K hK=>?_
 unfold Oper.wp execOp
 simp only [ho,resolve,invoke,builtin,Sem.run_bind,Sem.run_pure,Result.andThen_ok,List.map_toArray,List.map_cons,List.map_nil,hs,hx,hrun]
 exact hK _ _ (h v' w' h2 h3 h5)
theorem zgh (w:World) (cs:Array Value) (e:TypeId) (n:Nat) (hn:cs.size=n) {b:Nat} (hb:w.heap.size=b):Row (w.alloc (.cells cs e)) n (some ⟨b,0,none⟩) 1 1 cs.toList:=by
 subst hb
 exact ⟨by simp [hn],ym _,by simp [maxLen],fun h=>(by cases h),fun _=>⟨w.heap.size,0,rfl,by rw [zan];omega,fun j u hj=>by
  rw [Nat.zero_add,cell_of_row _ _ _ _ _ _ (zac _ rfl)];simpa using hj⟩⟩
end Go.Proofs.YtfafdeemfeaedaaGreat
