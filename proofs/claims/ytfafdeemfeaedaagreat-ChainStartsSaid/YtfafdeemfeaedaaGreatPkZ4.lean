/-
  Our texts LexD to Below, in one.
-/
import Derived.Test.YtfafdeemfeaedaaGreatPkZ3
import Derived.Test.YtfafdeemfeaedaaGreatProg
import Derived.Deep.RegionHeld3
import Derived.BigQuiet
import Derived.Deep.QuietTactic
set_option maxRecDepth 8000
set_option maxHeartbeats 8000000
namespace Go.Proofs.YtfafdeemfeaedaaGreat
open Go.RowKit
theorem zcq (l:Bool):zaX l≠0:=by cases l<;>decide
def hexK (last:Bool) (H:Int×List UInt8×List UInt8):Int×Tk×List UInt8:=if H.1=0 then (0,{ kind:=1,vk:=4,vs:=H.2.1 },H.2.2) else if H.1=1 then (zaX last,{ kind:=0 },[]) else (11,{ kind:=0 },[])
def opV (X:Src) (k:Nat):Int×Tk×List UInt8:=match X.bs.drop k with
 | []=>(zaX X.last,{ kind:=0 },[])
 | d::u=>if d=60 then (0,{ kind:=4 },u) else hexK X.last (hexV [] (-1) (d::u))
theorem opV_in {X:Src} {k:Nat} (hk:k<X.bs.length):opV X k=if X.bs.getD k 0=60 then (0,{ kind:=4 },X.bs.drop (k+1)) else hexK X.last (hexV [] (-1) (X.bs.drop k)):=by
 unfold opV;rw [zat hk]
theorem opV_out {X:Src} {k:Nat} (hk:¬k<X.bs.length):opV X k=(zaX X.last,{ kind:=0 },[]):=by
 unfold opV;rw [za3 (by omega)]
theorem opening_any {w:World} {S:Nat→Prop} {p:Nat} {X:Src} {k:Nat} (h:ScQ w S p X [] k) (h1k:1≤k) :
   Calls Tryz.prog 179 #[.pointer (some ⟨p,0,none⟩)] w (zb0 w S p X (opV X k)):=by
 obtain ⟨V,hV⟩:∃V,V=opV X k:=⟨_,rfl⟩
 rw [←hV]
 have hT:=Tm.start h
 obtain ⟨r,hr⟩:∃r,r=w.heap.size:=⟨_,rfl⟩
 rw [←hr] at hT
 have HT0:=Lib.hid hT
 have HR:=Lib.hid hr
 have hP:=zcr hT.sc
 have hsm:=h.facts.2.2.2.1
 clear hT hr h
 by_cases hk:k<X.bs.length
 · have hv:=hV.trans (opV_in hk)
   unfold zep u8C at hP
   rw [if_pos hk] at hP
   have HK:=Lib.hid hk
   have H1K:=Lib.hid h1k
   have hkb:k≤399999:=by omega
   clear hsm
   generalize X.bs.getD k 0=c at *
   have HP:=Lib.hid hP
   clear hP hV hk
   by_cases hc:c=60
   · rw [if_pos hc] at hv
     have HV:=Lib.hid hv
     have hc2:c.toNat=60:=by rw [hc];rfl
     rw [hc2] at HP
     clear hv hc hc2
     go_enter Tryz.func179,Tryz.ntmps179
     go_wp2_with fail
     refine HP.out.mono ?_
     rintro e w1 ⟨rfl,q,rfl⟩
     have HT1:=Lib.hid (HT0.out.drewN q)
     have HT2:=Lib.hid (HT1.out.next HK.out)
     obtain ⟨-,-,-,-,c3,c4,fr⟩:=HT1.out.sc.facts
     have f3:=fr 3
     rw [←HR.out]
     clear fr HT0
     generalize (w.alloc _).drewN q=W1 at *
     obtain ⟨⟨k0,k1,k2,k3,k4,k5,k6,k7⟩,f0,f1,f2,f3',f4,f5,f6,f7⟩:=zag HT2.out.blk
     go_wp2
     refine bodyPost_ret (zaa rfl _ _ _ 150 _ (0,0) _ rfl (set8 HT2.out.blk _ _ _ _ _ _ _ _) Tryz.underlying150 rfl zaB _ rfl) rfl ?_
     exact HT2.out.ok HV.out _ _ _ _ _ _ _ _
   · rw [if_neg hc] at hv
     have HV:=Lib.hid hv
     have hc2:¬c.toNat=60:=fun h=>hc (UInt8.toNat_inj.1 h)
     have hc3:((c.toNat:Int)==60)=false:=by rw [beq_eq_false_iff_ne];omega
     generalize c.toNat=x at *
     clear hv hc
     go_enter Tryz.func179,Tryz.ntmps179
     go_wp2_with fail
     refine HP.out.mono ?_
     rintro e w1 ⟨rfl,q,rfl⟩
     have HT1:=Lib.hid (HT0.out.drewN q)
     rw [←HR.out]
     clear HT0
     generalize (w.alloc _).drewN q=W1 at *
     go_wp2_with fail
     refine (hexes_any HT1.out.sc H1K.out).mono ?_
     rintro e w2 ⟨hk2,hh⟩
     have HT2:=Lib.hid (Tn.of HT1.out hk2)
     generalize hexV [] (-1) (X.bs.drop k)=H at *
     rcases hh with ⟨h1,rfl⟩|⟨h1,rfl⟩|⟨h1,rfl,h2,h3⟩
     · have HL:=Lib.hid (show V.1=zaX X.last by rw [HV.out,hexK,h1];rfl)
       have HN:=Lib.hid (zcq X.last)
       generalize zaX X.last=er at *
       clear h1
       have HT3:=Lib.hid (HT2.out.alloc (.cells (valC 0 0 za6) 27))
       obtain ⟨⟨k0,k1,k2,k3,k4,k5,k6,k7⟩,f0,f1,f2,f3,f4,f5,f6,f7⟩:=zag HT3.out.blk
       unfold valC za6 at *
       go_wp2
       refine bodyPost_ret (zaa rfl _ _ _ 150 _ (0,0) _ rfl (set8 HT3.out.blk _ _ _ _ _ _ _ _) Tryz.underlying150 rfl zaB _ rfl) rfl ?_
       exact HT3.out.err HL.out HN.out _ _ _ _ _ _ _ _ _ _ _ _ _
     · have HL:=Lib.hid (show V.1=11 by rw [HV.out,hexK,h1];rfl)
       clear h1
       have HT3:=Lib.hid (HT2.out.alloc (.cells (valC 0 0 za6) 27))
       obtain ⟨⟨k0,k1,k2,k3,k4,k5,k6,k7⟩,f0,f1,f2,f3,f4,f5,f6,f7⟩:=zag HT3.out.blk
       unfold valC za6 at *
       go_wp2
       refine bodyPost_ret (zaa rfl _ _ _ 150 _ (0,0) _ rfl (set8 HT3.out.blk _ _ _ _ _ _ _ _) Tryz.underlying150 rfl zaB _ rfl) rfl ?_
       exact HT3.out.err HL.out (by decide) _ _ _ _ _ _ _ _ _ _ _ _ _
     · have HL:=Lib.hid (show V=(0,{ kind:=1,vk:=4,vs:=H.2.1 },H.2.2) by rw [HV.out,hexK,if_pos h1])
       have HA:=Lib.hid (fun x=>za7 x h3)
       have HB:=Lib.hid h2
       obtain ⟨B,hB⟩:∃B,mkB H.2.1=B:=⟨_,rfl⟩
       rw [hB]
       have HBB:=Lib.hid hB
       have HT3:=Lib.hid (HT2.out.alloc (.cells (valC 4 0 B) 27))
       obtain ⟨⟨k0,k1,k2,k3,k4,k5,k6,k7⟩,f0,f1,f2,f3,f4,f5,f6,f7⟩:=zag HT3.out.blk
       unfold valC at *
       clear h1 h2 h3 hB
       go_wp2
       refine bodyPost_ret (zaa rfl _ _ _ 150 _ (0,0) _ rfl (set8 HT3.out.blk _ _ _ _ _ _ _ _) Tryz.underlying150 rfl zaB _ rfl) rfl ?_
       have hbb:=HBB.out
       subst hbb
       exact HT3.out.ok (x:={ kind:=1,vk:=4,vs:=H.2.1 }) HL.out HB.out (HA.out _) _ _ _ _ _ _ _ _
 · have HV:=Lib.hid (hV.trans (opV_out hk))
   unfold zep at hP
   rw [if_neg hk] at hP
   have HP:=Lib.hid hP
   clear hV hk hP hsm
   go_enter Tryz.func179,Tryz.ntmps179
   go_wp2_with fail
   refine HP.out.mono ?_
   rintro e w1 ⟨rfl,q,rfl⟩
   have HT1:=Lib.hid (HT0.out.drewN q)
   rw [←HR.out]
   clear HT0
   generalize (w.alloc _).drewN q=W1 at *
   obtain ⟨⟨k0,k1,k2,k3,k4,k5,k6,k7⟩,f0,f1,f2,f3,f4,f5,f6,f7⟩:=zag HT1.out.blk
   go_wp2_with fail
   refine (zdy HT1.out.sc).mono ?_
   rintro e w2 ⟨rfl,rfl⟩
   have HN:=Lib.hid (zcq X.last)
   go_wp2
   refine bodyPost_ret (zaa rfl _ _ _ 150 _ (0,0) _ rfl (set8 HT1.out.blk _ _ _ _ _ _ _ _) Tryz.underlying150 rfl zaB _ rfl) rfl ?_
   exact HT1.out.err (by rw [HV.out]) HN.out _ _ _ _ _ _ _ _ _ _ _ _ _
def rgV (X:Src) (k:Nat):Int×Tk×List UInt8 :=
 if runN (X.bs.drop k)=(X.bs.drop k).length∧X.last=false then (6,{ kind:=0 },[])
 else if isDg (X.bs.getD k 0)=true∨X.bs.getD k 0=43∨X.bs.getD k 0=45∨X.bs.getD k 0=46 then ((zaK (regs (X.bs.drop k))).2.2,{ kind:=1,vk:=(zaK (regs (X.bs.drop k))).1,vn:=(zaK (regs (X.bs.drop k))).2.1 },(X.bs.drop k).drop (runN (X.bs.drop k)))
 else (0,{ kind:=6,s:=regs (X.bs.drop k) },(X.bs.drop k).drop (runN (X.bs.drop k)))
def firstB (x:Nat):Bool:=(((decide (48≤x)&&decide (x≤57))||decide (x=43))||decide (x=45))||decide (x=46)
theorem firstB_eq (c:UInt8):firstB c.toNat=decide (isDg c=true∨c=43∨c=45∨c=46):=by
 have h1:∀d:UInt8,(c=d)↔c.toNat=d.toNat:=fun d=>UInt8.toNat_inj.symm
 unfold firstB isDg
 simp only [h1,show (43:UInt8).toNat=43 from rfl,show (45:UInt8).toNat=45 from rfl,show (46:UInt8).toNat=46 from rfl]
 rw [Bool.eq_iff_iff]
 simp [or_assoc]
theorem regulars_any {w:World} {S:Nat→Prop} {p:Nat} {X:Src} {k:Nat} (h:ScQ w S p X [] k) (hk:k<X.bs.length) (hrg:isRg (X.bs.getD k 0)=true) :
   Calls Tryz.prog 178 #[.pointer (some ⟨p,0,none⟩)] w (zb0 w S p X (rgV X k)):=by
 obtain ⟨V,hV⟩:∃V,V=rgV X k:=⟨_,rfl⟩
 rw [←hV]
 have hT:=Tm.start h
 obtain ⟨r,hr⟩:∃r,r=w.heap.size:=⟨_,rfl⟩
 rw [←hr] at hT
 have HT0:=Lib.hid hT
 have HR:=Lib.hid hr
 have HW:=Lib.hid (word_any hT.sc (by omega))
 have hsm:=h.facts.2.2.2.1
 have hdl:(X.bs.drop k).length=X.bs.length-k:=by simp
 have hm:=zbd (X.bs.drop k)
 have hm1:1≤runN (X.bs.drop k):=by rw [zat hk,zev _ hrg];omega
 have hlen:(regs (X.bs.drop k)).length=runN (X.bs.drop k):=rfl
 have hhd:(regs (X.bs.drop k)).head?=some (X.bs.getD k 0):=by
   rw [zat hk];unfold regs;rw [List.takeWhile_cons_of_pos hrg];rfl
 have hpos:X.bs.length-((X.bs.drop k).drop (runN (X.bs.drop k))).length=k+runN (X.bs.drop k):=by
   rw [List.length_drop,hdl];omega
 have hle:((X.bs.drop k).drop (runN (X.bs.drop k))).length≤X.bs.length:=by rw [List.length_drop,hdl];omega
 have hBB:(decide (k+runN (X.bs.drop k)<X.bs.length)||X.last)=!decide (runN (X.bs.drop k)=(X.bs.drop k).length∧X.last=false):=by
   rw [hdl]
   cases X.last
   · simp only [Bool.or_false,and_true]
     rw [Bool.eq_iff_iff];simp;omega
   · simp
 have hfb:=firstB_eq (X.bs.getD k 0)
 unfold rgV at hV
 unfold zgp at HW
 rw [hBB] at HW
 rw [hdl] at hm
 clear hT hr h hBB hdl hrg
 generalize (X.bs.drop k).drop (runN (X.bs.drop k))=t at *
 generalize regs (X.bs.drop k)=R at *
 generalize runN (X.bs.drop k)=m at *
 generalize X.bs.getD k 0=c at *
 by_cases hb:m=(X.bs.drop k).length∧X.last=false
 · rw [if_pos hb] at hV
   rw [decide_eq_true hb] at HW
   have HV:=Lib.hid hV
   clear hV hb hhd hfb hpos hle hlen
   go_enter Tryz.func178,Tryz.ntmps178
   go_wp2_with fail
   rw [←HR.out]
   generalize w.alloc _=W1 at *
   refine HW.out.mono ?_
   rintro e w2 ⟨rfl,S2,hq2,hk2,-⟩
   have HT2:=Lib.hid (Tn.of HT0.out hk2)
   obtain ⟨⟨k0,k1,k2,k3,k4,k5,k6,k7⟩,f0,f1,f2,f3,f4,f5,f6,f7⟩:=zag HT2.out.blk
   clear hq2 hk2
   go_wp2
   refine bodyPost_ret (zaa rfl _ _ _ 150 _ (0,0) _ rfl (set8 HT2.out.blk _ _ _ _ _ _ _ _) Tryz.underlying150 rfl zaB _ rfl) rfl ?_
   exact HT2.out.err (by rw [HV.out]) (by decide) _ _ _ _ _ _ _ _ _ _ _ _ _
 · rw [if_neg hb] at hV
   rw [decide_eq_false hb] at HW
   obtain ⟨s,hs⟩:∃s,mkB R=s:=⟨_,rfl⟩
   have hsR:bl s=R:=by rw [←hs];rfl
   have hsz:s.size=m:=by rw [←zaA,hsR,hlen]
   have hs1:0<s.size:=by omega
   have hs2:s.size≤400000:=by omega
   have hx:(s[0]'hs1).toNat=c.toNat:=by
     rw [←hsR] at hhd
     have h2:(bl s)[0]?=some c:=by rw [←List.head?_eq_getElem?];exact hhd
     have h3:s[0]=c:=by
       rw [List.getElem?_eq_getElem (by rw [zaA];omega),bl_get s 0 (by omega)] at h2
       exact Option.some.inj h2
     rw [h3]
   have hcx:c.toNat<256:=c.toNat_lt
   obtain ⟨x,hxx⟩:∃x,c.toNat=x:=⟨_,rfl⟩
   rw [hxx] at hx hcx hfb
   have HPOS:=Lib.hid hpos
   have HLE:=Lib.hid hle
   have HS:=Lib.hid hs
   have HSR:=Lib.hid hsR
   have hh:(48≤x∧x≤57)∨x=43∨x=45∨x=46∨(x<48∧x≠43∧x≠45∧x≠46)∨57<x:=by omega
   clear hlen hhd hb hpos hle hsR hsz hxx hm hm1
   rw [Bool.not_false,hs] at HW
   clear hs
   have HV0:=Lib.hid hV
   have HFB:=Lib.hid hfb
   clear hV hfb
   rcases hh with ⟨h1,h2⟩|rfl|rfl|rfl|⟨h1,h2,h3,h4⟩|h1
   case inr.inr.inr.inr.inl =>
     have HV:=Lib.hid (show V=(0,{ kind:=6,s:=R },t) by
       rw [HV0.out,if_neg (of_decide_eq_false (HFB.out.symm.trans (by unfold firstB;simp;omega)))])
     have e1:decide ((48:Int)≤x)=false:=by simp;omega
     have e2:((x:Int)==43)=false:=by rw [beq_eq_false_iff_ne];omega
     have e3:((x:Int)==45)=false:=by rw [beq_eq_false_iff_ne];omega
     have e4:((x:Int)==46)=false:=by rw [beq_eq_false_iff_ne];omega
     clear h1
     go_enter Tryz.func178,Tryz.ntmps178
     go_wp2_with fail
     rw [←HR.out]
     generalize w.alloc _=W1 at *
     refine HW.out.mono ?_
     rintro e w2 ⟨rfl,S2,hq2,hk2,-⟩
     have HT2:=Lib.hid (Tn.of HT0.out hk2)
     have HC:=Lib.hid (hq2.facts.2.2.2.2.1)
     rw [←HPOS.out] at HC
     obtain ⟨⟨k0,k1,k2,k3,k4,k5,k6,k7⟩,f0,f1,f2,f3,f4,f5,f6,f7⟩:=zag HT2.out.blk
     clear hq2 hk2 h2 h3 h4 hk hcx hsm
     go_wp2
     refine bodyPost_ret (zaa rfl _ _ _ 150 _ (0,0) _ rfl (set8 HT2.out.blk _ _ _ _ _ _ _ _) Tryz.underlying150 rfl zaB _ rfl) rfl ?_
     have hss:=HS.out
     subst hss
     exact HT2.out.ok (x:={ kind:=6,s:=R }) HV.out HLE.out HC.out _ _ _ _ _ _ _ _
   case inr.inr.inr.inr.inr =>
     have HV:=Lib.hid (show V=(0,{ kind:=6,s:=R },t) by
       rw [HV0.out,if_neg (of_decide_eq_false (HFB.out.symm.trans (by unfold firstB;simp;omega)))])
     have e1:decide ((48:Int)≤x)=true:=by simp;omega
     have e0:decide ((x:Int)≤57)=false:=by simp;omega
     have e2:((x:Int)==43)=false:=by rw [beq_eq_false_iff_ne];omega
     have e3:((x:Int)==45)=false:=by rw [beq_eq_false_iff_ne];omega
     have e4:((x:Int)==46)=false:=by rw [beq_eq_false_iff_ne];omega
     clear h1
     go_enter Tryz.func178,Tryz.ntmps178
     go_wp2_with fail
     rw [←HR.out]
     generalize w.alloc _=W1 at *
     refine HW.out.mono ?_
     rintro e w2 ⟨rfl,S2,hq2,hk2,-⟩
     have HT2:=Lib.hid (Tn.of HT0.out hk2)
     have HC:=Lib.hid (hq2.facts.2.2.2.2.1)
     rw [←HPOS.out] at HC
     obtain ⟨⟨k0,k1,k2,k3,k4,k5,k6,k7⟩,f0,f1,f2,f3,f4,f5,f6,f7⟩:=zag HT2.out.blk
     clear hq2 hk2 hk hcx hsm
     go_wp2
     refine bodyPost_ret (zaa rfl _ _ _ 150 _ (0,0) _ rfl (set8 HT2.out.blk _ _ _ _ _ _ _ _) Tryz.underlying150 rfl zaB _ rfl) rfl ?_
     have hss:=HS.out
     subst hss
     exact HT2.out.ok (x:={ kind:=6,s:=R }) HV.out HLE.out HC.out _ _ _ _ _ _ _ _
   all_goals
     have HV:=Lib.hid (show V=((zaK (bl s)).2.2,{ kind:=1,vk:=(zaK (bl s)).1,vn:=(zaK (bl s)).2.1 },t) by
       rw [HSR.out,HV0.out,if_pos (of_decide_eq_true (HFB.out.symm.trans (by unfold firstB;simp;try omega)))])
     try have e1:decide ((48:Int)≤x)=true:=by simp;omega
     try have e0:decide ((x:Int)≤57)=true:=by simp;omega
     try clear h1 h2
     go_enter Tryz.func178,Tryz.ntmps178
     go_wp2_with fail
     rw [←HR.out]
     generalize w.alloc _=W1 at *
     refine HW.out.mono ?_
     rintro e w2 ⟨rfl,S2,hq2,hk2,-⟩
     have HT2:=Lib.hid (Tn.of HT0.out hk2)
     have HC:=Lib.hid (hq2.facts.2.2.2.2.1)
     rw [←HPOS.out] at HC
     clear hq2 hk2 hk hcx hsm HT0 HW
     go_wp2_with fail
     refine (parse_any s w2 hs2).mono ?_
     rintro e w3 ⟨rfl,hb3⟩
     generalize zaK (bl s)=P at *
     have HT3:=Lib.hid ((HT2.out.on hb3).alloc (.cells (valC P.1 P.2.1 za6) 27))
     have HC3:=Lib.hid (za7 (.cells (valC P.1 P.2.1 za6) 27) (cell?_keep hb3 HC.out))
     obtain ⟨⟨k0,k1,k2,k3,k4,k5,k6,k7⟩,f0,f1,f2,f3,f4,f5,f6,f7⟩:=zag HT3.out.blk
     obtain ⟨P1,P2,P3⟩:=P
     simp only [] at *
     unfold valC za6 at *
     clear hb3 HT2 HC
     go_wp2
     refine bodyPost_ret (zaa rfl _ _ _ 150 _ (0,0) _ rfl (set8 HT3.out.blk _ _ _ _ _ _ _ _) Tryz.underlying150 rfl zaB _ rfl) rfl ?_
     exact HT3.out.any (x:={ kind:=1,vk:=P1,vn:=P2 }) HV.out HLE.out HC3.out _ _ _ _ _ _ _ _
theorem zeg (t:List UInt8):t.drop (runN t)=[]↔runN t=t.length:=by
 rw [List.drop_eq_nil_iff]
 have:=zbd t
 omega
theorem zbm {X:Src} {k:Nat} (hk:k<X.bs.length) (h:isRg (X.bs.getD k 0)=true):tokV X.last (X.bs.getD k 0) (X.bs.drop (k+1))=rgV X k:=by
 unfold tokV rgV
 rw [if_pos h,←zat hk]
 simp only [regs_drop,zeg]
 rfl
def slV (last:Bool) (t:List UInt8):Int×Tk×List UInt8 :=
 if runN t=t.length∧last=false then (6,{ kind:=0 },[])
 else match zc8 (regs t) with
   | none=>(17,{ kind:=0 },[])
   | some o=>(0,{ kind:=1,vk:=5,vs:=o },t.drop (runN t))
theorem zdK (last:Bool) (t:List UInt8):tokV last 47 t=slV last t:=by
 unfold tokV slV
 rw [if_neg (by decide),if_neg (by decide),if_neg (by decide),if_neg (by decide),if_neg (by decide),if_neg (by decide),if_pos rfl]
 simp only [regs_drop,zeg]
 rfl
def txK (last:Bool) (H:Option (List UInt8×List UInt8)):Int×Tk×List UInt8:=match H with
 | none=>(zaX last,{ kind:=0 },[])
 | some (x,r)=>(0,{ kind:=1,vk:=4,vs:=x },r)
theorem tokV_text (last:Bool) (t:List UInt8):tokV last 40 t=txK last (za4 last 1 [] t):=by
 unfold tokV txK
 rw [if_neg (by decide),if_neg (by decide),if_neg (by decide),if_neg (by decide),if_neg (by decide),if_pos rfl]
 cases za4 last 1 [] t<;>rfl
theorem tokV_close (X:Src) (k:Nat):tokV X.last 62 (X.bs.drop k)=clV X k:=by
 unfold tokV clV
 rw [if_neg (by decide),if_neg (by decide),if_neg (by decide),if_neg (by decide),if_pos rfl]
 cases X.bs.drop k<;>rfl
theorem tokV_open (X:Src) (k:Nat):tokV X.last 60 (X.bs.drop k)=opV X k:=by
 unfold tokV opV
 rw [if_neg (by decide),if_neg (by decide),if_neg (by decide),if_pos rfl]
 cases X.bs.drop k with
 | nil=>rfl
 | cons d u=>rfl
theorem tokV_91 (last:Bool) (t:List UInt8):tokV last 91 t=(0,{ kind:=2 },t):=by
 unfold tokV;rw [if_neg (by decide),if_pos rfl]
theorem tokV_93 (last:Bool) (t:List UInt8):tokV last 93 t=(0,{ kind:=3 },t):=by
 unfold tokV;rw [if_neg (by decide),if_neg (by decide),if_pos rfl]
theorem tokV_no (last:Bool) (c:UInt8) (t:List UInt8) (h:isRg c=false) (h1:c≠91) (h2:c≠93) (h3:c≠60) (h4:c≠62) (h5:c≠40) (h6:c≠47):tokV last c t=(11,{ kind:=0 },[]):=by
 unfold tokV;rw [if_neg (by simp [h]),if_neg h1,if_neg h2,if_neg h3,if_neg h4,if_neg h5,if_neg h6]
theorem Tn.pass {w W:World} {S:Nat→Prop} {p r:Nat} {X:Src} {V:Int×Tk×List UInt8} (h:Tn w S p r W) {k vk vn:Int} {vs s:ByteArray} {er:Int} (he:V.1=er)
   (hf:V.1=0→k=V.2.1.kind∧vk=V.2.1.vk∧vn=V.2.1.vn∧vs=mkB V.2.1.vs∧s=mkB V.2.1.s∧V.2.2.length≤X.bs.length∧W.cell? ⟨p,3,none⟩=some (.int .i64 ((X.bs.length-V.2.2.length:Nat):Int))) (y0 y1 y2 y3 y4 y5 y6 y7:Value) :
   zb0 w S p X V (.returned (.tuple #[.agg (tokC k 0 0 vk vn vs s),.int .i64 er]))
     ((((((((W.setCell ⟨r,0,none⟩ y0).setCell ⟨r,1,none⟩ y1).setCell ⟨r,2,none⟩ y2).setCell ⟨r,3,none⟩ y3).setCell ⟨r,4,none⟩ y4).setCell ⟨r,5,none⟩ y5).setCell ⟨r,6,none⟩ y6).setCell ⟨r,7,none⟩ y7):=by
 refine ⟨zbi h.keeps h.wr _ _ _ _ _ _ _ _,k,vk,vn,vs,s,by rw [he],fun h0=>?_⟩
 obtain ⟨a,b,c,d,e,f,g⟩:=hf h0
 exact ⟨a,b,c,d,e,f,by rw [zcb h.pr];exact g⟩
theorem token_any {w:World} {S:Nat→Prop} {p:Nat} {X:Src} {k:Nat} (h:ScQ w S p X [] k) (hk:k<X.bs.length) :
   Calls Tryz.prog 154 #[.pointer (some ⟨p,0,none⟩),.int .u8 (X.bs.getD k 0).toNat] w (zb0 w S p X (tokV X.last (X.bs.getD k 0) (X.bs.drop (k+1)))):=by
 obtain ⟨V,hV⟩:∃V,V=tokV X.last (X.bs.getD k 0) (X.bs.drop (k+1)):=⟨_,rfl⟩
 rw [←hV]
 have hT:=Tm.start h
 obtain ⟨r,hr⟩:∃r,r=w.heap.size:=⟨_,rfl⟩
 rw [←hr] at hT
 have HT0:=Lib.hid hT
 have HR:=Lib.hid hr
 have hsm:=h.facts.2.2.2.1
 have hkb:k≤399999:=by omega
 have HRG:=Lib.hid (fun W=>zeW (X.bs.getD k 0) W)
 rw [←rgI_eq] at HRG
 clear hT hr h hsm
 by_cases hrg:isRg (X.bs.getD k 0)=true
 · have HV:=Lib.hid (hV.trans (zbm hk hrg))
   have HK:=Lib.hid (show ∀W:World,Tm w S p r X k W→Calls Tryz.prog 178 #[.pointer (some ⟨p,0,none⟩)] W (zb0 W S p X (rgV X k)) from fun _ h=>regulars_any h.sc hk hrg)
   rw [hrg] at HRG
   clear hV hrg hk
   generalize (X.bs.getD k 0).toNat=x at *
   go_enter Tryz.func154,Tryz.ntmps154
   go_wp2_with (go_at_call 177;refine (HRG.out _).mono ?_;rintro e w' ⟨rfl,rfl⟩)
   rw [←HR.out]
   generalize w.alloc _=W1 at *
   refine (HK.out _ HT0.out).mono ?_
   rintro e w2 ⟨hk2,a,b,c,s1,s2,rfl,hf⟩
   have HT2:=Lib.hid (Tn.of HT0.out hk2)
   obtain ⟨⟨k0,k1,k2,k3,k4,k5,k6,k7⟩,f0,f1,f2,f3,f4,f5,f6,f7⟩:=zag HT2.out.blk
   have HF:=Lib.hid hf
   rw [HV.out]
   obtain ⟨er,her⟩:∃er,(rgV X k).1=er:=⟨_,rfl⟩
   rw [her]
   have HE:=Lib.hid her
   unfold tokC
   clear hk2 hf her
   go_wp2
   refine bodyPost_ret (zaa rfl _ _ _ 150 _ (0,0) _ rfl (set8 HT2.out.blk _ _ _ _ _ _ _ _) Tryz.underlying150 rfl zaB _ rfl) rfl ?_
   rw [HV.out]
   exact HT2.out.pass HE.out HF.out _ _ _ _ _ _ _ _
 · have hrg':isRg (X.bs.getD k 0)=false:=by simpa using hrg
   rw [hrg'] at HRG
   have HRF:=Lib.hid hrg'
   have HK:=Lib.hid hk
   clear hrg hrg'
   by_cases h91:X.bs.getD k 0=91
   · have hv:=hV
     rw [h91,tokV_91 _ _] at hv
     have HV:=Lib.hid hv
     have hx:(X.bs.getD k 0).toNat=91:=by rw [h91];rfl
     rw [hx] at HRG ⊢
     clear hV hv hx h91 hk
     go_enter Tryz.func154,Tryz.ntmps154
     go_wp2_with fail
     rw [←HR.out]
     generalize w.alloc _=W1 at *
     refine (HRG.out _).mono ?_
     rintro e w' ⟨rfl,rfl⟩
     have HT2:=Lib.hid (HT0.out.next HK.out)
     obtain ⟨-,-,-,-,c3,c4,fr⟩:=HT0.out.sc.facts
     have f3:=fr 3
     clear fr
     obtain ⟨⟨k0,k1,k2,k3,k4,k5,k6,k7⟩,f0,f1,f2,f3',f4,f5,f6,f7⟩:=zag HT2.out.blk
     go_wp2
     refine bodyPost_ret (zaa rfl _ _ _ 150 _ (0,0) _ rfl (set8 HT2.out.blk _ _ _ _ _ _ _ _) Tryz.underlying150 rfl zaB _ rfl) rfl ?_
     exact HT2.out.ok (x:={ kind:=2 }) HV.out _ _ _ _ _ _ _ _
   by_cases h93:X.bs.getD k 0=93
   · have hv:=hV
     rw [h93,tokV_93 _ _] at hv
     have HV:=Lib.hid hv
     have hx:(X.bs.getD k 0).toNat=93:=by rw [h93];rfl
     rw [hx] at HRG ⊢
     clear hV hv hx h93 hk
     go_enter Tryz.func154,Tryz.ntmps154
     go_wp2_with fail
     rw [←HR.out]
     generalize w.alloc _=W1 at *
     refine (HRG.out _).mono ?_
     rintro e w' ⟨rfl,rfl⟩
     have HT2:=Lib.hid (HT0.out.next HK.out)
     obtain ⟨-,-,-,-,c3,c4,fr⟩:=HT0.out.sc.facts
     have f3:=fr 3
     clear fr
     obtain ⟨⟨k0,k1,k2,k3,k4,k5,k6,k7⟩,f0,f1,f2,f3',f4,f5,f6,f7⟩:=zag HT2.out.blk
     go_wp2
     refine bodyPost_ret (zaa rfl _ _ _ 150 _ (0,0) _ rfl (set8 HT2.out.blk _ _ _ _ _ _ _ _) Tryz.underlying150 rfl zaB _ rfl) rfl ?_
     exact HT2.out.ok (x:={ kind:=3 }) HV.out _ _ _ _ _ _ _ _
   by_cases h60:X.bs.getD k 0=60
   · have hv:=hV
     rw [h60,tokV_open X (k+1)] at hv
     have HV:=Lib.hid hv
     have hx:(X.bs.getD k 0).toNat=60:=by rw [h60];rfl
     rw [hx] at HRG ⊢
     clear hV hv hx h60 hk
     go_enter Tryz.func154,Tryz.ntmps154
     go_wp2_with fail
     rw [←HR.out]
     generalize w.alloc _=W1 at *
     refine (HRG.out _).mono ?_
     rintro e w' ⟨rfl,rfl⟩
     have HT2:=Lib.hid (HT0.out.next HK.out)
     obtain ⟨-,-,-,-,c3,c4,fr⟩:=HT0.out.sc.facts
     have f3:=fr 3
     clear fr
     go_wp2_with fail
     refine (opening_any HT2.out.sc (by omega)).mono ?_
     rintro e w2 ⟨hk2,a,b,c,s1,s2,rfl,hf⟩
     have HT3:=Lib.hid (Tn.of HT2.out hk2)
     obtain ⟨⟨k0,k1,k2,k3,k4,k5,k6,k7⟩,f0,f1,f2,f3,f4,f5,f6,f7⟩:=zag HT3.out.blk
     have HF:=Lib.hid hf
     obtain ⟨er,her⟩:∃er,(opV X (k+1)).1=er:=⟨_,rfl⟩
     rw [her]
     have HE:=Lib.hid her
     unfold tokC
     clear hk2 hf her c3 c4
     go_wp2
     refine bodyPost_ret (zaa rfl _ _ _ 150 _ (0,0) _ rfl (set8 HT3.out.blk _ _ _ _ _ _ _ _) Tryz.underlying150 rfl zaB _ rfl) rfl ?_
     rw [HV.out]
     exact HT3.out.pass HE.out HF.out _ _ _ _ _ _ _ _
   by_cases h62:X.bs.getD k 0=62
   · have hv:=hV
     rw [h62,tokV_close X (k+1)] at hv
     have HV:=Lib.hid hv
     have hx:(X.bs.getD k 0).toNat=62:=by rw [h62];rfl
     rw [hx] at HRG ⊢
     clear hV hv hx h62 hk
     go_enter Tryz.func154,Tryz.ntmps154
     go_wp2_with fail
     rw [←HR.out]
     generalize w.alloc _=W1 at *
     refine (HRG.out _).mono ?_
     rintro e w' ⟨rfl,rfl⟩
     have HT2:=Lib.hid (HT0.out.next HK.out)
     obtain ⟨-,-,-,-,c3,c4,fr⟩:=HT0.out.sc.facts
     have f3:=fr 3
     clear fr
     go_wp2_with fail
     refine (closing_any HT2.out.sc).mono ?_
     rintro e w2 ⟨hk2,a,b,c,s1,s2,rfl,hf⟩
     have HT3:=Lib.hid (Tn.of HT2.out hk2)
     obtain ⟨⟨k0,k1,k2,k3,k4,k5,k6,k7⟩,f0,f1,f2,f3,f4,f5,f6,f7⟩:=zag HT3.out.blk
     have HF:=Lib.hid hf
     obtain ⟨er,her⟩:∃er,(clV X (k+1)).1=er:=⟨_,rfl⟩
     rw [her]
     have HE:=Lib.hid her
     unfold tokC
     clear hk2 hf her c3 c4
     go_wp2
     refine bodyPost_ret (zaa rfl _ _ _ 150 _ (0,0) _ rfl (set8 HT3.out.blk _ _ _ _ _ _ _ _) Tryz.underlying150 rfl zaB _ rfl) rfl ?_
     rw [HV.out]
     exact HT3.out.pass HE.out HF.out _ _ _ _ _ _ _ _
   by_cases h40:X.bs.getD k 0=40
   · have hv:=hV
     rw [h40,tokV_text _ _] at hv
     have HV:=Lib.hid hv
     have hx:(X.bs.getD k 0).toNat=40:=by rw [h40];rfl
     rw [hx] at HRG ⊢
     clear hV hv hx h40 hk
     go_enter Tryz.func154,Tryz.ntmps154
     go_wp2_with fail
     rw [←HR.out]
     generalize w.alloc _=W1 at *
     refine (HRG.out _).mono ?_
     rintro e w' ⟨rfl,rfl⟩
     have HT2:=Lib.hid (HT0.out.next HK.out)
     obtain ⟨-,-,-,-,c3,c4,fr⟩:=HT0.out.sc.facts
     have f3:=fr 3
     clear fr
     have HTX:=Lib.hid (text_any HT2.out.sc (by omega))
     generalize za4 X.last 1 [] (X.bs.drop (k+1))=H at *
     go_wp2_with fail
     refine HTX.out.mono ?_
     rintro e w2 ⟨hk2,hh⟩
     have HT3:=Lib.hid (Tn.of HT2.out hk2)
     clear hk2 c3 c4 f3 HTX
     cases H
     · obtain rfl:=hh
       have HN:=Lib.hid (zcq X.last)
       have HL:=Lib.hid (show V.1=zaX X.last by rw [HV.out];rfl)
       generalize zaX X.last=er at *
       have HT4:=Lib.hid (HT3.out.alloc (.cells (valC 0 0 za6) 27))
       obtain ⟨⟨k0,k1,k2,k3,k4,k5,k6,k7⟩,f0,f1,f2,f3,f4,f5,f6,f7⟩:=zag HT4.out.blk
       unfold valC za6 at *
       go_wp2
       refine bodyPost_ret (zaa rfl _ _ _ 150 _ (0,0) _ rfl (set8 HT4.out.blk _ _ _ _ _ _ _ _) Tryz.underlying150 rfl zaB _ rfl) rfl ?_
       exact HT4.out.err HL.out HN.out _ _ _ _ _ _ _ _ _ _ _ _ _
     · rename_i val
       obtain ⟨xs,t⟩:=val
       obtain ⟨rfl,h2,h3⟩:=hh
       have HL:=Lib.hid (show V=(0,{ kind:=1,vk:=4,vs:=xs },t) from HV.out)
       have HA:=Lib.hid (fun x=>za7 x h3)
       have HB:=Lib.hid h2
       obtain ⟨B,hB⟩:∃B,mkB xs=B:=⟨_,rfl⟩
       rw [hB]
       have HBB:=Lib.hid hB
       have HT4:=Lib.hid (HT3.out.alloc (.cells (valC 4 0 B) 27))
       obtain ⟨⟨k0,k1,k2,k3,k4,k5,k6,k7⟩,f0,f1,f2,f3,f4,f5,f6,f7⟩:=zag HT4.out.blk
       unfold valC at *
       clear h2 h3 hB
       go_wp2
       refine bodyPost_ret (zaa rfl _ _ _ 150 _ (0,0) _ rfl (set8 HT4.out.blk _ _ _ _ _ _ _ _) Tryz.underlying150 rfl zaB _ rfl) rfl ?_
       have hbb:=HBB.out
       subst hbb
       exact HT4.out.ok (x:={ kind:=1,vk:=4,vs:=xs }) HL.out HB.out (HA.out _) _ _ _ _ _ _ _ _
   by_cases h47:X.bs.getD k 0=47
   · have hv:=hV
     rw [h47,zdK _ _] at hv
     have HV:=Lib.hid hv
     have hx:(X.bs.getD k 0).toNat=47:=by rw [h47];rfl
     rw [hx] at HRG ⊢
     clear hV hv hx h47 hk
     go_enter Tryz.func154,Tryz.ntmps154
     go_wp2_with fail
     rw [←HR.out]
     generalize w.alloc _=W1 at *
     refine (HRG.out _).mono ?_
     rintro e w' ⟨rfl,rfl⟩
     have HT2:=Lib.hid (HT0.out.next HK.out)
     obtain ⟨-,-,-,-,c3,c4,fr⟩:=HT0.out.sc.facts
     have f3:=fr 3
     clear fr
     have HW:=Lib.hid (word_any HT2.out.sc (Nat.lt_of_le_of_lt (Nat.zero_le _) HK.out))
     have hdl:(X.bs.drop (k+1)).length=X.bs.length-(k+1):=by simp
     have hm:=zbd (X.bs.drop (k+1))
     have hlen:(regs (X.bs.drop (k+1))).length=runN (X.bs.drop (k+1)):=rfl
     have hpos:X.bs.length-((X.bs.drop (k+1)).drop (runN (X.bs.drop (k+1)))).length=k+1+runN (X.bs.drop (k+1)):=by
       have:=HK.out
       rw [List.length_drop,hdl];omega
     have hle:((X.bs.drop (k+1)).drop (runN (X.bs.drop (k+1)))).length≤X.bs.length:=by rw [List.length_drop,hdl];omega
     have hBB:(decide (k+1+runN (X.bs.drop (k+1))<X.bs.length)||X.last)=!decide (runN (X.bs.drop (k+1))=(X.bs.drop (k+1)).length∧X.last=false):=by
       have:=HK.out
       rw [hdl] at hm ⊢
       cases X.last
       · simp only [Bool.or_false,and_true]
         rw [Bool.eq_iff_iff];simp;omega
       · simp
     have hv:=HV.out
     unfold slV at hv
     unfold zgp at HW
     rw [hBB] at HW
     have hsm:=HT2.out.sc.facts.2.2.2.1
     rw [hdl] at hm
     clear hBB hdl
     generalize (X.bs.drop (k+1)).drop (runN (X.bs.drop (k+1)))=t at *
     generalize regs (X.bs.drop (k+1))=R at *
     generalize runN (X.bs.drop (k+1))=m at *
     have HPOS:=Lib.hid hpos
     have HLE:=Lib.hid hle
     have hR1:R.length≤400000:=by omega
     clear hpos hle hm hlen hsm
     by_cases hb:m=(X.bs.drop (k+1)).length∧X.last=false
     · rw [if_pos hb] at hv
       rw [decide_eq_true hb] at HW
       have HVV:=Lib.hid hv
       clear hv hb
       go_wp2_with fail
       refine HW.out.mono ?_
       rintro e w2 ⟨rfl,S2,hq2,hk2,-⟩
       have HT3:=Lib.hid (Tn.of HT2.out hk2)
       clear c3 c4 f3 hq2 hk2
       obtain ⟨⟨k0,k1,k2,k3,k4,k5,k6,k7⟩,f0,f1,f2,f3,f4,f5,f6,f7⟩:=zag HT3.out.blk
       go_wp2
       refine bodyPost_ret (zaa rfl _ _ _ 150 _ (0,0) _ rfl (set8 HT3.out.blk _ _ _ _ _ _ _ _) Tryz.underlying150 rfl zaB _ rfl) rfl ?_
       exact HT3.out.err (by rw [HVV.out]) (by decide) _ _ _ _ _ _ _ _ _ _ _ _ _
     · rw [if_neg hb] at hv
       rw [decide_eq_false hb] at HW
       obtain ⟨s,hs⟩:∃s,mkB R=s:=⟨_,rfl⟩
       have hs2:s.size≤400000:=by rw [←hs,zbO];exact hR1
       rw [show R=bl s by rw [←hs];rfl] at hv
       rw [Bool.not_false,hs] at HW
       have HVV:=Lib.hid hv
       clear hv hb hs
       go_wp2_with fail
       refine HW.out.mono ?_
       rintro e w2 ⟨rfl,S2,hq2,hk2,-⟩
       have HT3:=Lib.hid (Tn.of HT2.out hk2)
       have HC:=Lib.hid (hq2.facts.2.2.2.2.1)
       rw [←HPOS.out] at HC
       clear c3 c4 f3 hq2 hk2
       go_wp2_with fail
       refine (name_any s w2 hs2).mono ?_
       rintro e w3 ⟨hb3,hh⟩
       have HT4:=Lib.hid (HT3.out.on hb3)
       have HC4:=Lib.hid (cell?_keep hb3 HC.out)
       clear hb3
       generalize zc8 (bl s)=N at *
       cases N
       · obtain rfl:=hh
         have HT5:=Lib.hid (HT4.out.alloc (.cells (valC 0 0 za6) 27))
         obtain ⟨⟨k0,k1,k2,k3,k4,k5,k6,k7⟩,f0,f1,f2,f3,f4,f5,f6,f7⟩:=zag HT5.out.blk
         unfold valC za6 at *
         go_wp2
         refine bodyPost_ret (zaa rfl _ _ _ 150 _ (0,0) _ rfl (set8 HT5.out.blk _ _ _ _ _ _ _ _) Tryz.underlying150 rfl zaB _ rfl) rfl ?_
         exact HT5.out.err (by rw [HVV.out]) (by decide) _ _ _ _ _ _ _ _ _ _ _ _ _
       · rename_i o
         obtain rfl:=hh
         obtain ⟨B,hB⟩:∃B,mkB o=B:=⟨_,rfl⟩
         rw [hB]
         have HBB:=Lib.hid hB
         have HA:=Lib.hid (fun x=>za7 x HC4.out)
         have HT5:=Lib.hid (HT4.out.alloc (.cells (valC 5 0 B) 27))
         obtain ⟨⟨k0,k1,k2,k3,k4,k5,k6,k7⟩,f0,f1,f2,f3,f4,f5,f6,f7⟩:=zag HT5.out.blk
         unfold valC at *
         clear hB
         go_wp2
         refine bodyPost_ret (zaa rfl _ _ _ 150 _ (0,0) _ rfl (set8 HT5.out.blk _ _ _ _ _ _ _ _) Tryz.underlying150 rfl zaB _ rfl) rfl ?_
         have hbb:=HBB.out
         subst hbb
         exact HT5.out.ok (x:={ kind:=1,vk:=5,vs:=o }) HVV.out HLE.out (HA.out _) _ _ _ _ _ _ _ _
   have HV:=Lib.hid (hV.trans (tokV_no _ _ _ HRF.out h91 h93 h60 h62 h40 h47))
   have hne:∀d:UInt8,X.bs.getD k 0≠d→((((X.bs.getD k 0).toNat:Nat):Int)==(d.toNat:Int))=false:=fun d hd=>by
     rw [beq_eq_false_iff_ne];exact fun e=>hd (UInt8.toNat_inj.1 (Int.ofNat_inj.1 e))
   have e1:=hne 91 h91
   have e2:=hne 93 h93
   have e3:=hne 60 h60
   have e4:=hne 62 h62
   have e5:=hne 40 h40
   have e6:=hne 47 h47
   simp only [show (91:UInt8).toNat=91 from rfl,show (93:UInt8).toNat=93 from rfl,show (60:UInt8).toNat=60 from rfl,show (62:UInt8).toNat=62 from rfl,show (40:UInt8).toNat=40 from rfl,show (47:UInt8).toNat=47 from rfl] at e1 e2 e3 e4 e5 e6
   clear hV h91 h93 h60 h62 h40 h47 hne hk
   generalize (X.bs.getD k 0).toNat=x at *
   go_enter Tryz.func154,Tryz.ntmps154
   go_wp2_with fail
   rw [←HR.out]
   generalize w.alloc _=W1 at *
   refine (HRG.out _).mono ?_
   rintro e w' ⟨rfl,rfl⟩
   have HT2:=Lib.hid (HT0.out.next HK.out)
   obtain ⟨-,-,-,-,c3,c4,fr⟩:=HT0.out.sc.facts
   have f3:=fr 3
   clear fr
   obtain ⟨⟨k0,k1,k2,k3,k4,k5,k6,k7⟩,f0,f1,f2,f3',f4,f5,f6,f7⟩:=zag HT2.out.blk
   go_wp2
   refine bodyPost_ret (zaa rfl _ _ _ 150 _ (0,0) _ rfl (set8 HT2.out.blk _ _ _ _ _ _ _ _) Tryz.underlying150 rfl zaB _ rfl) rfl ?_
   exact HT2.out.err (by rw [HV.out]) (by decide) _ _ _ _ _ _ _ _ _ _ _ _ _
def skN (bs:List UInt8) (b:Bool) (j:Nat):Nat:=if bs.length≤j then bs.length else j+zbb b (bs.drop j)
theorem zgn {bs:List UInt8} {b:Bool} {j:Nat} (h:bs.length≤j):skN bs b j=bs.length:=by unfold skN;rw [if_pos h]
theorem zeO {bs:List UInt8} {b b':Bool} {j:Nat} (h:j<bs.length) (hs:zbb b (bs.getD j 0::bs.drop (j+1))=1+zbb b' (bs.drop (j+1))):skN bs b j=skN bs b' (j+1):=by
 unfold skN
 rw [if_neg (by omega)]
 have hd:bs.drop j=bs.getD j 0::bs.drop (j+1):=by
   rw [List.drop_eq_getElem_cons h];simp [List.getD,h]
 rw [hd,hs]
 by_cases h1:bs.length≤j+1
 · rw [if_pos h1,List.drop_eq_nil_of_le h1]
   simp only [zbb]
   omega
 · rw [if_neg h1];omega
theorem skN_stop {bs:List UInt8} {j:Nat} (h:j<bs.length) (h1:bs.getD j 0≠37) (h2:isSp (bs.getD j 0)=false):skN bs false j=j:=by
 unfold skN
 rw [if_neg (by omega)]
 have hd:bs.drop j=bs.getD j 0::bs.drop (j+1):=by
   rw [List.drop_eq_getElem_cons h];simp [List.getD,h]
 rw [hd,zbb,if_neg h1,if_neg (by rw [h2];decide),Nat.add_zero]
theorem skipV_skN {bs:List UInt8} {k:Int} (h:0≤k):zaC bs k=skN bs false k.toNat:=by
 unfold zaC skN
 rw [if_neg (by omega)]
 by_cases h1:(bs.length:Int)≤k
 · rw [if_pos h1,if_pos (by omega)]
 · rw [if_neg h1,if_neg (by omega)]
theorem skip_any {w:World} {a:Option Addr} {cap:Nat} {bs:List UInt8} (hr:Row w 1 a bs.length cap (bs.map u8C)) (hn:bs.length≤400000) (k:Int) :
   Calls Tryz.prog 153 #[.slice a bs.length cap,.int .i64 k] w fun e w'=>e=.returned (.int .i64 (zaC bs k:Nat))∧w=w':=by
 obtain ⟨V,hV⟩:∃V,V=zaC bs k:=⟨_,rfl⟩
 rw [←hV]
 by_cases hk:k<0
 · have HV:=Lib.hid (show V=0 by rw [hV];unfold zaC;rw [if_pos hk])
   have hkd:decide (k<0)=true:=decide_eq_true hk
   clear hV hr
   go_enter Tryz.func153,Tryz.ntmps153
   go_wp2
   go_ret
   exact ⟨by rw [HV.out];rfl,rfl⟩
 · have hv:=hV.trans (skipV_skN (by omega))
   obtain ⟨j0,hj0⟩:∃j:Nat,k=j:=⟨k.toNat,by omega⟩
   subst hj0
   rw [Int.toNat_natCast] at hv
   have HV:=Lib.hid hv
   have hkd:decide ((j0:Int)<0)=false:=decide_eq_false (by omega)
   have HC:=Lib.hid (fun j (hj:j<bs.length)=>hr.at 0 j hj)
   clear hV hr hv hk
   go_enter Tryz.func153,Tryz.ntmps153
   go_wp2
   go_loop [1,5] (fun i c=>∃(j:Nat) (b:Bool),i=.int .i64 j∧c=.bool b∧Hid (V=skN bs b j))
     (fun i _=>bs.length-(intOf i).toNat)
   case atStart=>exact ⟨j0,false,rfl,rfl,HV⟩
   case round =>
     obtain ⟨j,b,rfl,rfl,HJ⟩:=hrel
     by_cases hj:j<bs.length
     · obtain ⟨b0,off,rfl,-,hc⟩:=HC.out j hj
       have hcj:=hc j hj
       unfold u8C at hcj
       have hji:decide ((j:Int)<bs.length)=true:=by simp;exact hj
       have hjm:j≤399999:=by omega
       have HSP:=Lib.hid (fun W=>zde (bs.getD j 0).toNat W)
       rw [←zeJ] at HSP
       have HG:=Lib.hid (fun b b'=>@zeO bs b b' j hj)
       have HST:=Lib.hid (fun h1 h2=>@skN_stop bs j hj h1 h2)
       have HM:=Lib.hid (show bs.length-(j+1)<bs.length-j by omega)
       have hjd:decide (j<bs.length)=true:=decide_eq_true hj
       clear hc HC hn hkd
       generalize bs.getD j 0=c at *
       cases b
       · by_cases h37:c=37
         · have hx:c.toNat=37:=by rw [h37];rfl
           have HV2:=Lib.hid (HJ.out.trans (HG.out false true (by rw [h37];simp [zbb])))
           rw [hx] at hcj
           clear hx h37
           go_wp2
           go_round
           case rel=>exact ⟨j+1,true,by go_num,rfl,HV2⟩
           case measure=>simpa [intOf] using HM.out
         · have hx:((c.toNat:Int)==37)=false:=by rw [beq_eq_false_iff_ne];exact fun e=>h37 (UInt8.toNat_inj.1 (Int.ofNat_inj.1 e))
           obtain ⟨sp,hsp⟩:∃sp,isSp c=sp:=⟨_,rfl⟩
           rw [hsp] at HSP
           have HS:=Lib.hid hsp
           have H37:=Lib.hid h37
           clear h37 hsp
           cases sp
           · have HV2:=Lib.hid (HJ.out.trans (HST.out H37.out HS.out))
             generalize c.toNat=x at *
             go_wp2_with (go_at_call 155;refine (HSP.out _).mono ?_;rintro e w' ⟨rfl,rfl⟩)
             go_ret
             exact ⟨by rw [HV2.out];rfl,rfl⟩
           · have HV2:=Lib.hid (HJ.out.trans (HG.out false false (by rw [zbb,if_neg H37.out,if_pos HS.out])))
             generalize c.toNat=x at *
             go_wp2_with (go_at_call 155;refine (HSP.out _).mono ?_;rintro e w' ⟨rfl,rfl⟩)
             go_round
             case rel=>exact ⟨j+1,false,by go_num,rfl,HV2⟩
             case measure=>simpa [intOf] using HM.out
       · have HV2:=Lib.hid (HJ.out.trans (HG.out true (c != 10&&c != 13) (by rw [zbb])))
         by_cases h10:c=10
         · have hx:c.toNat=10:=by rw [h10];rfl
           rw [hx] at hcj
           rw [show (c != 10&&c != 13)=false by rw [h10];rfl] at HV2
           clear hx h10
           go_wp2
           go_round
           case rel=>exact ⟨j+1,false,by go_num,rfl,HV2⟩
           case measure=>simpa [intOf] using HM.out
         · by_cases h13:c=13
           · have hx:c.toNat=13:=by rw [h13];rfl
             rw [hx] at hcj
             rw [show (c != 10&&c != 13)=false by rw [h13];rfl] at HV2
             clear hx h10 h13
             go_wp2
             go_round
             case rel=>exact ⟨j+1,false,by go_num,rfl,HV2⟩
             case measure=>simpa [intOf] using HM.out
           · rw [show (c != 10&&c != 13)=true by simp [h10,h13]] at HV2
             have e1:((c.toNat:Int)==10)=false:=by rw [beq_eq_false_iff_ne];exact fun e=>h10 (UInt8.toNat_inj.1 (Int.ofNat_inj.1 e))
             have e2:((c.toNat:Int)==13)=false:=by rw [beq_eq_false_iff_ne];exact fun e=>h13 (UInt8.toNat_inj.1 (Int.ofNat_inj.1 e))
             have e3:((c.toNat:Int) != 10)=true:=by simp only [bne,e1,Bool.not_false]
             have e4:((c.toNat:Int) != 13)=true:=by simp only [bne,e2,Bool.not_false]
             clear h10 h13
             generalize c.toNat=x at *
             go_wp2
             go_round
             case rel=>exact ⟨j+1,true,by go_num,rfl,HV2⟩
             case measure=>simpa [intOf] using HM.out
     · have hji:decide ((j:Int)<bs.length)=false:=decide_eq_false (by omega)
       have HV2:=Lib.hid (HJ.out.trans (zgn (by omega)))
       have hjd:decide (j<bs.length)=false:=decide_eq_false hj
       clear hj HC
       go_wp2
       go_ret
       exact ⟨by rw [HV2.out];rfl,rfl⟩
def tokN (x:Tk) (f t:Int):Array Value:=#[.int .i64 x.kind,.int .i64 f,.int .i64 t,.int .i64 x.vk,.int .i64 x.vn,.string (mkB x.vs),.slice none 0 0,.string (mkB x.s)]
def zaz (w:World) (V:Tk×Int×Int×Int) (e:Ending) (w':World):Prop :=
 e=.returned (.tuple #[.agg (tokN V.1 V.2.1 V.2.2.1),.int .i64 V.2.2.2])∧Below w.heap.size w w'
structure Nx (w:World) (r:Nat) (W:World):Prop where
 blk:W.heap[r]?=some (.cells #[.int .i64 0,.int .i64 0,.int .i64 0,.int .i64 0,.int .i64 0,.string ⟨#[]⟩,.slice none 0 0,.string ⟨#[]⟩] 150 (0,0))
 bel:Below w.heap.size w W
 wr:w.heap.size≤r
theorem Nx.start (w:World):Nx w w.heap.size (w.alloc (.cells #[.int .i64 0,.int .i64 0,.int .i64 0,.int .i64 0,.int .i64 0,.string ⟨#[]⟩,.slice none 0 0,.string ⟨#[]⟩] 150)) :=
 ⟨zac _ rfl,zak _ _,Nat.le_refl _⟩
theorem Nx.on {w W W':World} {r:Nat} (h:Nx w r W) (hb:Below W.heap.size W W'):Nx w r W':=⟨zab hb h.blk,h.bel.trans (hb.mono h.bel.size),h.wr⟩
theorem Nx.alloc {w W:World} {r:Nat} (h:Nx w r W) (o:Obj):Nx w r (W.alloc o):=h.on (zak W o)
theorem Nx.set {w W:World} {r:Nat} (h:Nx w r W) {b:Nat} (hb:w.heap.size≤b) (hn:b≠r) (i:Nat) (v:Value):Nx w r (W.setCell ⟨b,i,none⟩ v) :=
 ⟨by rw [heap_setCell_other _ _ _ _ (Ne.symm hn)];exact h.blk,h.bel.setCell hb v,h.wr⟩
theorem Nx.drewN {w W:World} {r:Nat} (h:Nx w r W) (q:Nat):Nx w r (W.drewN q):=⟨h.blk,zae h.bel q,h.wr⟩
theorem Nx.keeps {w W W':World} {r p:Nat} (h:Nx w r W) (hk:zaf (fun b=>b=p) W W') (hp:w.heap.size≤p) (hn:p≠r):Nx w r W' :=
 ⟨hk.obj h.blk (Ne.symm hn),h.bel.trans (hk.below h.bel.size (fun b hb=>by rw [hb];exact hp)),h.wr⟩
theorem zbg {B:Nat} {w0 w:World} (h:Below B w0 w) {b:Nat} (hb:B≤b) (y0 y1 y2 y3 y4 y5 y6 y7:Value) :
   Below B w0 ((((((((w.setCell ⟨b,0,none⟩ y0).setCell ⟨b,1,none⟩ y1).setCell ⟨b,2,none⟩ y2).setCell ⟨b,3,none⟩ y3).setCell ⟨b,4,none⟩ y4).setCell ⟨b,5,none⟩ y5).setCell ⟨b,6,none⟩ y6).setCell ⟨b,7,none⟩ y7) :=
 (((((((h.setCell hb _).setCell hb _).setCell hb _).setCell hb _).setCell hb _).setCell hb _).setCell hb _).setCell hb _
theorem Nx.fin {w W:World} {r:Nat} {V:Tk×Int×Int×Int} {x:Tk} {f t er:Int} (h:Nx w r W) (hV:V=(x,f,t,er)) (y0 y1 y2 y3 y4 y5 y6 y7:Value) :
   zaz w V (.returned (.tuple #[.agg (tokN x f t),.int .i64 er]))
     ((((((((W.setCell ⟨r,0,none⟩ y0).setCell ⟨r,1,none⟩ y1).setCell ⟨r,2,none⟩ y2).setCell ⟨r,3,none⟩ y3).setCell ⟨r,4,none⟩ y4).setCell ⟨r,5,none⟩ y5).setCell ⟨r,6,none⟩ y6).setCell ⟨r,7,none⟩ y7):=by
 subst hV;exact ⟨rfl,zbg h.bel h.wr _ _ _ _ _ _ _ _⟩
theorem sc_new {w:World} {a:Option Addr} {cap:Nat} {bs:List UInt8} (hr:Row w 1 a bs.length cap (bs.map u8C)) (hn:bs.length≤400000) (last:Bool) {f:Nat} (hf:f<bs.length) :
   ScQ (w.alloc (.cells #[.pointer none,.slice none 0 0,.slice a bs.length cap,.int .i64 f,.bool last] 240)) (fun b=>b=w.heap.size) w.heap.size ⟨a,cap,bs,last⟩ [] f:=by
 refine ⟨.pointer none,.slice none 0 0,⟨zac _ rfl,.inl rfl,World.ownsRow_nil _ _ _ _,fun b hb=>(by cases hb),rfl,fun b hb=>⟨by omega,by rw [zap];omega⟩,hr.mono (zak _ _),fun x hx=>?_,by show f≤bs.length;omega,hn,by simp,fun _=>rfl⟩⟩
 obtain ⟨b,off,ha,hb,-⟩:=hr.2.2.2.2 (by omega)
 have hx':a=some x:=hx
 rw [ha] at hx'
 cases hx'
 exact hb
theorem skipV_le (bs:List UInt8) (k:Int):zaC bs k≤bs.length:=by
 unfold zaC
 split
 · omega
 · split
   · omega
   · have:=zdp false (bs.drop k.toNat)
     rw [List.length_drop] at this;omega
theorem zdz {w:World} {a:Option Addr} {cap:Nat} {bs:List UInt8} (hr:Row w 1 a bs.length cap (bs.map u8C)) (hn:bs.length≤400000) (k:Int) (last:Bool) :
   Calls Tryz.prog 115 #[.slice a bs.length cap,.int .i64 k,.bool last] w (zaz w (zah bs k last)):=by
 obtain ⟨V,hV⟩:∃V,V=zah bs k last:=⟨_,rfl⟩
 rw [←hV]
 unfold zah at hV
 have hT:=Nx.start w
 obtain ⟨r,hrr⟩:∃r,r=w.heap.size:=⟨_,rfl⟩
 rw [←hrr] at hT
 have HT0:=Lib.hid hT
 have HR:=Lib.hid hrr
 clear hT hrr
 have HRW:=Lib.hid hr
 have HN:=Lib.hid hn
 clear hr
 by_cases hk:k<0∨(bs.length:Int)<k
 · rw [if_pos hk] at hV
   have HV:=Lib.hid hV
   clear hV HT0 HR
   by_cases hk0:k<0
   · have hkd:decide (k<0)=true:=decide_eq_true hk0
     clear hk
     go_enter Tryz.func115,Tryz.ntmps115
     go_wp2
     refine bodyPost_ret (zaa rfl _ _ w.heap.size 150 _ (0,0) _ rfl (zac _ rfl) Tryz.underlying150 rfl (by exact zaB) _ rfl) rfl ?_
     rw [HV.out]
     exact ⟨rfl,zak _ _⟩
   · have hk1:(bs.length:Int)<k:=by omega
     have hkd:decide (k<0)=false:=decide_eq_false hk0
     have hkd2:decide ((bs.length:Int)<k)=true:=decide_eq_true hk1
     clear hk
     go_enter Tryz.func115,Tryz.ntmps115
     go_wp2
     refine bodyPost_ret (zaa rfl _ _ w.heap.size 150 _ (0,0) _ rfl (zac _ rfl) Tryz.underlying150 rfl (by exact zaB) _ rfl) rfl ?_
     rw [HV.out]
     exact ⟨rfl,zak _ _⟩
 · rw [if_neg hk] at hV
   have hkd:decide (k<0)=false:=decide_eq_false (by omega)
   have hkd2:decide ((bs.length:Int)<k)=false:=decide_eq_false (by omega)
   have hk0:0≤k:=by omega
   have hk1:k≤bs.length:=by omega
   clear hk
   have HS:=Lib.hid (fun (W:World) (h:Below w.heap.size w W)=>skip_any (HRW.out.mono h) hn k)
   have hfl:=skipV_le bs k
   generalize zaC bs k=f at *
   have HV0:=Lib.hid hV
   clear hV hk0 hk1
   go_enter Tryz.func115,Tryz.ntmps115
   go_wp2_with fail
   refine (HS.out _ HT0.out.bel).mono ?_
   rintro e w' ⟨rfl,rfl⟩
   rw [←HR.out]
   generalize w.alloc _=W1 at *
   have hV:=HV0.out
   clear HV0
   by_cases hf:f=bs.length
   · subst hf
     rw [za3 (by omega)] at hV
     have HV:=Lib.hid hV
     obtain ⟨⟨k0,k1,k2,k3,k4,k5,k6,k7⟩,f0,f1,f2,f3,f4,f5,f6,f7⟩:=zag HT0.out.blk
     clear hV HS
     cases last
     all_goals
       go_wp2
       refine bodyPost_ret (zaa rfl _ _ _ 150 _ (0,0) _ rfl (set8 HT0.out.blk _ _ _ _ _ _ _ _) Tryz.underlying150 rfl zaB _ rfl) rfl ?_
       exact HT0.out.fin HV.out _ _ _ _ _ _ _ _
   · have hf2:f<bs.length:=by omega
     rw [zat hf2] at hV
     have hff:decide (f=bs.length)=false:=decide_eq_false hf
     have hfe:((f:Int)==(bs.length:Int))=false:=by rw [beq_eq_false_iff_ne];omega
     have HSC:=Lib.hid (sc_new (HRW.out.mono HT0.out.bel) hn last hf2)
     have HF:=Lib.hid hf2
     obtain ⟨b0,off,ha,hb0,hc⟩:=HRW.out.at 0 f hf2
     have hcj:=cell?_keep (HT0.out.alloc (.cells #[.pointer none,.slice none 0 0,.slice a bs.length cap,.int .i64 f,.bool last] 240)).bel (hc f hf2)
     have hcj1:=cell?_keep HT0.out.bel (hc f hf2)
     have hb1:¬b0=W1.heap.size:=by have:=HT0.out.bel.size;omega
     unfold u8C at hcj hcj1
     subst ha
     have hb2:b0<W1.heap.size:=by have:=HT0.out.bel.size;omega
     have hfi:(f:Int)<bs.length:=by omega
     have hTK:Calls Tryz.prog 154 #[.pointer (some ⟨W1.heap.size,0,none⟩),.int .u8 (bs.getD f 0).toNat] (W1.alloc (.cells #[.pointer none,.slice none 0 0,.slice (some ⟨b0,off,none⟩) bs.length cap,.int .i64 f,.bool last] 240)) (zb0 _ (fun b=>b=W1.heap.size) W1.heap.size ⟨some ⟨b0,off,none⟩,cap,bs,last⟩ (tokV last (bs.getD f 0) (bs.drop (f+1)))):=token_any HSC.out hf2
     have hV2:V=if (tokV last (bs.getD f 0) (bs.drop (f+1))).1=0 then ((tokV last (bs.getD f 0) (bs.drop (f+1))).2.1,(f:Int),(bs.length:Int)-((tokV last (bs.getD f 0) (bs.drop (f+1))).2.2.length:Int),0) else ({ kind:=0 },(f:Int),(f:Int),(tokV last (bs.getD f 0) (bs.drop (f+1))).1):=hV
     generalize tokV last (bs.getD f 0) (bs.drop (f+1))=T at *
     generalize bs.getD f 0=cc at *
     have HV:=Lib.hid hV2
     have HTK:=Lib.hid hTK
     have hrr:=(Array.getElem?_eq_some_iff.1 HT0.out.blk).1
     have hpw:w.heap.size≤W1.heap.size:=HT0.out.bel.size
     have HT1:=Lib.hid (HT0.out.alloc (.cells #[.pointer none,.slice none 0 0,.slice (some ⟨b0,off,none⟩) bs.length cap,.int .i64 f,.bool last] 240))
     have HPR:=Lib.hid (show W1.heap.size≠r by omega)
     have HPW:=Lib.hid hpw
     have HRR:=Lib.hid hrr
     have HSZ:=Lib.hid (zap W1 (.cells #[.pointer none,.slice none 0 0,.slice (some ⟨b0,off,none⟩) bs.length cap,.int .i64 f,.bool last] 240))
     clear hV hV2 hTK HS hc hrr hpw HSC hb0
     go_wp2_with fail
     refine HTK.out.mono ?_
     rintro e w2 ⟨hk2,kk,vk,vn,vs,s,rfl,hfx⟩
     have HT2:=Lib.hid (HT1.out.keeps hk2 HPW.out HPR.out)
     have hws:W1.heap.size<w2.heap.size:=by have:=hk2.size;rw [HSZ.out] at this;omega
     have HWS:=Lib.hid hws
     have HFX:=Lib.hid hfx
     clear HTK HT1 HSZ hk2 hcj hcj1 hb1 hb2 hfx hws
     generalize W1.alloc _=W1' at *
     generalize W1.heap.size=p at *
     have HT3:=Lib.hid (HT2.out.alloc (.cells (tokC kk 0 0 vk vn vs s) 150))
     obtain ⟨er,her⟩:∃er,T.1=er:=⟨_,rfl⟩
     have HE:=Lib.hid her
     rw [her]
     clear her
     have hr2:r<w2.heap.size:=(Array.getElem?_eq_some_iff.1 HT2.out.blk).1
     have HR2:=Lib.hid hr2
     clear hr2
     by_cases h0:er=0
     · subst h0
       obtain ⟨hkk,hvk,hvn,hvs,hs,htl,hc3⟩:=HFX.out HE.out
       obtain ⟨t,ht⟩:∃t:Nat,t=bs.length-T.2.2.length:=⟨_,rfl⟩
       have hc3':w2.cell? ⟨p,3,none⟩=some (.int .i64 (t:Int)):=by rw [ht];exact hc3
       have HVV:=Lib.hid (show V=(T.2.1,(f:Int),(t:Int),0) by
         rw [HV.out,if_pos HE.out,ht]
         have h2:T.2.2.length≤bs.length:=htl
         congr 3;omega)
       have hcp:=za7 (.cells (tokC kk 0 0 vk vn vs s) 150) hc3'
       have hbr2:(w2.alloc (.cells (tokC kk 0 0 vk vn vs s) 150)).heap[w2.heap.size]?=some (.cells #[.int .i64 kk,.int .i64 0,.int .i64 0,.int .i64 vk,.int .i64 vn,.string vs,.slice none 0 0,.string s] 150 (0,0)):=zac _ rfl
       have HBR2:=Lib.hid hbr2
       have HCP:=Lib.hid hcp
       have HW2:=Lib.hid (show w.heap.size≤w2.heap.size from HT2.out.bel.size)
       have HNR:=Lib.hid (show w2.heap.size≠r from Nat.ne_of_gt HR2.out)
       have HNP:=Lib.hid (show p≠w2.heap.size from Nat.ne_of_lt HWS.out)
       have HKK:=Lib.hid hkk
       have HVK:=Lib.hid hvk
       have HVN:=Lib.hid hvn
       have HVS:=Lib.hid hvs
       have HSS:=Lib.hid hs
       clear hkk hvk hvn hvs hs htl hc3 hc3' hcp hbr2 HE HFX HV ht
       unfold tokC at *
       go_wp2
       generalize w2.alloc _=W3 at *
       generalize w2.heap.size=r2 at *
       have hcp:=HCP.out
       have hnr:=HNR.out
       have hnp:=HNP.out
       obtain ⟨⟨g0,g1,g2,g3,g4,g5,g6,g7⟩,m0,m1,m2,m3,m4,m5,m6,m7⟩:=zag HBR2.out
       have HO1:=Lib.hid (show Nx w r ((W3.setCell ⟨r2,1,none⟩ (.int .i64 f)).setCell ⟨r2,2,none⟩ (.int .i64 t)).drew∧((W3.setCell ⟨r2,1,none⟩ (.int .i64 f)).setCell ⟨r2,2,none⟩ (.int .i64 t)).drew.heap[r2]?=some (.cells #[.int .i64 kk,.int .i64 f,.int .i64 t,.int .i64 vk,.int .i64 vn,.string vs,.slice none 0 0,.string s] 150 (0,0)) from
         ⟨((HT3.out.set HW2.out hnr 1 _).set HW2.out hnr 2 _).drewN 1,heap_setCell_same _ _ 2 _ _ _ (heap_setCell_same W3 _ 1 _ _ _ HBR2.out)⟩)
       have HO2:=Lib.hid (show Nx w r ((W3.setCell ⟨r2,2,none⟩ (.int .i64 t)).setCell ⟨r2,1,none⟩ (.int .i64 f)).drew∧((W3.setCell ⟨r2,2,none⟩ (.int .i64 t)).setCell ⟨r2,1,none⟩ (.int .i64 f)).drew.heap[r2]?=some (.cells #[.int .i64 kk,.int .i64 f,.int .i64 t,.int .i64 vk,.int .i64 vn,.string vs,.slice none 0 0,.string s] 150 (0,0)) from
         ⟨((HT3.out.set HW2.out hnr 2 _).set HW2.out hnr 1 _).drewN 1,heap_setCell_same _ _ 1 _ _ _ (heap_setCell_same W3 _ 2 _ _ _ HBR2.out)⟩)
       go_region
       all_goals
         clear hcp hnp g0 g1 g2 g3 g4 g5 g6 g7 m0 m1 m2 m3 m4 m5 m6 m7
         first
           | (obtain ⟨W4,hW4⟩:∃W4,W4=((W3.setCell ⟨r2,1,none⟩ (.int .i64 f)).setCell ⟨r2,2,none⟩ (.int .i64 t)).drew:=⟨_,rfl⟩;rw [←hW4];have HX4:=Lib.hid (show Nx w r W4 by rw [hW4];exact HO1.out.1);have HB4:=Lib.hid (show W4.heap[r2]?=some (.cells #[.int .i64 kk,.int .i64 f,.int .i64 t,.int .i64 vk,.int .i64 vn,.string vs,.slice none 0 0,.string s] 150 (0,0)) by rw [hW4];exact HO1.out.2))
           | (obtain ⟨W4,hW4⟩:∃W4,W4=((W3.setCell ⟨r2,2,none⟩ (.int .i64 t)).setCell ⟨r2,1,none⟩ (.int .i64 f)).drew:=⟨_,rfl⟩;rw [←hW4];have HX4:=Lib.hid (show Nx w r W4 by rw [hW4];exact HO2.out.1);have HB4:=Lib.hid (show W4.heap[r2]?=some (.cells #[.int .i64 kk,.int .i64 f,.int .i64 t,.int .i64 vk,.int .i64 vn,.string vs,.slice none 0 0,.string s] 150 (0,0)) by rw [hW4];exact HO2.out.2))
         clear hW4
         obtain ⟨⟨g0,g1,g2,g3,g4,g5,g6,g7⟩,m0,m1,m2,m3,m4,m5,m6,m7⟩:=zag HB4.out
         obtain ⟨⟨k0,k1,k2,k3,k4,k5,k6,k7⟩,f0,f1,f2,f3,f4,f5,f6,f7⟩:=zag HX4.out.blk
         go_wp2
         refine bodyPost_ret (zaa rfl _ _ _ 150 _ (0,0) _ rfl (set8 HX4.out.blk _ _ _ _ _ _ _ _) Tryz.underlying150 rfl zaB _ rfl) rfl ?_
         have e1:=HKK.out
         have e2:=HVK.out
         have e3:=HVN.out
         have e4:=HVS.out
         have e5:=HSS.out
         subst e1 e2 e3 e4 e5
         exact HX4.out.fin HVV.out _ _ _ _ _ _ _ _
     · have HVV:=Lib.hid (show V=({ kind:=0 },(f:Int),(f:Int),er) by rw [HV.out,HE.out,if_neg h0])
       have e1:(er==0)=false:=by rw [beq_eq_false_iff_ne];exact h0
       have e2:(er != 0)=true:=by simp only [bne,e1,Bool.not_false]
       clear h0
       obtain ⟨⟨k0,k1,k2,k3,k4,k5,k6,k7⟩,f0,f1,f2,f3,f4,f5,f6,f7⟩:=zag HT3.out.blk
       unfold tokC at *
       go_wp2
       refine bodyPost_ret (zaa rfl _ _ _ 150 _ (0,0) _ rfl (set8 HT3.out.blk _ _ _ _ _ _ _ _) Tryz.underlying150 rfl zaB _ rfl) rfl ?_
       exact HT3.out.fin HVV.out _ _ _ _ _ _ _ _
theorem more_any (e:Int) (w:World):Calls Tryz.prog 190 #[.int .i64 e] w fun x w'=>x=.returned (.int .i64 (moreV e))∧w=w':=by
 unfold moreV
 by_cases h:e=6
 · subst h
   go_enter Tryz.func190,Tryz.ntmps190
   go_wp2
   go_ret
   exact ⟨rfl,rfl⟩
 · have hd:(e==6)=false:=by rw [beq_eq_false_iff_ne];exact h
   rw [if_neg h]
   clear h
   go_enter Tryz.func190,Tryz.ntmps190
   go_wp2
   go_ret
   exact ⟨rfl,rfl⟩
theorem zaS:(Tryz.prog.info? 27).map (·.size)=some 4:=by kernel_rfl
theorem zfS (x:Tk) (f t:Int) (w:World):Calls Tryz.prog 95 #[.agg (tokN x f t)] w fun e w'=>e=.returned (.bool (zaE x))∧Below w.heap.size w w':=by
 unfold tokN zaE
 generalize x.kind=a0 at *
 generalize x.vk=a1 at *
 generalize x.vn=a2 at *
 generalize mkB x.vs=s1 at *
 generalize mkB x.s=s2 at *
 cases h0:(a0==1)
 · go_enter Tryz.func95,Tryz.ntmps95
   go_wp2
   go_ret
   exact ⟨rfl,zak w _⟩
 · go_enter Tryz.func95,Tryz.ntmps95
   go_wp2
   go_ret
   exact ⟨rfl,zak w _⟩
def wordE (s:List UInt8):PV×Int:=match zem s with|none=>(PV.none,11)|some v=>(v,0)
theorem zdB (a b:List UInt8):((mkB a).toList==b)=decide (a=b):=by
 have:(mkB a).toList=a:=by unfold mkB;exact ByteArray.toList_eq _
 rw [this];by_cases h:a=b<;>simp [h]
theorem pword_any (s:List UInt8) (w:World):Calls Tryz.prog 160 #[.string (mkB s)] w fun e w'=>e=.returned (.tuple #[pvA (wordE s).1 (.slice none 0 0),.int .i64 (wordE s).2])∧Below w.heap.size w w':=by
 have h1:=zdB s [116,114,117,101]
 have h2:=zdB s [102,97,108,115,101]
 have h3:=zdB s [110,117,108,108]
 unfold wordE zem pvA
 by_cases g1:s=[116,114,117,101]
 · rw [if_pos g1]
   rw [decide_eq_true g1] at h1
   clear g1 h2 h3
   go_enter Tryz.func160,Tryz.ntmps160
   go_wp2
   refine bodyPost_ret (zaa rfl _ _ w.heap.size 27 _ (0,0) _ rfl (zac _ rfl) Tryz.underlying27 rfl (by exact zaS) _ rfl) rfl ?_
   exact ⟨rfl,zak _ _⟩
 rw [if_neg g1]
 rw [decide_eq_false g1] at h1
 by_cases g2:s=[102,97,108,115,101]
 · rw [if_pos g2]
   rw [decide_eq_true g2] at h2
   clear g1 g2 h3
   go_enter Tryz.func160,Tryz.ntmps160
   go_wp2
   refine bodyPost_ret (zaa rfl _ _ w.heap.size 27 _ (0,0) _ rfl (zac _ rfl) Tryz.underlying27 rfl (by exact zaS) _ rfl) rfl ?_
   exact ⟨rfl,zak _ _⟩
 rw [if_neg g2]
 rw [decide_eq_false g2] at h2
 by_cases g3:s=[110,117,108,108]
 · rw [if_pos g3]
   rw [decide_eq_true g3] at h3
   clear g1 g2 g3
   go_enter Tryz.func160,Tryz.ntmps160
   go_wp2
   refine bodyPost_ret (zaa rfl _ _ w.heap.size 27 _ (0,0) _ rfl (zac _ rfl) Tryz.underlying27 rfl (by exact zaS) _ rfl) rfl ?_
   exact ⟨rfl,zak _ _⟩
 · rw [if_neg g3]
   rw [decide_eq_false g3] at h3
   clear g1 g2 g3
   go_enter Tryz.func160,Tryz.ntmps160
   go_wp2
   refine bodyPost_ret (zaa rfl _ _ w.heap.size 27 _ (0,0) _ rfl (zac _ rfl) Tryz.underlying27 rfl (by exact zaS) _ rfl) rfl ?_
   exact ⟨rfl,zak _ _⟩
def ptrs (gs:List Nat):List Value:=gs.reverse.map fun g=>.pointer (some ⟨g,0,none⟩)
def Lvs (w:World) (B:Nat) (F:Nat→Prop):(Nat→Prop)→List Lv→List Nat→Prop
 | _,[],gs=>gs=[]
 | G,v::st,gs=>∃g t sl cs,gs=g::t∧B≤g∧¬G g∧w.heap[g]?=some (.cells #[.bool v.dict,sl] 166 (0,0))∧w.ownsRow B 27 4 sl v.l.length cs∧IsVs w F v.l cs ∧
     (∀b,sl.ownBlock=some b→¬F b∧¬G b)∧Lvs w B F (fun b=>G b∨b=g∨sl.ownBlock=some b) st t
theorem zaO {w w':World} {base e sz:Nat} {v:Value} {n:Nat} {xs:List Value} (h:w.ownsRow base e sz v n xs) (hk:∀b,v.ownBlock=some b→w'.heap[b]?=w.heap[b]?):w'.ownsRow base e sz v n xs:=by
 obtain ⟨h1,h2⟩:=h
 refine ⟨h1,?_⟩
 rcases h2 with h2|⟨g,cap,cur,hv,hg,hh,r⟩
 · exact .inl h2
 · exact .inr ⟨g,cap,cur,hv,hg,by rw [hk g (by rw [hv];rfl)];exact hh,r⟩
theorem zaN {w:World} {base e sz:Nat} {v:Value} {n:Nat} {xs:List Value} (h:w.ownsRow base e sz v n xs) {b:Nat} (hb:v.ownBlock=some b):∃cs,w.heap[b]?=some (.cells cs e (0,0)):=by
 rcases h.2 with ⟨rfl,_⟩|⟨g,cap,cur,rfl,hg,hh,r⟩
 · cases hb
 · cases hb;exact ⟨cur,hh⟩
theorem zaD {w:World} {base e sz:Nat} {v:Value} {n:Nat} {xs:List Value} (h:w.ownsRow base e sz v n xs):∃a cap,v=.slice a n cap∧n≤cap∧cap≤maxLen:=by
 obtain ⟨a,cap,rfl,hr,_⟩:=Row.of_owns h
 exact ⟨a,cap,rfl,hr.2.1,hr.2.2.1⟩
theorem zai {w:World} {b:Nat} {o:Obj} (h:w.heap[b]?=some o):b<w.heap.size:=(Array.getElem?_eq_some_iff.1 h).1
theorem za5 {w:World} {b c:Nat} {x y:Array Value} {t u:TypeId} {f1 f2:Nat×Nat} (hb:w.heap[b]?=some (.cells x t f1)) (hc:w.heap[c]?=some (.cells y u f2)) (h:t≠u):b≠c:=by
 rintro rfl
 rw [hb] at hc
 injection hc with hc
 injection hc with _ h2 _
 exact h h2
def IsLV (w:World) (b:Nat):Prop:=(∃cs,w.heap[b]?=some (.cells cs 166 (0,0)))∨∃cs,w.heap[b]?=some (.cells cs 27 (0,0))
theorem Lvs.keep' {w w':World} {B:Nat} {F F':Nat→Prop} (hF:zaL F w w') (hFF:∀b,F b→F' b):∀ {st:List Lv} {G G':Nat→Prop} {gs:List Nat},Lvs w B F G st gs →
   (∀b,b<w.heap.size→¬G b→IsLV w b→w'.heap[b]?=w.heap[b]?)→(∀b,F' b→F b∨G b∨w.heap.size≤b)→(∀b,G' b→G b∨w.heap.size≤b)→Lvs w' B F' G' st gs
 | [],_,_,_,h,_,_,_=>h
 | v::st,G,G',_,⟨g,t,sl,cs,h1,h2,h3,h4,h5,h6,h7,h8⟩,hg,hF',hG'=>by
   have hgl:=zai h4
   have hbl:∀b,sl.ownBlock=some b→b<w.heap.size:=fun b hb=>(h5.lt b hb).2
   refine ⟨g,t,sl,cs,h1,h2,fun h=>?_,?_,zaO h5 fun b hb=>hg b (hbl b hb) (h7 b hb).2 (.inr (zaN h5 hb)),IsVs.keep hF hFF _ h6,fun b hb=>⟨fun h=>?_,fun h=>?_⟩,?_⟩
   · rcases hG' g h with h|h
     · exact h3 h
     · omega
   · rw [hg g hgl h3 (.inl ⟨_,h4⟩)];exact h4
   · rcases hF' b h with h|h|h
     · exact (h7 b hb).1 h
     · exact (h7 b hb).2 h
     · have:=hbl b hb;omega
   · rcases hG' b h with h|h
     · exact (h7 b hb).2 h
     · have:=hbl b hb;omega
   · refine Lvs.keep' hF hFF h8 (fun b hb hn=>hg b hb fun h=>hn (.inl h)) (fun b h=>?_) (fun b h=>?_)
     · rcases hF' b h with h|h|h
       · exact .inl h
       · exact .inr (.inl (.inl h))
       · exact .inr (.inr h)
     · rcases h with h|h|h
       · rcases hG' b h with h|h
         · exact .inl (.inl h)
         · exact .inr h
       · exact .inl (.inr (.inl h))
       · exact .inl (.inr (.inr h))
theorem Lvs.keep {w w':World} {B:Nat} {F F':Nat→Prop} (hF:zaL F w w') (hFF:∀b,F b→F' b) {st:List Lv} {G G':Nat→Prop} {gs:List Nat} (h:Lvs w B F G st gs)
   (hg:∀b,b<w.heap.size→¬G b→w'.heap[b]?=w.heap[b]?) (hF':∀b,F' b→F b∨G b∨w.heap.size≤b) (hG':∀b,G' b→G b∨w.heap.size≤b):Lvs w' B F' G' st gs :=
 h.keep' hF hFF (fun b h1 h2 _=>hg b h1 h2) hF' hG'
theorem Lvs.len {w:World} {B:Nat} {F:Nat→Prop}:∀ {st:List Lv} {G:Nat→Prop} {gs:List Nat},Lvs w B F G st gs→gs.length=st.length
 | [],_,_,h=>by cases h;rfl
 | _::_,_,_,⟨_,_,_,_,h1,_,_,_,_,_,_,h8⟩=>by subst h1;simp [h8.len]
structure zav (w0 w:World) (F G:Nat→Prop) (p:Nat) (a:Option Addr) (cap:Nat) (bs:List UInt8) (last:Bool) (st:List Lv) (at_:Int) (gs:List Nat) (osl:Value):Prop where
 blk:w.heap[p]?=some (.cells #[.slice a bs.length cap,.int .i64 at_,.bool last,osl] 160 (0,0))
 base:w0.heap.size≤p
 gp:¬G p
 own:w.ownsRow w0.heap.size 163 1 osl st.length (ptrs gs)
 go:∀b,osl.ownBlock=some b→¬G b
 lvs:Lvs w w0.heap.size F G st gs
 fb:∀b,F b→w0.heap.size≤b∧¬G b∧∃cs,w.heap[b]?=some (.cells cs 27 (0,0))
 gb:∀b,G b→w0.heap.size≤b∧b<w.heap.size
 bel:Below w0.heap.size w0 w
 row:Row w0 1 a bs.length cap (bs.map u8C)
 small:bs.length≤400000
 deep:st.length≤64
section
variable {w0 w w' : World} {F F' G G' : Nat → Prop} {p : Nat} {a : Option Addr} {cap : Nat} {bs : List UInt8} {last : Bool} {st : List Lv} {at_ : Int} {gs : List Nat} {osl : Value}
theorem zav.lt (h:zav w0 w F G p a cap bs last st at_ gs osl):p<w.heap.size:=zai h.blk
theorem zav.frame' (h:zav w0 w F G p a cap bs last st at_ gs osl) (hk:zaf G w w') (hG':∀b,G' b→G b∨(w.heap.size≤b∧b<w'.heap.size)) (hFF:∀b,F b→F' b) (hF':∀b,F' b→F b∨(w.heap.size≤b∧¬G' b∧∃cs,w'.heap[b]?=some (.cells cs 27 (0,0)))) :
   zav w0 w' F' G' p a cap bs last st at_ gs osl:=by
 have hsz:=h.bel.size
 have hp:=h.lt
 have hFl:∀b,F b→b<w.heap.size:=fun b hb=>by obtain ⟨_,_,cs,hc⟩:=h.fb b hb;exact zai hc
 have hol:∀b,osl.ownBlock=some b→b<w.heap.size:=fun b hb=>(h.own.lt b hb).2
 refine ⟨by rw [hk.block p hp h.gp];exact h.blk,h.base,fun h1=>?_,zaO h.own fun b hb=>hk.block b (hol b hb) (h.go b hb),fun b hb h1=>?_,?_,fun b hb=>?_,fun b hb=>?_,?_,h.row,h.small,h.deep⟩
 · rcases hG' p h1 with h1|h1
   · exact h.gp h1
   · omega
 · rcases hG' b h1 with h1|h1
   · exact h.go b hb h1
   · have:=hol b hb;omega
 · refine h.lvs.keep ⟨hk.size,fun b hb hf=>hk.block b hb (h.fb b hf).2.1⟩ hFF (fun b hb hn=>hk.block b hb hn) (fun b hb=>?_) (fun b hb=>?_)
   · rcases hF' b hb with h1|h1
     · exact .inl h1
     · exact .inr (.inr h1.1)
   · exact (hG' b hb).imp id fun h=>h.1
 · rcases hF' b hb with h1|⟨h1,h2,h3⟩
   · obtain ⟨h2,h3,cs,h4⟩:=h.fb b h1
     refine ⟨h2,fun h5=>?_,cs,by rw [hk.block b (hFl b h1) h3];exact h4⟩
     rcases hG' b h5 with h5|h5
     · exact h3 h5
     · have:=hFl b h1;omega
   · exact ⟨by omega,h2,h3⟩
 · have:=hk.size
   rcases hG' b hb with h1|h1
   · have:=h.gb b h1;omega
   · omega
 · exact h.bel.trans ⟨hk.os,hk.tape,hk.output,hk.size,fun b hb=>hk.block b (by omega) (fun h1=>by have:=h.gb b h1;omega)⟩
theorem zav.frame (h:zav w0 w F G p a cap bs last st at_ gs osl) (hk:zaf G w w') (hG':∀b,G' b→G b∨(w.heap.size≤b∧b<w'.heap.size)):zav w0 w' F G' p a cap bs last st at_ gs osl :=
 h.frame' hk hG' (fun _ h=>h) (fun _ h=>.inl h)
theorem zav.mono (h:zav w0 w F G p a cap bs last st at_ gs osl) (hb:Below w.heap.size w w'):zav w0 w' F G p a cap bs last st at_ gs osl :=
 h.frame ⟨hb.os,hb.tape,hb.output,hb.size,fun b h1 _=>hb.block b h1⟩ (fun _ h=>.inl h)
theorem zav.cells (h:zav w0 w F G p a cap bs last st at_ gs osl):(w.cell? ⟨p,0,none⟩=some (.slice a bs.length cap)∧w.cell? ⟨p,1,none⟩=some (.int .i64 at_)∧w.cell? ⟨p,2,none⟩=some (.bool last)∧w.cell? ⟨p,3,none⟩=some osl) ∧
   (w.frozen? ⟨p,0,none⟩=false∧w.frozen? ⟨p,1,none⟩=false∧w.frozen? ⟨p,2,none⟩=false∧w.frozen? ⟨p,3,none⟩=false):=zam h.blk
theorem zav.notF (h:zav w0 w F G p a cap bs last st at_ gs osl) {b:Nat} (hb:F b):b≠p:=by obtain ⟨_,_,cs,hc⟩:=h.fb b hb;exact za5 hc h.blk (by decide)
theorem zav.setAt (h:zav w0 w F G p a cap bs last st at_ gs osl) (at2:Int):zav w0 (w.setCell ⟨p,1,none⟩ (.int .i64 at2)) F G p a cap bs last st at2 gs osl:=by
 have hk:∀b,b≠p→(w.setCell ⟨p,1,none⟩ (.int .i64 at2)).heap[b]?=w.heap[b]?:=fun b hb=>heap_setCell_other _ _ _ _ hb
 have hs:(w.setCell ⟨p,1,none⟩ (.int .i64 at2)).heap.size=w.heap.size:=by simp [World.setCell]
 have hl:∀ {st:List Lv} {G:Nat→Prop} {gs:List Nat},Lvs w w0.heap.size F G st gs→Lvs (w.setCell ⟨p,1,none⟩ (.int .i64 at2)) w0.heap.size F G st gs:=by
   intro st
   induction st with
   | nil=>exact fun h=>h
   | cons v st ih =>
     rintro G gs ⟨g,t,sl,cs,h1,h2,h3,h4,h5,h6,h7,h8⟩
     exact ⟨g,t,sl,cs,h1,h2,h3,by rw [hk g (za5 h4 h.blk (by decide))];exact h4,zaO h5 fun b hb=>hk b (by obtain ⟨cs,hc⟩:=zaN h5 hb;exact za5 hc h.blk (by decide)),
       IsVs.keep ⟨by omega,fun b _ hb=>hk b (h.notF hb)⟩ (fun _ h=>h) _ h6,h7,ih h8⟩
 exact ⟨heap_setCell_same w p 1 _ _ _ h.blk,h.base,h.gp,zaO h.own fun b hb=>hk b (by obtain ⟨cs,hc⟩:=zaN h.own hb;exact za5 hc h.blk (by decide)),h.go,hl h.lvs,fun b hb=>by
   obtain ⟨h1,h2,cs,h3⟩:=h.fb b hb
   exact ⟨h1,h2,cs,by rw [hk b (h.notF hb)];exact h3⟩,fun b hb=>by rw [hs];exact h.gb b hb,h.bel.trans ((Below.refl _ _).setCell h.base _),h.row,h.small,h.deep⟩
theorem zav.drewN (h:zav w0 w F G p a cap bs last st at_ gs osl) (q:Nat):zav w0 (w.drewN q) F G p a cap bs last st at_ gs osl:=h.mono (zae (Below.refl _ _) q)
theorem zav.alloc (h:zav w0 w F G p a cap bs last st at_ gs osl) (o:Obj):zav w0 (w.alloc o) F G p a cap bs last st at_ gs osl:=h.mono (zak w o)
theorem zav.bytes (h:zav w0 w F G p a cap bs last st at_ gs osl):Row w 1 a bs.length cap (bs.map u8C):=h.row.mono h.bel
theorem zav.res (h:zav w0 w F G p a cap bs last st at_ gs osl) (hb:Below w.heap.size w w') (hG':∀b,G' b→G b∨(w.heap.size≤b∧b<w'.heap.size)):zav w0 w' F G' p a cap bs last st at_ gs osl :=
 h.frame ⟨hb.os,hb.tape,hb.output,hb.size,fun b h1 _=>hb.block b h1⟩ hG'
theorem zav.set (h:zav w0 w F G p a cap bs last st at_ gs osl) {r:Nat} (hr:G r) (i:Nat) (v:Value):zav w0 (w.setCell ⟨r,i,none⟩ v) F G p a cap bs last st at_ gs osl :=
 h.frame ((zaf.refl G w).setCell (a:=⟨r,i,none⟩) (.inl hr) v) (fun _ h=>.inl h)
theorem zav.set8 (h:zav w0 w F G p a cap bs last st at_ gs osl) {r:Nat} (hr:G r) (y0 y1 y2 y3 y4 y5 y6 y7:Value) :
   zav w0 ((((((((w.setCell ⟨r,0,none⟩ y0).setCell ⟨r,1,none⟩ y1).setCell ⟨r,2,none⟩ y2).setCell ⟨r,3,none⟩ y3).setCell ⟨r,4,none⟩ y4).setCell ⟨r,5,none⟩ y5).setCell ⟨r,6,none⟩ y6).setCell ⟨r,7,none⟩ y7) F G p a cap bs last st at_ gs osl :=
 (((((((h.set hr _ _).set hr _ _).set hr _ _).set hr _ _).set hr _ _).set hr _ _).set hr _ _).set hr _ _
theorem zav.set4 (h:zav w0 w F G p a cap bs last st at_ gs osl) {r:Nat} (hr:G r) (y0 y1 y2 y3:Value) :
   zav w0 ((((w.setCell ⟨r,0,none⟩ y0).setCell ⟨r,1,none⟩ y1).setCell ⟨r,2,none⟩ y2).setCell ⟨r,3,none⟩ y3) F G p a cap bs last st at_ gs osl :=
 (((h.set hr _ _).set hr _ _).set hr _ _).set hr _ _
theorem zav.give (h:zav w0 w F G p a cap bs last st at_ gs osl) (hG:∀b,G' b→G b):zav w0 w F G' p a cap bs last st at_ gs osl:=h.frame (zaf.refl G w) fun b hb=>.inl (hG b hb)
end
theorem zaw {w w':World} {S:Nat→Prop} (h:Below w.heap.size w w'):zaf S w w':=⟨h.os,h.tape,h.output,h.size,fun b hb _=>h.block b hb⟩
section
variable {w0 w w' : World} {F G : Nat → Prop} {p : Nat} {a : Option Addr} {cap : Nat} {bs : List UInt8} {last : Bool} {st : List Lv} {at_ : Int}
def Stk (w0 w:World) (F G:Nat→Prop) (p:Nat) (a:Option Addr) (cap:Nat) (bs:List UInt8) (last:Bool) (st:List Lv) (at_:Int):Prop:=∃gs osl,zav w0 w F G p a cap bs last st at_ gs osl
structure Nxt (w0 w:World) (F G:Nat→Prop) (p:Nat) (a:Option Addr) (cap:Nat) (bs:List UInt8) (last:Bool) (st:List Lv) (at_:Int) (F':Nat→Prop) (w':World):Prop where
 stk:Stk w0 w' F' G p a cap bs last st at_
 sg:zaL G w w'
 sf:zaL F w w'
 ff:∀b,F b→F' b
end
section
variable {w w' : World} {p q u o0 o1 o2 r : Nat} {x0 x1 x2 : Value}
def S3 (w:World) (p o0:Nat) (x0:Value) (q o1:Nat) (x1:Value) (u o2:Nat) (x2:Value):Prop:=w.cell? ⟨p,o0,none⟩=some x0∧w.cell? ⟨q,o1,none⟩=some x1∧w.cell? ⟨u,o2,none⟩=some x2
theorem S3.below (h:S3 w p o0 x0 q o1 x1 u o2 x2) (hb:Below w.heap.size w w'):S3 w' p o0 x0 q o1 x1 u o2 x2:=⟨cell?_keep hb h.1,cell?_keep hb h.2.1,cell?_keep hb h.2.2⟩
theorem S3.alloc (h:S3 w p o0 x0 q o1 x1 u o2 x2) (o:Obj):S3 (w.alloc o) p o0 x0 q o1 x1 u o2 x2:=h.below (zak w o)
theorem S3.drew (h:S3 w p o0 x0 q o1 x1 u o2 x2):S3 w.drew p o0 x0 q o1 x1 u o2 x2:=h
theorem S3.set8 (h:S3 w p o0 x0 q o1 x1 u o2 x2) (hp:p≠r) (hq:q≠r) (hu:u≠r) (y0 y1 y2 y3 y4 y5 y6 y7:Value) :
   S3 ((((((((w.setCell ⟨r,0,none⟩ y0).setCell ⟨r,1,none⟩ y1).setCell ⟨r,2,none⟩ y2).setCell ⟨r,3,none⟩ y3).setCell ⟨r,4,none⟩ y4).setCell ⟨r,5,none⟩ y5).setCell ⟨r,6,none⟩ y6).setCell ⟨r,7,none⟩ y7) p o0 x0 q o1 x1 u o2 x2 :=
 ⟨(zcb hp _ _ _ _ _ _ _ _ _).trans h.1,(zcb hq _ _ _ _ _ _ _ _ _).trans h.2.1,(zcb hu _ _ _ _ _ _ _ _ _).trans h.2.2⟩
end
structure TkM (w W:World) (r:Nat) (cs:Array Value):Prop where
 bel:Below w.heap.size w W
 blk:W.heap[r]?=some (.cells cs 150 (0,0))
 new:w.heap.size≤r
section
variable {w0 w w' : World} {F F' G : Nat → Prop} {p : Nat} {a : Option Addr} {cap : Nat} {bs : List UInt8} {last : Bool} {st : List Lv} {at_ : Int} {gs : List Nat} {osl : Value}
theorem pnext_any (h:zav w0 w F G p a cap bs last st at_ gs osl):Calls Tryz.prog 81 #[.pointer (some ⟨p,0,none⟩)] w fun e w' =>
   e=.returned (.tuple #[.agg (tokN (zah bs at_ last).1 (zah bs at_ last).2.1 (zah bs at_ last).2.2.1),.int .i64 (zah bs at_ last).2.2.2]) ∧
   zav w0 w' F G p a cap bs last st (if (zah bs at_ last).2.2.2=0 then (zah bs at_ last).2.2.1 else at_) gs osl∧zaf (fun b=>b=p) w w':=by
 have HN:=Lib.hid (fun (W:World) (hb:Below w.heap.size w W)=>zdz (h.bytes.mono hb) h.small at_ last)
 generalize zah bs at_ last=V at *
 unfold zaz tokN at HN
 obtain ⟨x,f,t,er⟩:=V
 simp only at HN ⊢
 unfold tokN
 generalize x.kind=a0 at *
 generalize x.vk=a1 at *
 generalize x.vn=a2 at *
 generalize mkB x.vs=s1 at *
 generalize mkB x.s=s2 at *
 have HS:=Lib.hid h
 have hpw:=h.lt
 clear h
 go_enter Tryz.func81,Tryz.ntmps81
 go_wp2
 have HB1:=Lib.hid (zak w (.cells #[.int .i64 0,.int .i64 0,.int .i64 0,.int .i64 0,.int .i64 0,.string ⟨#[]⟩,.slice none 0 0,.string ⟨#[]⟩] 150))
 have HS1:=Lib.hid (HS.out.mono HB1.out)
 have HR1:=Lib.hid (zac (w:=w) (b:=w.heap.size) (.cells #[.int .i64 0,.int .i64 0,.int .i64 0,.int .i64 0,.int .i64 0,.string ⟨#[]⟩,.slice none 0 0,.string ⟨#[]⟩] 150) rfl)
 generalize w.alloc _=W1 at *
 obtain ⟨r,hr⟩:∃r,r=w.heap.size:=⟨_,rfl⟩
 have hpr0:p≠r:=by omega
 rw [←hr] at HR1 ⊢
 have HRR:=Lib.hid hr
 clear hr hpw
 obtain ⟨⟨c0,c1,c2,c3⟩,f0,f1,f2,f3⟩:=HS1.out.cells
 have HA1:=Lib.hid (fun o:Obj=>(zak W1 o).drew)
 have HA2:=Lib.hid (fun o:Obj=>HB1.out.trans ((HA1.out o).mono (show w.heap.size≤W1.heap.size from HB1.out.size)))
 have HC0:Hid (S3 W1 p 0 (.slice a bs.length cap) p 1 (.int .i64 at_) p 2 (.bool last)):=Lib.hid ⟨c0,c1,c2⟩
 have hpr:p≠W1.heap.size:=Nat.ne_of_lt HS1.out.lt
 have HR1L:=Lib.hid (show r<W1.heap.size from zai HR1.out)
 go_region_held3 (fun w'=>w'.cell? ⟨p,0,none⟩=some (.slice a bs.length cap)∧w'.cell? ⟨p,1,none⟩=some (.int .i64 at_)∧w'.cell? ⟨p,2,none⟩=some (.bool last))
   ((show S3 _ p 0 (.slice a bs.length cap) p 1 (.int .i64 at_) p 2 (.bool last);(first
     | (with_reducible exact HC0.out.drew)
     | (with_reducible exact HC0.out)
     | (with_reducible exact (HC0.out.alloc _).drew)
     | (with_reducible exact Hid.out (by assumption))
     | (with_reducible exact S3.alloc (Hid.out (by assumption)) _)
     | (with_reducible exact S3.set8 (Hid.out (by assumption)) hpr hpr hpr _ _ _ _ _ _ _ _))))
   ((go_at_call 115;first
     | ((with_reducible refine (HN.out _ HB1.out.drew).mono ?_);rintro e wN ⟨rfl,hbN⟩;have hbM:Below W1.heap.size W1 wN:=(Below.refl _ _).drew.trans hbN;have HSN:=Lib.hid (HC0.out.below hbM))
     | ((with_reducible refine (HN.out _ (HA2.out _)).mono ?_);rintro e wN ⟨rfl,hbN⟩;have hbM:Below W1.heap.size W1 wN:=(HA1.out _).trans (hbN.mono (HA1.out _).size);have HSN:=Lib.hid (HC0.out.below hbM);have HZ:=Lib.hid (zab hbN (zac (w:=W1) (b:=W1.heap.size) (.cells #[.int .i64 0,.int .i64 0,.int .i64 0,.int .i64 0,.int .i64 0,.string ⟨#[]⟩,.slice none 0 0,.string ⟨#[]⟩] 150) rfl));obtain ⟨⟨z0,z1,z2,z3,z4,z5,z6,z7⟩,y0,y1,y2,y3,y4,y5,y6,y7⟩:=zag HZ.out)))
 all_goals
   first
     | (obtain ⟨W2,hW2⟩:∃W2,W2=wN.alloc (.cells #[.int .i64 a0,.int .i64 f,.int .i64 t,.int .i64 a1,.int .i64 a2,.string s1,.slice none 0 0,.string s2] 150):=⟨_,rfl⟩
        rw [←hW2]
        have HT:=Lib.hid (show TkM W1 W2 wN.heap.size #[.int .i64 a0,.int .i64 f,.int .i64 t,.int .i64 a1,.int .i64 a2,.string s1,.slice none 0 0,.string s2] from ⟨by rw [hW2];exact hbM.alloc hbM.size _,by rw [hW2];exact zac _ rfl,hbM.size⟩)
        obtain ⟨r2,hr2⟩:∃r2,r2=wN.heap.size:=⟨_,rfl⟩
        rw [←hr2] at HT ⊢)
     | (obtain ⟨W2,hW2⟩:∃W2,W2=((((((((wN.setCell ⟨W1.heap.size,0,none⟩ (.int .i64 a0)).setCell ⟨W1.heap.size,1,none⟩ (.int .i64 f)).setCell ⟨W1.heap.size,2,none⟩ (.int .i64 t)).setCell ⟨W1.heap.size,3,none⟩ (.int .i64 a1)).setCell ⟨W1.heap.size,4,none⟩ (.int .i64 a2)).setCell ⟨W1.heap.size,5,none⟩ (.string s1)).setCell ⟨W1.heap.size,6,none⟩ (.slice none 0 0)).setCell ⟨W1.heap.size,7,none⟩ (.string s2)):=⟨_,rfl⟩
        rw [←hW2]
        have HT:=Lib.hid (show TkM W1 W2 W1.heap.size #[.int .i64 a0,.int .i64 f,.int .i64 t,.int .i64 a1,.int .i64 a2,.string s1,.slice none 0 0,.string s2] from ⟨by rw [hW2];exact zbg hbM (Nat.le_refl _) _ _ _ _ _ _ _ _,by rw [hW2];exact set8 HZ.out _ _ _ _ _ _ _ _,Nat.le_refl _⟩)
        clear z0 z1 z2 z3 z4 z5 z6 z7 y0 y1 y2 y3 y4 y5 y6 y7 HZ
        obtain ⟨r2,hr2⟩:∃r2,r2=W1.heap.size:=⟨_,rfl⟩
        rw [←hr2] at HT ⊢)
   clear hW2 hr2 hbN hbM HSN
   have HS2:=Lib.hid (HS1.out.mono HT.out.bel)
   have HR2:=Lib.hid (zab HT.out.bel HR1.out)
   have hp2:p≠r2:=by have:=HT.out.new;have:=HS1.out.lt;omega
   have hr22:r≠r2:=by have:=HT.out.new;have:=HR1L.out;omega
   have HB2:=Lib.hid (HB1.out.trans (HT.out.bel.mono HB1.out.size))
   clear c0 c1 c2 c3 f0 f1 f2 f3 hpr
   obtain ⟨⟨c0,c1,c2,c3⟩,f0,f1,f2,f3⟩:=HS2.out.cells
   obtain ⟨⟨k0,k1,k2,k3,k4,k5,k6,k7⟩,m0,m1,m2,m3,m4,m5,m6,m7⟩:=zag HT.out.blk
   obtain ⟨⟨g0,g1,g2,g3,g4,g5,g6,g7⟩,l0,l1,l2,l3,l4,l5,l6,l7⟩:=zag HR2.out
   by_cases her:er=0
   · subst her
     go_wp2
     refine bodyPost_ret (zaa rfl _ _ r 150 _ (0,0) _ rfl (set8 ((heap_setCell_other _ _ _ _ (Ne.symm hpr0)).trans HR2.out) _ _ _ _ _ _ _ _) Tryz.underlying150 rfl zaB _ rfl) rfl ?_
     refine ⟨rfl,?_,?_⟩
     · exact (((HS.out.res (G':=fun b=>G b∨b=r) HB2.out (fun b hb=>hb.imp id fun e=>by rw [e];exact ⟨Nat.le_of_eq HRR.out.symm,zai HR2.out⟩)).setAt t).set8 (.inr rfl) _ _ _ _ _ _ _ _).give fun b hb=>.inl hb
     · exact zbi (zaf.setCell (S:=fun b=>b=p) (a:=⟨p,1,none⟩) (zaw HB2.out) (.inl rfl) _) (Nat.le_of_eq HRR.out.symm) _ _ _ _ _ _ _ _
   · have e1:(er==0)=false:=by rw [beq_eq_false_iff_ne];exact her
     go_wp2
     refine bodyPost_ret (zaa rfl _ _ r 150 _ (0,0) _ rfl (set8 HR2.out _ _ _ _ _ _ _ _) Tryz.underlying150 rfl zaB _ rfl) rfl ?_
     refine ⟨rfl,?_,?_⟩
     · exact ((HS.out.res (G':=fun b=>G b∨b=r) HB2.out (fun b hb=>hb.imp id fun e=>by rw [e];exact ⟨Nat.le_of_eq HRR.out.symm,zai HR2.out⟩)).set8 (.inr rfl) _ _ _ _ _ _ _ _).give fun b hb=>.inl hb
     · exact zbi (zaw HB2.out) (Nat.le_of_eq HRR.out.symm) _ _ _ _ _ _ _ _
def topP:List Nat→Option Addr
 | []=>none
 | g::_=>some ⟨g,0,none⟩
theorem zgA (h:zav w0 w F G p a cap bs last st at_ gs osl):Calls Tryz.prog 83 #[.pointer (some ⟨p,0,none⟩)] w fun e w'=>e=.returned (.pointer (topP gs))∧∃q,w'=w.drewN q:=by
 have hl:=h.lvs.len
 have hd:=h.deep
 obtain ⟨ao,oc,rfl,hro,-⟩:=Row.of_owns h.own
 obtain ⟨⟨c0,c1,c2,c3⟩,f0,f1,f2,f3⟩:=h.cells
 cases gs with
 | nil =>
   have h0:st.length=0:=by simpa using hl.symm
   rw [h0] at c3
   clear hl hro h h0 hd
   go_enter Tryz.func83,Tryz.ntmps83
   go_wp2
   go_ret
   exact ⟨rfl,0,rfl⟩
 | cons g t =>
   have h0:st.length=t.length+1:=by simpa using hl.symm
   rw [h0] at hro c3 hd
   obtain ⟨b,off,rfl,hb,hc⟩:=hro.2.2.2.2 (by omega)
   have hcell:=hc t.length (.pointer (some ⟨g,0,none⟩)) (by simp [ptrs])
   have hce:decide (t.length+1=0)=false:=by simp
   have hci:((t.length:Int)+1==0)=false:=by rw [beq_eq_false_iff_ne];omega
   have h1:(0:Int)≤(t.length:Int)+1-1:=by omega
   have h2:((t.length:Int)+1-1).toNat=t.length:=by omega
   have h3:IntKind.i64.wrap ((t.length:Int)+1-1)=(t.length:Int):=by rw [IntWalk.i64_in _ (by omega)];omega
   have h4:(t.length:Int)<(t.length:Int)+1:=by omega
   have h5:(0:Int)≤(t.length:Int):=by omega
   have h6:((t.length:Int)).toNat=t.length:=by omega
   clear hc hro hl h h0
   unfold topP
   generalize t.length=n at *
   go_enter Tryz.func83,Tryz.ntmps83
   go_wp2
   go_quiet (fail)
   go_wp2
   go_ret
   exact ⟨rfl,_,rfl⟩
end
structure IsRd (w0 w:World) (p:Nat) (a:Option Addr) (cap:Nat) (bs:List UInt8) (last:Bool) (at_:Int):Prop where
 blk:w.heap[p]?=some (.cells #[.slice a bs.length cap,.int .i64 at_,.bool last] 103 (0,0))
 new:w0.heap.size≤p
 row:Row w0 1 a bs.length cap (bs.map u8C)
 bel:Below w0.heap.size w0 w
 small:bs.length≤400000
theorem set3 {w:World} {b:Nat} {x0 x1 x2:Value} {t:TypeId} (h:w.heap[b]?=some (.cells #[x0,x1,x2] t (0,0))) (y:Value):(w.setCell ⟨b,1,none⟩ y).heap[b]?=some (.cells #[x0,y,x2] t (0,0)):=by
 rw [heap_setCell_same w b 1 _ _ _ h];rfl
section
variable {w0 w w' : World} {p : Nat} {a : Option Addr} {cap : Nat} {bs : List UInt8} {last : Bool} {at_ : Int}
theorem IsRd.lt (h:IsRd w0 w p a cap bs last at_):p<w.heap.size:=zai h.blk
theorem IsRd.mono (h:IsRd w0 w p a cap bs last at_) (hb:Below w.heap.size w w'):IsRd w0 w' p a cap bs last at_ :=
 ⟨zab hb h.blk,h.new,h.row,h.bel.trans (hb.mono h.bel.size),h.small⟩
theorem IsRd.bytes (h:IsRd w0 w p a cap bs last at_):Row w 1 a bs.length cap (bs.map u8C):=h.row.mono h.bel
theorem IsRd.cells (h:IsRd w0 w p a cap bs last at_):(w.cell? ⟨p,0,none⟩=some (.slice a bs.length cap)∧w.cell? ⟨p,1,none⟩=some (.int .i64 at_)∧w.cell? ⟨p,2,none⟩=some (.bool last)) ∧
   w.frozen? ⟨p,0,none⟩=false∧w.frozen? ⟨p,1,none⟩=false∧w.frozen? ⟨p,2,none⟩=false :=
 ⟨⟨by rw [cell_of_row _ _ _ _ _ _ h.blk];rfl,by rw [cell_of_row _ _ _ _ _ _ h.blk];rfl,by rw [cell_of_row _ _ _ _ _ _ h.blk];rfl⟩,frozen_of_row _ _ _ _ _ h.blk,frozen_of_row _ _ _ _ _ h.blk,frozen_of_row _ _ _ _ _ h.blk⟩
theorem IsRd.setAt (h:IsRd w0 w p a cap bs last at_) (at2:Int):IsRd w0 (w.setCell ⟨p,1,none⟩ (.int .i64 at2)) p a cap bs last at2 :=
 ⟨set3 h.blk _,h.new,h.row,h.bel.setCell h.new _,h.small⟩
theorem IsRd.set8 (h:IsRd w0 w p a cap bs last at_) {r:Nat} (hr:p≠r) (h0:w0.heap.size≤r) (y0 y1 y2 y3 y4 y5 y6 y7:Value) :
   IsRd w0 ((((((((w.setCell ⟨r,0,none⟩ y0).setCell ⟨r,1,none⟩ y1).setCell ⟨r,2,none⟩ y2).setCell ⟨r,3,none⟩ y3).setCell ⟨r,4,none⟩ y4).setCell ⟨r,5,none⟩ y5).setCell ⟨r,6,none⟩ y6).setCell ⟨r,7,none⟩ y7) p a cap bs last at_ :=
 ⟨(zfq hr _ _ _ _ _ _ _ _).trans h.blk,h.new,h.row,zbg h.bel h0 _ _ _ _ _ _ _ _,h.small⟩
theorem nxt_1 (bs:List UInt8) (last:Bool) (k:Int):(nxtV bs last k).1=(zah bs k last).1:=by unfold nxtV;split<;>rfl
theorem nxt_2 (bs:List UInt8) (last:Bool) (k:Int):(nxtV bs last k).2.1=(zah bs k last).2.1:=by unfold nxtV;split<;>rfl
theorem nxt_3 (bs:List UInt8) (last:Bool) (k:Int):(nxtV bs last k).2.2.1=(zah bs k last).2.2.1:=by unfold nxtV;split<;>rfl
def nxE (V:Tk×Int×Int×Int):Int:=if V.2.2.2=0∧V.1.kind=0 then 10 else V.2.2.2
theorem nxt_4 (bs:List UInt8) (last:Bool) (k:Int):(nxtV bs last k).2.2.2=nxE (zah bs k last):=by unfold nxtV nxE;split<;>rfl
theorem ze4 (h:IsRd w0 w p a cap bs last at_):Calls Tryz.prog 78 #[.pointer (some ⟨p,0,none⟩)] w fun e w' =>
   e=.returned (.tuple #[.agg (tokN (nxtV bs last at_).1 (nxtV bs last at_).2.1 (nxtV bs last at_).2.2.1),.int .i64 (nxtV bs last at_).2.2.2]) ∧
   IsRd w0 w' p a cap bs last (if (nxtV bs last at_).2.2.2=0 then (nxtV bs last at_).2.2.1 else at_)∧zaf (fun b=>b=p) w w':=by
 have HN:=Lib.hid (fun (W:World) (hb:Below w.heap.size w W)=>zdz (h.bytes.mono hb) h.small at_ last)
 rw [nxt_1,nxt_2,nxt_3,nxt_4]
 generalize zah bs at_ last=V at *
 unfold zaz tokN at HN
 obtain ⟨x,f,t,er⟩:=V
 simp only at HN ⊢
 unfold tokN nxE
 simp only
 generalize x.kind=a0 at *
 obtain ⟨E,hE⟩:∃E,E=(if er=0∧a0=0 then (10:Int) else er):=⟨_,rfl⟩
 rw [←hE]
 obtain ⟨A,hA⟩:∃A,A=(if E=0 then t else at_):=⟨_,rfl⟩
 rw [←hA]
 have HEE:=Lib.hid hE
 have HAA:=Lib.hid hA
 clear hE hA
 generalize x.vk=a1 at *
 generalize x.vn=a2 at *
 generalize mkB x.vs=s1 at *
 generalize mkB x.s=s2 at *
 have HS:=Lib.hid h
 have hpw:=h.lt
 clear h
 go_enter Tryz.func78,Tryz.ntmps78
 go_wp2
 have HB1:=Lib.hid (zak w (.cells #[.int .i64 0,.int .i64 0,.int .i64 0,.int .i64 0,.int .i64 0,.string ⟨#[]⟩,.slice none 0 0,.string ⟨#[]⟩] 150))
 have HS1:=Lib.hid (HS.out.mono HB1.out)
 have HR1:=Lib.hid (zac (w:=w) (b:=w.heap.size) (.cells #[.int .i64 0,.int .i64 0,.int .i64 0,.int .i64 0,.int .i64 0,.string ⟨#[]⟩,.slice none 0 0,.string ⟨#[]⟩] 150) rfl)
 generalize w.alloc _=W1 at *
 obtain ⟨r,hr⟩:∃r,r=w.heap.size:=⟨_,rfl⟩
 have hpr0:p≠r:=by omega
 rw [←hr] at HR1 ⊢
 have HRR:=Lib.hid hr
 clear hr hpw
 obtain ⟨⟨c0,c1,c2⟩,f0,f1,f2⟩:=HS1.out.cells
 have HA1:=Lib.hid (fun o:Obj=>(zak W1 o).drew)
 have HA2:=Lib.hid (fun o:Obj=>HB1.out.trans ((HA1.out o).mono (show w.heap.size≤W1.heap.size from HB1.out.size)))
 have HC0:Hid (S3 W1 p 0 (.slice a bs.length cap) p 1 (.int .i64 at_) p 2 (.bool last)):=Lib.hid ⟨c0,c1,c2⟩
 have hpr:p≠W1.heap.size:=Nat.ne_of_lt HS1.out.lt
 have HR1L:=Lib.hid (show r<W1.heap.size from zai HR1.out)
 go_region_held3 (fun w'=>w'.cell? ⟨p,0,none⟩=some (.slice a bs.length cap)∧w'.cell? ⟨p,1,none⟩=some (.int .i64 at_)∧w'.cell? ⟨p,2,none⟩=some (.bool last))
   ((show S3 _ p 0 (.slice a bs.length cap) p 1 (.int .i64 at_) p 2 (.bool last);(first
     | (with_reducible exact HC0.out.drew)
     | (with_reducible exact HC0.out)
     | (with_reducible exact (HC0.out.alloc _).drew)
     | (with_reducible exact Hid.out (by assumption))
     | (with_reducible exact S3.alloc (Hid.out (by assumption)) _)
     | (with_reducible exact S3.set8 (Hid.out (by assumption)) hpr hpr hpr _ _ _ _ _ _ _ _))))
   ((go_at_call 115;first
     | ((with_reducible refine (HN.out _ HB1.out.drew).mono ?_);rintro e wN ⟨rfl,hbN⟩;have hbM:Below W1.heap.size W1 wN:=(Below.refl _ _).drew.trans hbN;have HSN:=Lib.hid (HC0.out.below hbM))
     | ((with_reducible refine (HN.out _ (HA2.out _)).mono ?_);rintro e wN ⟨rfl,hbN⟩;have hbM:Below W1.heap.size W1 wN:=(HA1.out _).trans (hbN.mono (HA1.out _).size);have HSN:=Lib.hid (HC0.out.below hbM);have HZ:=Lib.hid (zab hbN (zac (w:=W1) (b:=W1.heap.size) (.cells #[.int .i64 0,.int .i64 0,.int .i64 0,.int .i64 0,.int .i64 0,.string ⟨#[]⟩,.slice none 0 0,.string ⟨#[]⟩] 150) rfl));obtain ⟨⟨z0,z1,z2,z3,z4,z5,z6,z7⟩,y0,y1,y2,y3,y4,y5,y6,y7⟩:=zag HZ.out)))
 all_goals
   first
     | (obtain ⟨W2,hW2⟩:∃W2,W2=wN.alloc (.cells #[.int .i64 a0,.int .i64 f,.int .i64 t,.int .i64 a1,.int .i64 a2,.string s1,.slice none 0 0,.string s2] 150):=⟨_,rfl⟩
        rw [←hW2]
        have HT:=Lib.hid (show TkM W1 W2 wN.heap.size #[.int .i64 a0,.int .i64 f,.int .i64 t,.int .i64 a1,.int .i64 a2,.string s1,.slice none 0 0,.string s2] from ⟨by rw [hW2];exact hbM.alloc hbM.size _,by rw [hW2];exact zac _ rfl,hbM.size⟩)
        obtain ⟨r2,hr2⟩:∃r2,r2=wN.heap.size:=⟨_,rfl⟩
        rw [←hr2] at HT ⊢)
     | (obtain ⟨W2,hW2⟩:∃W2,W2=((((((((wN.setCell ⟨W1.heap.size,0,none⟩ (.int .i64 a0)).setCell ⟨W1.heap.size,1,none⟩ (.int .i64 f)).setCell ⟨W1.heap.size,2,none⟩ (.int .i64 t)).setCell ⟨W1.heap.size,3,none⟩ (.int .i64 a1)).setCell ⟨W1.heap.size,4,none⟩ (.int .i64 a2)).setCell ⟨W1.heap.size,5,none⟩ (.string s1)).setCell ⟨W1.heap.size,6,none⟩ (.slice none 0 0)).setCell ⟨W1.heap.size,7,none⟩ (.string s2)):=⟨_,rfl⟩
        rw [←hW2]
        have HT:=Lib.hid (show TkM W1 W2 W1.heap.size #[.int .i64 a0,.int .i64 f,.int .i64 t,.int .i64 a1,.int .i64 a2,.string s1,.slice none 0 0,.string s2] from ⟨by rw [hW2];exact zbg hbM (Nat.le_refl _) _ _ _ _ _ _ _ _,by rw [hW2];exact set8 HZ.out _ _ _ _ _ _ _ _,Nat.le_refl _⟩)
        clear z0 z1 z2 z3 z4 z5 z6 z7 y0 y1 y2 y3 y4 y5 y6 y7 HZ
        obtain ⟨r2,hr2⟩:∃r2,r2=W1.heap.size:=⟨_,rfl⟩
        rw [←hr2] at HT ⊢)
   clear hW2 hr2 hbN hbM HSN
   have HS2:=Lib.hid (HS1.out.mono HT.out.bel)
   have HR2:=Lib.hid (zab HT.out.bel HR1.out)
   have hp2:p≠r2:=by have:=HT.out.new;have:=HS1.out.lt;omega
   have hr22:r≠r2:=by have:=HT.out.new;have:=HR1L.out;omega
   have HB2:=Lib.hid (HB1.out.trans (HT.out.bel.mono HB1.out.size))
   clear c0 c1 c2 f0 f1 f2 hpr
   obtain ⟨⟨c0,c1,c2⟩,f0,f1,f2⟩:=HS2.out.cells
   obtain ⟨⟨k0,k1,k2,k3,k4,k5,k6,k7⟩,m0,m1,m2,m3,m4,m5,m6,m7⟩:=zag HT.out.blk
   obtain ⟨⟨g0,g1,g2,g3,g4,g5,g6,g7⟩,l0,l1,l2,l3,l4,l5,l6,l7⟩:=zag HR2.out
   have h0r:=Nat.le_trans HS.out.bel.size (Nat.le_of_eq HRR.out.symm)
   by_cases her:er=0
   · subst her
     by_cases hk0:a0=0
     · subst hk0
       obtain rfl:E=10:=by rw [HEE.out,if_pos ⟨rfl,rfl⟩]
       obtain rfl:at_=A:=by rw [HAA.out,if_neg (by decide)]
       go_wp2
       refine bodyPost_ret (zaa rfl _ _ r 150 _ (0,0) _ rfl (set8 HR2.out _ _ _ _ _ _ _ _) Tryz.underlying150 rfl zaB _ rfl) rfl ?_
       refine ⟨rfl,?_,?_⟩
       · exact HS2.out.set8 hpr0 h0r _ _ _ _ _ _ _ _
       · exact zbi (zaw HB2.out) (Nat.le_of_eq HRR.out.symm) _ _ _ _ _ _ _ _
     · have hk1:(a0==0)=false:=by rw [beq_eq_false_iff_ne];exact hk0
       obtain rfl:E=0:=by rw [HEE.out,if_neg (fun h=>hk0 h.2)]
       obtain rfl:t=A:=by rw [HAA.out,if_pos rfl]
       go_wp2
       refine bodyPost_ret (zaa rfl _ _ r 150 _ (0,0) _ rfl (set8 ((heap_setCell_other _ _ _ _ (Ne.symm hpr0)).trans HR2.out) _ _ _ _ _ _ _ _) Tryz.underlying150 rfl zaB _ rfl) rfl ?_
       refine ⟨rfl,?_,?_⟩
       · exact (HS2.out.setAt t).set8 hpr0 h0r _ _ _ _ _ _ _ _
       · exact zbi (zaf.setCell (S:=fun b=>b=p) (a:=⟨p,1,none⟩) (zaw HB2.out) (.inl rfl) _) (Nat.le_of_eq HRR.out.symm) _ _ _ _ _ _ _ _
   · have e1:(er==0)=false:=by rw [beq_eq_false_iff_ne];exact her
     obtain rfl:er=E:=by rw [HEE.out,if_neg (fun h=>her h.1)]
     obtain rfl:at_=A:=by rw [HAA.out,if_neg her]
     go_wp2
     refine bodyPost_ret (zaa rfl _ _ r 150 _ (0,0) _ rfl (set8 HR2.out _ _ _ _ _ _ _ _) Tryz.underlying150 rfl zaB _ rfl) rfl ?_
     refine ⟨rfl,?_,?_⟩
     · exact HS2.out.set8 hpr0 h0r _ _ _ _ _ _ _ _
     · exact zbi (zaw HB2.out) (Nat.le_of_eq HRR.out.symm) _ _ _ _ _ _ _ _
end
def entC (e:Ent):List Value:=[.int .i64 e.at_,.int .i64 e.gen,.bool e.used]
def zcT (l:List Ent):List Value:=l.flatMap entC
def entA (e:Ent):Value:=.agg #[.int .i64 e.at_,.int .i64 e.gen,.bool e.used]
theorem entsC_append (l m:List Ent):zcT (l++m)=zcT l++zcT m:=by simp [zcT]
theorem entsC_get:∀(l:List Ent) (k:Nat) (e:Ent),l[k]?=some e→(zcT l)[k * 3]?=some (.int .i64 e.at_)∧(zcT l)[k * 3+1]?=some (.int .i64 e.gen)∧(zcT l)[k * 3+2]?=some (.bool e.used)
 | [],k,e,h=>by simp at h
 | x::l,0,e,h=>by
   simp at h;subst h
   exact ⟨rfl,rfl,rfl⟩
 | x::l,k+1,e,h=>by
   obtain ⟨h1,h2,h3⟩:=entsC_get l k e (by simpa using h)
   have hx:zcT (x::l)=.int .i64 x.at_::.int .i64 x.gen::.bool x.used::zcT l:=rfl
   rw [hx,show (k+1) * 3=k * 3+1+1+1 by omega]
   simp only [List.getElem?_cons_succ]
   exact ⟨h1,h2,h3⟩
def IsE (w:World) (F:Nat→Prop) (es:List Ent) (v:Value):Prop:=∃a cap,v=.slice a es.length cap∧Row w 3 a es.length cap (zcT es)∧(0<es.length→∀x,a=some x→F x.block)
def IsGs (w:World) (F:Nat→Prop):List Grp→List Value→Prop
 | [],cs=>cs=[]
 | g::gs,cs=>∃v t,cs=.int .i64 g.first::v::t∧IsE w F g.es v∧IsGs w F gs t
def IsG (w:World) (F:Nat→Prop) (gs:List Grp) (v:Value):Prop:=∃a cap cs,v=.slice a gs.length cap∧Row w 2 a gs.length cap cs∧(0<gs.length→∀x,a=some x→F x.block)∧IsGs w F gs cs
theorem IsE.keep {w w':World} {F G:Nat→Prop} (hk:zaL F w w') (hG:∀b,F b→G b) {es:List Ent} {v:Value} (h:IsE w F es v):IsE w' G es v:=by
 obtain ⟨a,cap,e,hr,hF⟩:=h
 exact ⟨a,cap,e,hr.stays hk hF,fun h0 x hx=>hG _ (hF h0 x hx)⟩
theorem IsGs.keep {w w':World} {F G:Nat→Prop} (hk:zaL F w w') (hG:∀b,F b→G b):∀ {gs:List Grp} {cs:List Value},IsGs w F gs cs→IsGs w' G gs cs
 | [],_,h=>h
 | _::_,_,⟨v,t,e,h1,h2⟩=>⟨v,t,e,h1.keep hk hG,IsGs.keep hk hG h2⟩
theorem IsG.keep {w w':World} {F G:Nat→Prop} (hk:zaL F w w') (hG:∀b,F b→G b) {gs:List Grp} {v:Value} (h:IsG w F gs v):IsG w' G gs v:=by
 obtain ⟨a,cap,cs,e,hr,hF,hs⟩:=h
 exact ⟨a,cap,cs,e,hr.stays hk hF,fun h0 x hx=>hG _ (hF h0 x hx),hs.keep hk hG⟩
theorem IsE.below {w w':World} {F:Nat→Prop} {es:List Ent} {v:Value} (h:IsE w F es v) (hb:Below w.heap.size w w'):IsE w' F es v:=h.keep (zaL.of_below hb) (fun _ h=>h)
theorem IsGs.below {w w':World} {F:Nat→Prop} {gs:List Grp} {cs:List Value} (h:IsGs w F gs cs) (hb:Below w.heap.size w w'):IsGs w' F gs cs:=h.keep (zaL.of_below hb) (fun _ h=>h)
theorem IsG.below {w w':World} {F:Nat→Prop} {gs:List Grp} {v:Value} (h:IsG w F gs v) (hb:Below w.heap.size w w'):IsG w' F gs v:=h.keep (zaL.of_below hb) (fun _ h=>h)
theorem IsE.nil (w:World) (F:Nat→Prop):IsE w F [] (.slice none 0 0):=⟨none,0,rfl,Row.nil w 3,fun h=>by cases h⟩
theorem IsG.nil (w:World) (F:Nat→Prop):IsG w F [] (.slice none 0 0):=⟨none,0,[],rfl,Row.nil w 2,fun h=>(by cases h),rfl⟩
theorem IsGs.length {w:World} {F:Nat→Prop}:∀ {gs:List Grp} {cs:List Value},IsGs w F gs cs→cs.length=gs.length * 2
 | [],_,h=>by cases h;rfl
 | _::_,_,⟨v,t,e,_,h2⟩=>by subst e;have:=IsGs.length h2;simp;omega
theorem IsGs.append {w:World} {F:Nat→Prop}:∀ {l m:List Grp} {cs ds:List Value},IsGs w F l cs→IsGs w F m ds→IsGs w F (l++m) (cs++ds)
 | [],_,_,_,h,hm=>by cases h;exact hm
 | _::_,_,_,_,⟨v,t,e,h1,h2⟩,hm=>⟨v,t++_,by subst e;rfl,h1,IsGs.append h2 hm⟩
theorem IsGs.snoc {w:World} {F:Nat→Prop} {gs:List Grp} {cs:List Value} (h:IsGs w F gs cs) {n:Int} {es:List Ent} {v:Value} (hv:IsE w F es v):IsGs w F (gs++[⟨n,es⟩]) (cs++[.int .i64 n,v]):=h.append ⟨v,[],rfl,hv,rfl⟩
theorem IsGs.get {w:World} {F:Nat→Prop}:∀ {gs:List Grp} {cs:List Value},IsGs w F gs cs→∀(k:Nat) (g:Grp),gs[k]?=some g→∃v,IsE w F g.es v∧cs[k * 2]?=some (.int .i64 g.first)∧cs[k * 2+1]?=some v
 | [],_,_,_,_,hk=>by simp at hk
 | x::l,_,⟨v,t,e,h1,h2⟩,0,g,hk=>by
   simp at hk;subst hk e
   exact ⟨v,h1,rfl,rfl⟩
 | x::l,_,⟨v,t,e,h1,h2⟩,k+1,g,hk=>by
   subst e
   obtain ⟨v2,h3,h4,h5⟩:=h2.get k g (by simpa using hk)
   refine ⟨v2,h3,?_,?_⟩
   · rw [show (k+1) * 2=k * 2+1+1 by omega];simpa using h4
   · rw [show (k+1) * 2+1=k * 2+1+1+1 by omega];simpa using h5
theorem IsE.len {w:World} {F:Nat→Prop} {es:List Ent} {v:Value} (h:IsE w F es v):∃a cap,v=.slice a es.length cap∧es.length≤cap∧cap≤maxLen∧(a=none→cap=0):=by
 obtain ⟨a,cap,e,hr,_⟩:=h
 exact ⟨a,cap,e,hr.2.1,hr.2.2.1,hr.2.2.2.1⟩
theorem IsG.len {w:World} {F:Nat→Prop} {gs:List Grp} {v:Value} (h:IsG w F gs v):∃a cap,v=.slice a gs.length cap∧gs.length≤cap∧cap≤maxLen∧(a=none→cap=0):=by
 obtain ⟨a,cap,cs,e,hr,_⟩:=h
 exact ⟨a,cap,e,hr.2.1,hr.2.2.1,hr.2.2.2.1⟩
theorem IsE.at {w:World} {F:Nat→Prop} {es:List Ent} {a:Option Addr} {n cap:Nat} (h:IsE w F es (.slice a n cap)) (hn:0<n) :
   n=es.length∧n≤cap∧cap≤maxLen∧∃b off,a=some ⟨b,off,none⟩∧b<w.heap.size∧F b∧∀k x,es[k]?=some x→w.cell? ⟨b,off+k * 3,none⟩=some (.int .i64 x.at_) ∧
     w.cell? ⟨b,off+k * 3+1,none⟩=some (.int .i64 x.gen)∧w.cell? ⟨b,off+k * 3+2,none⟩=some (.bool x.used):=by
 obtain ⟨a',cap',e,hr,hF⟩:=h
 simp only [Value.slice.injEq] at e
 obtain ⟨rfl,rfl,rfl⟩:=e
 obtain ⟨b,off,rfl,hb,hc⟩:=hr.2.2.2.2 hn
 refine ⟨rfl,hr.2.1,hr.2.2.1,b,off,rfl,hb,hF hn _ rfl,fun k x hx=>?_⟩
 obtain ⟨h2,h3,h4⟩:=entsC_get es k x hx
 exact ⟨hc _ _ h2,(Nat.add_assoc off (k * 3) 1).symm▸hc _ _ h3,(Nat.add_assoc off (k * 3) 2).symm▸hc _ _ h4⟩
theorem IsG.at {w:World} {F:Nat→Prop} {gs:List Grp} {a:Option Addr} {n cap:Nat} (h:IsG w F gs (.slice a n cap)) (hn:0<n) :
   n=gs.length∧n≤cap∧cap≤maxLen∧∃b off,a=some ⟨b,off,none⟩∧b<w.heap.size∧F b∧∀k x,gs[k]?=some x→∃v,IsE w F x.es v∧w.cell? ⟨b,off+k * 2,none⟩=some (.int .i64 x.first) ∧
     w.cell? ⟨b,off+k * 2+1,none⟩=some v:=by
 obtain ⟨a',cap',cs,e,hr,hF,hs⟩:=h
 simp only [Value.slice.injEq] at e
 obtain ⟨rfl,rfl,rfl⟩:=e
 obtain ⟨b,off,rfl,hb,hc⟩:=hr.2.2.2.2 hn
 refine ⟨rfl,hr.2.1,hr.2.2.1,b,off,rfl,hb,hF hn _ rfl,fun k x hx=>?_⟩
 obtain ⟨v,h1,h2,h3⟩:=hs.get k x hx
 exact ⟨v,h1,hc _ _ h2,(Nat.add_assoc off (k * 2) 1).symm▸hc _ _ h3⟩
def secC (s:Sec) (gv sl:Value):List Value:=gv::pvC s.tr sl
def secA (s:Sec) (gv sl:Value):Value:=.agg #[gv,.int .i64 s.tr.kind,.int .i64 s.tr.n,.string (mkB s.tr.s),sl]
def zbY (w:World) (F:Nat→Prop) (s:Sec) (gv sl:Value):Prop:=IsG w F s.gs gv∧IsV w F s.tr sl
theorem zbY.keep {w w':World} {F G:Nat→Prop} (hk:zaL F w w') (hG:∀b,F b→G b) {s:Sec} {gv sl:Value} (h:zbY w F s gv sl):zbY w' G s gv sl:=⟨h.1.keep hk hG,IsV.keep hk hG _ h.2⟩
theorem zbY.below {w w':World} {F:Nat→Prop} {s:Sec} {gv sl:Value} (h:zbY w F s gv sl) (hb:Below w.heap.size w w'):zbY w' F s gv sl:=h.keep (zaL.of_below hb) (fun _ h=>h)
theorem zdI (w:World) (F:Nat→Prop):zbY w F Sec.none (.slice none 0 0) (.slice none 0 0):=⟨IsG.nil w F,IsV.leaf w F _ rfl⟩
theorem ze0 (x:Tk) (f t:Int) (w:World):Calls Tryz.prog 79 #[.agg (tokN x f t)] w fun e w'=>e=.returned (.bool (zaE x))∧Below w.heap.size w w':=by
 unfold tokN zaE
 generalize x.kind=a0 at *
 generalize x.vk=a1 at *
 generalize x.vn=a2 at *
 generalize mkB x.vs=s1 at *
 generalize mkB x.s=s2 at *
 cases h0:(a0==1)
 · go_enter Tryz.func79,Tryz.ntmps79
   go_wp2
   go_ret
   exact ⟨rfl,zak w _⟩
 · go_enter Tryz.func79,Tryz.ntmps79
   go_wp2
   go_ret
   exact ⟨rfl,zak w _⟩
theorem fits_any (f n:Int) (w:World):Calls Tryz.prog 116 #[.int .i64 f,.int .i64 n] w fun e w'=>e=.returned (.bool (zfi f n))∧w=w':=by
 unfold zfi
 by_cases a1:0≤f
 · by_cases a2:f≤4097
   · by_cases a3:0≤n
     · by_cases a4:n≤4097-f
       · go_enter Tryz.func116,Tryz.ntmps116
         go_wp2
         go_ret
         exact ⟨by simp [a1,a2,a3,a4],rfl⟩
       · go_enter Tryz.func116,Tryz.ntmps116
         go_wp2
         go_ret
         exact ⟨by simp [a4],rfl⟩
     · go_enter Tryz.func116,Tryz.ntmps116
       go_wp2
       go_ret
       exact ⟨by simp;omega,rfl⟩
   · go_enter Tryz.func116,Tryz.ntmps116
     go_wp2
     go_ret
     exact ⟨by simp;omega,rfl⟩
 · go_enter Tryz.func116,Tryz.ntmps116
   go_wp2
   go_ret
   exact ⟨by simp;omega,rfl⟩
def dig1 (l:List UInt8) (most:Int):Int:=if (zaJ l).2≠0∨most<(zaJ l).1 then -1 else (zaJ l).1
structure zb5 (W:World) where
 w:World
 h:Below W.heap.size W w
instance zb5.there (W:World):Nonempty (zb5 W):=⟨⟨W,Below.refl _ _⟩⟩
theorem zcD {P:Program} {id:Nat} {Q:Exit→Act→World→Prop} {a:Act} {W:World} {l:List Oper} (hm:P.follows .mixedOrders=true) (hB:Region.lexB .any l.toArray=true)
   (h:wpQuiet P l.toArray (fun w'=>∃p:zb5 W,w'=p.w) (fun a'=>∀w',(∃p:zb5 W,w'=p.w)→Q .normal a' w') l a):(Code.region id l.toArray true).wp P Q a W :=
 wp_region_quiet (C:=fun w'=>∃p:zb5 W,w'=p.w) hm hB ⟨⟨W.drew,(Below.refl _ _).drew⟩,rfl⟩ (by simpa using h)
theorem Calls.below_of {P:Program} {f:FuncId} {args:Array Value} {W:World} {p:zb5 W} {v:Value}
   (h:Calls P f args p.w fun e w'=>e=.returned v∧Below p.w.heap.size p.w w'):Calls P f args p.w fun e w''=>e=.returned v∧∃p':zb5 W,w''=p'.w :=
 h.mono fun _ w' ⟨he,hb⟩=>⟨he,⟨w',p.h.trans (hb.mono p.h.size)⟩,rfl⟩
theorem zb5.cell {W:World} {b o:Nat} {v:Value} (hc:W.cell? ⟨b,o,none⟩=some v) (p:zb5 W):p.w.cell? ⟨b,o,none⟩=some v:=cell?_keep p.h hc
end Go.Proofs.YtfafdeemfeaedaaGreat
