/-
  Our texts LexV3 to ParO, in one.
-/
import Derived.Test.YtfafdeemfeaedaaGreatPkZ7
import Derived.Deep.DeepCutAuto
import Derived.Test.YtfafdeemfeaedaaGreatProg
import Derived.BigQuiet
import Derived.Sort.LotA
import Derived.Sort.Lot0
import Derived.Deep.Draws
import Derived.RangeFuncBox
import Derived.RangeFuncNested
import Derived.RangeFuncBound
import Derived.RangeFuncCalls
import Derived.RangeFuncLeaves
import Derived.Shelf.Abstract
import Derived.Shelf.RegionOpen
import Derived.OwnWalkIn
import Derived.TacticsInMore
import Derived.LoopNIn
import Derived.LoopIn
set_option maxRecDepth 8000
set_option maxHeartbeats 8000000
namespace Go.Proofs.YtfafdeemfeaedaaGreat
open Go.RowKit
theorem ze8 {w:World} {a:Option Addr} {cap:Nat} {bs:List UInt8} (hr:Row w 1 a bs.length cap (bs.map u8C)) (hn:bs.length≤400000) {k:Int} (last:Bool) (hk0:0≤k) (hk1:k≤bs.length) {f:Nat} (hf:zaC bs k=f) (hfl:f<bs.length) {V:Tk×Int×Int×Int} (hV:V=zbf bs f last) (hreg:isRg (bs.getD f 0)=true) (h1:f+runN (bs.drop f)=bs.length) (hla:last=true) (hd:48≤(bs.getD f 0).toNat∧(bs.getD f 0).toNat≤57) :
   Calls Tryz.prog 84 #[.slice a bs.length cap,.int .i64 k,.bool last] w (zaz w V):=by
 have HT:=Lib.hid (show tokV last (bs.getD f 0) (bs.drop (f+1))=_ from zbm (X:=⟨none,0,bs,last⟩) (k:=f) hfl hreg)
 have hnl:¬(runN ((⟨none,0,bs,last⟩:Src).bs.drop f)=((⟨none,0,bs,last⟩:Src).bs.drop f).length∧(⟨none,0,bs,last⟩:Src).last=false):=by
   show ¬(runN (bs.drop f)=(bs.drop f).length∧last=false)
   rw [List.length_drop]
   rw [hla];simp
 have hnum:(isDg (bs.getD f 0)=true∨bs.getD f 0=43∨bs.getD f 0=45∨bs.getD f 0=46):=by
   exact .inl (by unfold isDg;simp;exact hd)
 have ht:=HT.out
 unfold rgV at ht
 rw [if_neg hnl,if_pos hnum] at ht
 rw [List.drop_drop] at ht
 clear HT hnl hnum
 obtain ⟨P,hP⟩:∃P,zaK (regs (bs.drop f))=P:=⟨_,rfl⟩
 have ht2:tokV last (bs.getD f 0) (bs.drop (f+1))=(P.2.2,{ kind:=1,vk:=P.1,vn:=P.2.1 },bs.drop (f+runN (bs.drop f))):=by rw [←hP];exact ht
 have HP:=Lib.hid hP
 have HT:=Lib.hid ht2
 clear ht ht2 hP
 have HVV:=Lib.hid hV
 have HFL:=Lib.hid hfl
 subst hla
 have hdl:isDl (bs.getD f 0)=false:=by
   have h:=hreg
   unfold isRg at h
   cases hh:isDl (bs.getD f 0) with
   | false=>rfl
   | true=>rw [hh] at h;simp at h
 have n91:bs.getD f 0≠91:=fun e=>by rw [e] at hreg;exact absurd hreg (by decide)
 have n93:bs.getD f 0≠93:=fun e=>by rw [e] at hreg;exact absurd hreg (by decide)
 have n60:bs.getD f 0≠60:=fun e=>by rw [e] at hreg;exact absurd hreg (by decide)
 have n62:bs.getD f 0≠62:=fun e=>by rw [e] at hreg;exact absurd hreg (by decide)
 have n40:bs.getD f 0≠40:=fun e=>by rw [e] at hreg;exact absurd hreg (by decide)
 have n47:bs.getD f 0≠47:=fun e=>by rw [e] at hreg;exact absurd hreg (by decide)
 have e91:=zar n91 91 rfl
 have e93:=zar n93 93 rfl
 have e60:=zar n60 60 rfl
 have e62:=zar n62 62 rfl
 have e40:=zar n40 40 rfl
 have e47:=zar n47 47 rfl
 obtain ⟨b,off,R,r,x,rfl,hbW,hx,hR,hRL,hrr,hcap,hcm,hkd,hkd2,hff,hffn,hfi,hf9,hrl,hS,hRN,hc,hcf,hZ,hB0⟩:=zax hr hn hk0 hk1 hf hfl
 have HRW:=Lib.hid hr
 have HC:=Lib.hid hc
 have HS:=Lib.hid hS
 have HRN:=Lib.hid hRN
 have HRR:=Lib.hid hR
 have HRL:=Lib.hid hRL
 have HRE:=Lib.hid hrr
 have HZ:=Lib.hid hZ
 have HB0:=Lib.hid hB0
 clear hS hRN hRL hZ hB0
 have HDL:=Lib.hid (fun W=>zaM (bs.getD f 0).toNat W)
 rw [←zbH,hdl] at HDL
 rw [hx] at HDL e91 e93 e60 e62 e40 e47
 clear n91 n93 n60 n62 n40 n47 hdl hreg
 rw [←hR] at HT
 have hRt:(bs.drop f).take (R-f)=regs (bs.drop f):=by rw [za1,hR,Nat.add_sub_cancel_left]
 have HRT:=Lib.hid hRt
 have hrt:=zbd (bs.drop f)
 have hRf:f≤R:=by omega
 have hRl2:R≤bs.length:=HRL.out
 have hcf1:¬cap=f:=by omega
 have HRlen:=Lib.hid (show (regs (bs.drop f)).length≤400000 by show runN _≤_;omega)
 clear hRt hrt
 rw [hx] at hd
 have d1:decide ((48:Int)≤x)=true:=decide_eq_true (by omega)
 have d2:decide ((x:Int)≤57)=true:=decide_eq_true (by omega)
 clear hd
 obtain rfl:R=bs.length:=hR.trans h1
 clear h1
 clear hr hf hR hrr hrl hk0 hk1 hc hV hx
 go_enter Tryz.func84,Tryz.ntmps84
 go_wp2_with fail
 refine (HS.out _ HB0.out).mono ?_
 rintro e w' ⟨rfl,rfl⟩
 rw [←HRE.out]
 generalize w.alloc _=W1 at *
 obtain ⟨hcj1,hcj,hbn,hbl,hX⟩:=zas hbW HRE.out HB0.out hcf HZ.out
 have HX:=Lib.hid hX
 clear hcf hX
 go_wp2_with fail
 refine (HRN.out _ HX.out.bel).mono ?_
 rintro e w' ⟨rfl,rfl⟩
 clear hcj1 hcj hbn hbl
 generalize W1.alloc _=W2 at *
 generalize W1.heap.size=p at *
 clear HZ HB0
 have hcv:(convert 22 9 (.slice (some ⟨b,off+f,none⟩) (bs.length-f) (cap-f))).run Tryz.prog W2=.ok (.string (mkB ((bs.drop f).take (bs.length-f)))) W2:=zaP (X:=⟨none,0,bs,true⟩) HC.out f (bs.length-f) (by have:=HRL.out;show f+_≤bs.length;omega) W2 HX.out.bel
 rw [HRT.out] at hcv
 obtain ⟨s,hs⟩:∃s,mkB (regs (bs.drop f))=s:=⟨_,rfl⟩
 have hsb:bl s=regs (bs.drop f):=by rw [←hs];rfl
 have HPA:=Lib.hid (zbu s W2 (by rw [←zaA,hsb];exact HRlen.out))
 rw [hsb,HP.out] at HPA
 rw [hs] at hcv
 unfold zbl valC za6 at HPA
 clear hs hsb
 go_wp2_with (go_at_call 126;refine (HDL.out _).mono ?_;rintro e w' ⟨rfl,rfl⟩)
 refine HPA.out.mono ?_
 rintro e w3 ⟨rfl,hb3⟩
 have HX3:=Lib.hid ((HX.out.on hb3).alloc (.cells #[.int .i64 P.1,.int .i64 P.2.1,.string ⟨#[]⟩,.slice none 0 0] 27))
 clear hb3 hcv HPA
 by_cases her:P.2.2=0
 · have HV:=Lib.hid (HVV.out.trans (zaY HFL.out rfl (x:={ kind:=1,vk:=P.1,vn:=P.2.1 }) (j:=bs.length) (by rw [HT.out,her]) HRL.out))
   rw [her]
   clear her
   obtain ⟨⟨k0,k1,k2,k3,k4,k5,k6,k7⟩,m0,m1,m2,m3,m4,m5,m6,m7⟩:=zag HX3.out.blk
   obtain ⟨⟨n0,n1,n2,n3,n4,n5,n6,n7⟩,-⟩:=zag HX3.out.no
   go_wp2
   refine bodyPost_ret (zaa rfl _ _ r 111 _ (0,0) _ rfl (set8 HX3.out.blk _ _ _ _ _ _ _ _) Tryz.underlying111 rfl zao _ rfl) rfl ?_
   exact zaq (x:={ kind:=1,vk:=P.1,vn:=P.2.1 }) HX3.out.bel HX3.out.wr HV.out _ _ _ _ _ _ _ _
 · have HV:=Lib.hid (HVV.out.trans (zaU (e:=P.2.2) HFL.out rfl (by rw [HT.out]) her))
   have er1:(P.2.2==0)=false:=by rw [beq_eq_false_iff_ne];exact her
   have er2:(P.2.2 != 0)=true:=by simp only [bne,er1,Bool.not_false]
   clear her
   obtain ⟨⟨k0,k1,k2,k3,k4,k5,k6,k7⟩,m0,m1,m2,m3,m4,m5,m6,m7⟩:=zag HX3.out.blk
   obtain ⟨⟨n0,n1,n2,n3,n4,n5,n6,n7⟩,-⟩:=zag HX3.out.no
   go_wp2
   refine bodyPost_ret (zaa rfl _ _ r 111 _ (0,0) _ rfl (set8 HX3.out.blk _ _ _ _ _ _ _ _) Tryz.underlying111 rfl zao _ rfl) rfl ?_
   exact zaq (x:={ kind:=0 }) HX3.out.bel HX3.out.wr HV.out _ _ _ _ _ _ _ _
theorem rnext_43_end {w:World} {a:Option Addr} {cap:Nat} {bs:List UInt8} (hr:Row w 1 a bs.length cap (bs.map u8C)) (hn:bs.length≤400000) {k:Int} (last:Bool) (hk0:0≤k) (hk1:k≤bs.length) {f:Nat} (hf:zaC bs k=f) (hfl:f<bs.length) {V:Tk×Int×Int×Int} (hV:V=zbf bs f last) (hreg:isRg (bs.getD f 0)=true) (h1:f+runN (bs.drop f)=bs.length) (hla:last=true) (hc0:bs.getD f 0=43) :
   Calls Tryz.prog 84 #[.slice a bs.length cap,.int .i64 k,.bool last] w (zaz w V):=by
 have HT:=Lib.hid (show tokV last (bs.getD f 0) (bs.drop (f+1))=_ from zbm (X:=⟨none,0,bs,last⟩) (k:=f) hfl hreg)
 have hnl:¬(runN ((⟨none,0,bs,last⟩:Src).bs.drop f)=((⟨none,0,bs,last⟩:Src).bs.drop f).length∧(⟨none,0,bs,last⟩:Src).last=false):=by
   show ¬(runN (bs.drop f)=(bs.drop f).length∧last=false)
   rw [List.length_drop]
   rw [hla];simp
 have hnum:(isDg (bs.getD f 0)=true∨bs.getD f 0=43∨bs.getD f 0=45∨bs.getD f 0=46):=by
   exact .inr (.inl hc0)
 have ht:=HT.out
 unfold rgV at ht
 rw [if_neg hnl,if_pos hnum] at ht
 rw [List.drop_drop] at ht
 clear HT hnl hnum
 obtain ⟨P,hP⟩:∃P,zaK (regs (bs.drop f))=P:=⟨_,rfl⟩
 have ht2:tokV last (bs.getD f 0) (bs.drop (f+1))=(P.2.2,{ kind:=1,vk:=P.1,vn:=P.2.1 },bs.drop (f+runN (bs.drop f))):=by rw [←hP];exact ht
 have HP:=Lib.hid hP
 have HT:=Lib.hid ht2
 clear ht ht2 hP
 have HVV:=Lib.hid hV
 have HFL:=Lib.hid hfl
 subst hla
 have hdl:isDl (bs.getD f 0)=false:=by
   have h:=hreg
   unfold isRg at h
   cases hh:isDl (bs.getD f 0) with
   | false=>rfl
   | true=>rw [hh] at h;simp at h
 have n91:bs.getD f 0≠91:=fun e=>by rw [e] at hreg;exact absurd hreg (by decide)
 have n93:bs.getD f 0≠93:=fun e=>by rw [e] at hreg;exact absurd hreg (by decide)
 have n60:bs.getD f 0≠60:=fun e=>by rw [e] at hreg;exact absurd hreg (by decide)
 have n62:bs.getD f 0≠62:=fun e=>by rw [e] at hreg;exact absurd hreg (by decide)
 have n40:bs.getD f 0≠40:=fun e=>by rw [e] at hreg;exact absurd hreg (by decide)
 have n47:bs.getD f 0≠47:=fun e=>by rw [e] at hreg;exact absurd hreg (by decide)
 have e91:=zar n91 91 rfl
 have e93:=zar n93 93 rfl
 have e60:=zar n60 60 rfl
 have e62:=zar n62 62 rfl
 have e40:=zar n40 40 rfl
 have e47:=zar n47 47 rfl
 obtain ⟨b,off,R,r,x,rfl,hbW,hx,hR,hRL,hrr,hcap,hcm,hkd,hkd2,hff,hffn,hfi,hf9,hrl,hS,hRN,hc,hcf,hZ,hB0⟩:=zax hr hn hk0 hk1 hf hfl
 have HRW:=Lib.hid hr
 have HC:=Lib.hid hc
 have HS:=Lib.hid hS
 have HRN:=Lib.hid hRN
 have HRR:=Lib.hid hR
 have HRL:=Lib.hid hRL
 have HRE:=Lib.hid hrr
 have HZ:=Lib.hid hZ
 have HB0:=Lib.hid hB0
 clear hS hRN hRL hZ hB0
 have HDL:=Lib.hid (fun W=>zaM (bs.getD f 0).toNat W)
 rw [←zbH,hdl] at HDL
 rw [hx] at HDL e91 e93 e60 e62 e40 e47
 clear n91 n93 n60 n62 n40 n47 hdl hreg
 rw [←hR] at HT
 have hRt:(bs.drop f).take (R-f)=regs (bs.drop f):=by rw [za1,hR,Nat.add_sub_cancel_left]
 have HRT:=Lib.hid hRt
 have hrt:=zbd (bs.drop f)
 have hRf:f≤R:=by omega
 have hRl2:R≤bs.length:=HRL.out
 have hcf1:¬cap=f:=by omega
 have HRlen:=Lib.hid (show (regs (bs.drop f)).length≤400000 by show runN _≤_;omega)
 clear hRt hrt
 obtain rfl:x=43:=by rw [←hx,hc0];rfl
 clear hc0
 obtain rfl:R=bs.length:=hR.trans h1
 clear h1
 clear hr hf hR hrr hrl hk0 hk1 hc hV hx
 go_enter Tryz.func84,Tryz.ntmps84
 go_wp2_with fail
 refine (HS.out _ HB0.out).mono ?_
 rintro e w' ⟨rfl,rfl⟩
 rw [←HRE.out]
 generalize w.alloc _=W1 at *
 obtain ⟨hcj1,hcj,hbn,hbl,hX⟩:=zas hbW HRE.out HB0.out hcf HZ.out
 have HX:=Lib.hid hX
 clear hcf hX
 go_wp2_with fail
 refine (HRN.out _ HX.out.bel).mono ?_
 rintro e w' ⟨rfl,rfl⟩
 clear hcj1 hcj hbn hbl
 generalize W1.alloc _=W2 at *
 generalize W1.heap.size=p at *
 clear HZ HB0
 have hcv:(convert 22 9 (.slice (some ⟨b,off+f,none⟩) (bs.length-f) (cap-f))).run Tryz.prog W2=.ok (.string (mkB ((bs.drop f).take (bs.length-f)))) W2:=zaP (X:=⟨none,0,bs,true⟩) HC.out f (bs.length-f) (by have:=HRL.out;show f+_≤bs.length;omega) W2 HX.out.bel
 rw [HRT.out] at hcv
 obtain ⟨s,hs⟩:∃s,mkB (regs (bs.drop f))=s:=⟨_,rfl⟩
 have hsb:bl s=regs (bs.drop f):=by rw [←hs];rfl
 have HPA:=Lib.hid (zbu s W2 (by rw [←zaA,hsb];exact HRlen.out))
 rw [hsb,HP.out] at HPA
 rw [hs] at hcv
 unfold zbl valC za6 at HPA
 clear hs hsb
 go_wp2_with (go_at_call 126;refine (HDL.out _).mono ?_;rintro e w' ⟨rfl,rfl⟩)
 refine HPA.out.mono ?_
 rintro e w3 ⟨rfl,hb3⟩
 have HX3:=Lib.hid ((HX.out.on hb3).alloc (.cells #[.int .i64 P.1,.int .i64 P.2.1,.string ⟨#[]⟩,.slice none 0 0] 27))
 clear hb3 hcv HPA
 by_cases her:P.2.2=0
 · have HV:=Lib.hid (HVV.out.trans (zaY HFL.out rfl (x:={ kind:=1,vk:=P.1,vn:=P.2.1 }) (j:=bs.length) (by rw [HT.out,her]) HRL.out))
   rw [her]
   clear her
   obtain ⟨⟨k0,k1,k2,k3,k4,k5,k6,k7⟩,m0,m1,m2,m3,m4,m5,m6,m7⟩:=zag HX3.out.blk
   obtain ⟨⟨n0,n1,n2,n3,n4,n5,n6,n7⟩,-⟩:=zag HX3.out.no
   go_wp2
   refine bodyPost_ret (zaa rfl _ _ r 111 _ (0,0) _ rfl (set8 HX3.out.blk _ _ _ _ _ _ _ _) Tryz.underlying111 rfl zao _ rfl) rfl ?_
   exact zaq (x:={ kind:=1,vk:=P.1,vn:=P.2.1 }) HX3.out.bel HX3.out.wr HV.out _ _ _ _ _ _ _ _
 · have HV:=Lib.hid (HVV.out.trans (zaU (e:=P.2.2) HFL.out rfl (by rw [HT.out]) her))
   have er1:(P.2.2==0)=false:=by rw [beq_eq_false_iff_ne];exact her
   have er2:(P.2.2 != 0)=true:=by simp only [bne,er1,Bool.not_false]
   clear her
   obtain ⟨⟨k0,k1,k2,k3,k4,k5,k6,k7⟩,m0,m1,m2,m3,m4,m5,m6,m7⟩:=zag HX3.out.blk
   obtain ⟨⟨n0,n1,n2,n3,n4,n5,n6,n7⟩,-⟩:=zag HX3.out.no
   go_wp2
   refine bodyPost_ret (zaa rfl _ _ r 111 _ (0,0) _ rfl (set8 HX3.out.blk _ _ _ _ _ _ _ _) Tryz.underlying111 rfl zao _ rfl) rfl ?_
   exact zaq (x:={ kind:=0 }) HX3.out.bel HX3.out.wr HV.out _ _ _ _ _ _ _ _
theorem rnext_45_end {w:World} {a:Option Addr} {cap:Nat} {bs:List UInt8} (hr:Row w 1 a bs.length cap (bs.map u8C)) (hn:bs.length≤400000) {k:Int} (last:Bool) (hk0:0≤k) (hk1:k≤bs.length) {f:Nat} (hf:zaC bs k=f) (hfl:f<bs.length) {V:Tk×Int×Int×Int} (hV:V=zbf bs f last) (hreg:isRg (bs.getD f 0)=true) (h1:f+runN (bs.drop f)=bs.length) (hla:last=true) (hc0:bs.getD f 0=45) :
   Calls Tryz.prog 84 #[.slice a bs.length cap,.int .i64 k,.bool last] w (zaz w V):=by
 have HT:=Lib.hid (show tokV last (bs.getD f 0) (bs.drop (f+1))=_ from zbm (X:=⟨none,0,bs,last⟩) (k:=f) hfl hreg)
 have hnl:¬(runN ((⟨none,0,bs,last⟩:Src).bs.drop f)=((⟨none,0,bs,last⟩:Src).bs.drop f).length∧(⟨none,0,bs,last⟩:Src).last=false):=by
   show ¬(runN (bs.drop f)=(bs.drop f).length∧last=false)
   rw [List.length_drop]
   rw [hla];simp
 have hnum:(isDg (bs.getD f 0)=true∨bs.getD f 0=43∨bs.getD f 0=45∨bs.getD f 0=46):=by
   exact .inr (.inr (.inl hc0))
 have ht:=HT.out
 unfold rgV at ht
 rw [if_neg hnl,if_pos hnum] at ht
 rw [List.drop_drop] at ht
 clear HT hnl hnum
 obtain ⟨P,hP⟩:∃P,zaK (regs (bs.drop f))=P:=⟨_,rfl⟩
 have ht2:tokV last (bs.getD f 0) (bs.drop (f+1))=(P.2.2,{ kind:=1,vk:=P.1,vn:=P.2.1 },bs.drop (f+runN (bs.drop f))):=by rw [←hP];exact ht
 have HP:=Lib.hid hP
 have HT:=Lib.hid ht2
 clear ht ht2 hP
 have HVV:=Lib.hid hV
 have HFL:=Lib.hid hfl
 subst hla
 have hdl:isDl (bs.getD f 0)=false:=by
   have h:=hreg
   unfold isRg at h
   cases hh:isDl (bs.getD f 0) with
   | false=>rfl
   | true=>rw [hh] at h;simp at h
 have n91:bs.getD f 0≠91:=fun e=>by rw [e] at hreg;exact absurd hreg (by decide)
 have n93:bs.getD f 0≠93:=fun e=>by rw [e] at hreg;exact absurd hreg (by decide)
 have n60:bs.getD f 0≠60:=fun e=>by rw [e] at hreg;exact absurd hreg (by decide)
 have n62:bs.getD f 0≠62:=fun e=>by rw [e] at hreg;exact absurd hreg (by decide)
 have n40:bs.getD f 0≠40:=fun e=>by rw [e] at hreg;exact absurd hreg (by decide)
 have n47:bs.getD f 0≠47:=fun e=>by rw [e] at hreg;exact absurd hreg (by decide)
 have e91:=zar n91 91 rfl
 have e93:=zar n93 93 rfl
 have e60:=zar n60 60 rfl
 have e62:=zar n62 62 rfl
 have e40:=zar n40 40 rfl
 have e47:=zar n47 47 rfl
 obtain ⟨b,off,R,r,x,rfl,hbW,hx,hR,hRL,hrr,hcap,hcm,hkd,hkd2,hff,hffn,hfi,hf9,hrl,hS,hRN,hc,hcf,hZ,hB0⟩:=zax hr hn hk0 hk1 hf hfl
 have HRW:=Lib.hid hr
 have HC:=Lib.hid hc
 have HS:=Lib.hid hS
 have HRN:=Lib.hid hRN
 have HRR:=Lib.hid hR
 have HRL:=Lib.hid hRL
 have HRE:=Lib.hid hrr
 have HZ:=Lib.hid hZ
 have HB0:=Lib.hid hB0
 clear hS hRN hRL hZ hB0
 have HDL:=Lib.hid (fun W=>zaM (bs.getD f 0).toNat W)
 rw [←zbH,hdl] at HDL
 rw [hx] at HDL e91 e93 e60 e62 e40 e47
 clear n91 n93 n60 n62 n40 n47 hdl hreg
 rw [←hR] at HT
 have hRt:(bs.drop f).take (R-f)=regs (bs.drop f):=by rw [za1,hR,Nat.add_sub_cancel_left]
 have HRT:=Lib.hid hRt
 have hrt:=zbd (bs.drop f)
 have hRf:f≤R:=by omega
 have hRl2:R≤bs.length:=HRL.out
 have hcf1:¬cap=f:=by omega
 have HRlen:=Lib.hid (show (regs (bs.drop f)).length≤400000 by show runN _≤_;omega)
 clear hRt hrt
 obtain rfl:x=45:=by rw [←hx,hc0];rfl
 clear hc0
 obtain rfl:R=bs.length:=hR.trans h1
 clear h1
 clear hr hf hR hrr hrl hk0 hk1 hc hV hx
 go_enter Tryz.func84,Tryz.ntmps84
 go_wp2_with fail
 refine (HS.out _ HB0.out).mono ?_
 rintro e w' ⟨rfl,rfl⟩
 rw [←HRE.out]
 generalize w.alloc _=W1 at *
 obtain ⟨hcj1,hcj,hbn,hbl,hX⟩:=zas hbW HRE.out HB0.out hcf HZ.out
 have HX:=Lib.hid hX
 clear hcf hX
 go_wp2_with fail
 refine (HRN.out _ HX.out.bel).mono ?_
 rintro e w' ⟨rfl,rfl⟩
 clear hcj1 hcj hbn hbl
 generalize W1.alloc _=W2 at *
 generalize W1.heap.size=p at *
 clear HZ HB0
 have hcv:(convert 22 9 (.slice (some ⟨b,off+f,none⟩) (bs.length-f) (cap-f))).run Tryz.prog W2=.ok (.string (mkB ((bs.drop f).take (bs.length-f)))) W2:=zaP (X:=⟨none,0,bs,true⟩) HC.out f (bs.length-f) (by have:=HRL.out;show f+_≤bs.length;omega) W2 HX.out.bel
 rw [HRT.out] at hcv
 obtain ⟨s,hs⟩:∃s,mkB (regs (bs.drop f))=s:=⟨_,rfl⟩
 have hsb:bl s=regs (bs.drop f):=by rw [←hs];rfl
 have HPA:=Lib.hid (zbu s W2 (by rw [←zaA,hsb];exact HRlen.out))
 rw [hsb,HP.out] at HPA
 rw [hs] at hcv
 unfold zbl valC za6 at HPA
 clear hs hsb
 go_wp2_with (go_at_call 126;refine (HDL.out _).mono ?_;rintro e w' ⟨rfl,rfl⟩)
 refine HPA.out.mono ?_
 rintro e w3 ⟨rfl,hb3⟩
 have HX3:=Lib.hid ((HX.out.on hb3).alloc (.cells #[.int .i64 P.1,.int .i64 P.2.1,.string ⟨#[]⟩,.slice none 0 0] 27))
 clear hb3 hcv HPA
 by_cases her:P.2.2=0
 · have HV:=Lib.hid (HVV.out.trans (zaY HFL.out rfl (x:={ kind:=1,vk:=P.1,vn:=P.2.1 }) (j:=bs.length) (by rw [HT.out,her]) HRL.out))
   rw [her]
   clear her
   obtain ⟨⟨k0,k1,k2,k3,k4,k5,k6,k7⟩,m0,m1,m2,m3,m4,m5,m6,m7⟩:=zag HX3.out.blk
   obtain ⟨⟨n0,n1,n2,n3,n4,n5,n6,n7⟩,-⟩:=zag HX3.out.no
   go_wp2
   refine bodyPost_ret (zaa rfl _ _ r 111 _ (0,0) _ rfl (set8 HX3.out.blk _ _ _ _ _ _ _ _) Tryz.underlying111 rfl zao _ rfl) rfl ?_
   exact zaq (x:={ kind:=1,vk:=P.1,vn:=P.2.1 }) HX3.out.bel HX3.out.wr HV.out _ _ _ _ _ _ _ _
 · have HV:=Lib.hid (HVV.out.trans (zaU (e:=P.2.2) HFL.out rfl (by rw [HT.out]) her))
   have er1:(P.2.2==0)=false:=by rw [beq_eq_false_iff_ne];exact her
   have er2:(P.2.2 != 0)=true:=by simp only [bne,er1,Bool.not_false]
   clear her
   obtain ⟨⟨k0,k1,k2,k3,k4,k5,k6,k7⟩,m0,m1,m2,m3,m4,m5,m6,m7⟩:=zag HX3.out.blk
   obtain ⟨⟨n0,n1,n2,n3,n4,n5,n6,n7⟩,-⟩:=zag HX3.out.no
   go_wp2
   refine bodyPost_ret (zaa rfl _ _ r 111 _ (0,0) _ rfl (set8 HX3.out.blk _ _ _ _ _ _ _ _) Tryz.underlying111 rfl zao _ rfl) rfl ?_
   exact zaq (x:={ kind:=0 }) HX3.out.bel HX3.out.wr HV.out _ _ _ _ _ _ _ _
theorem rnext_46_end {w:World} {a:Option Addr} {cap:Nat} {bs:List UInt8} (hr:Row w 1 a bs.length cap (bs.map u8C)) (hn:bs.length≤400000) {k:Int} (last:Bool) (hk0:0≤k) (hk1:k≤bs.length) {f:Nat} (hf:zaC bs k=f) (hfl:f<bs.length) {V:Tk×Int×Int×Int} (hV:V=zbf bs f last) (hreg:isRg (bs.getD f 0)=true) (h1:f+runN (bs.drop f)=bs.length) (hla:last=true) (hc0:bs.getD f 0=46) :
   Calls Tryz.prog 84 #[.slice a bs.length cap,.int .i64 k,.bool last] w (zaz w V):=by
 have HT:=Lib.hid (show tokV last (bs.getD f 0) (bs.drop (f+1))=_ from zbm (X:=⟨none,0,bs,last⟩) (k:=f) hfl hreg)
 have hnl:¬(runN ((⟨none,0,bs,last⟩:Src).bs.drop f)=((⟨none,0,bs,last⟩:Src).bs.drop f).length∧(⟨none,0,bs,last⟩:Src).last=false):=by
   show ¬(runN (bs.drop f)=(bs.drop f).length∧last=false)
   rw [List.length_drop]
   rw [hla];simp
 have hnum:(isDg (bs.getD f 0)=true∨bs.getD f 0=43∨bs.getD f 0=45∨bs.getD f 0=46):=by
   exact .inr (.inr (.inr hc0))
 have ht:=HT.out
 unfold rgV at ht
 rw [if_neg hnl,if_pos hnum] at ht
 rw [List.drop_drop] at ht
 clear HT hnl hnum
 obtain ⟨P,hP⟩:∃P,zaK (regs (bs.drop f))=P:=⟨_,rfl⟩
 have ht2:tokV last (bs.getD f 0) (bs.drop (f+1))=(P.2.2,{ kind:=1,vk:=P.1,vn:=P.2.1 },bs.drop (f+runN (bs.drop f))):=by rw [←hP];exact ht
 have HP:=Lib.hid hP
 have HT:=Lib.hid ht2
 clear ht ht2 hP
 have HVV:=Lib.hid hV
 have HFL:=Lib.hid hfl
 subst hla
 have hdl:isDl (bs.getD f 0)=false:=by
   have h:=hreg
   unfold isRg at h
   cases hh:isDl (bs.getD f 0) with
   | false=>rfl
   | true=>rw [hh] at h;simp at h
 have n91:bs.getD f 0≠91:=fun e=>by rw [e] at hreg;exact absurd hreg (by decide)
 have n93:bs.getD f 0≠93:=fun e=>by rw [e] at hreg;exact absurd hreg (by decide)
 have n60:bs.getD f 0≠60:=fun e=>by rw [e] at hreg;exact absurd hreg (by decide)
 have n62:bs.getD f 0≠62:=fun e=>by rw [e] at hreg;exact absurd hreg (by decide)
 have n40:bs.getD f 0≠40:=fun e=>by rw [e] at hreg;exact absurd hreg (by decide)
 have n47:bs.getD f 0≠47:=fun e=>by rw [e] at hreg;exact absurd hreg (by decide)
 have e91:=zar n91 91 rfl
 have e93:=zar n93 93 rfl
 have e60:=zar n60 60 rfl
 have e62:=zar n62 62 rfl
 have e40:=zar n40 40 rfl
 have e47:=zar n47 47 rfl
 obtain ⟨b,off,R,r,x,rfl,hbW,hx,hR,hRL,hrr,hcap,hcm,hkd,hkd2,hff,hffn,hfi,hf9,hrl,hS,hRN,hc,hcf,hZ,hB0⟩:=zax hr hn hk0 hk1 hf hfl
 have HRW:=Lib.hid hr
 have HC:=Lib.hid hc
 have HS:=Lib.hid hS
 have HRN:=Lib.hid hRN
 have HRR:=Lib.hid hR
 have HRL:=Lib.hid hRL
 have HRE:=Lib.hid hrr
 have HZ:=Lib.hid hZ
 have HB0:=Lib.hid hB0
 clear hS hRN hRL hZ hB0
 have HDL:=Lib.hid (fun W=>zaM (bs.getD f 0).toNat W)
 rw [←zbH,hdl] at HDL
 rw [hx] at HDL e91 e93 e60 e62 e40 e47
 clear n91 n93 n60 n62 n40 n47 hdl hreg
 rw [←hR] at HT
 have hRt:(bs.drop f).take (R-f)=regs (bs.drop f):=by rw [za1,hR,Nat.add_sub_cancel_left]
 have HRT:=Lib.hid hRt
 have hrt:=zbd (bs.drop f)
 have hRf:f≤R:=by omega
 have hRl2:R≤bs.length:=HRL.out
 have hcf1:¬cap=f:=by omega
 have HRlen:=Lib.hid (show (regs (bs.drop f)).length≤400000 by show runN _≤_;omega)
 clear hRt hrt
 obtain rfl:x=46:=by rw [←hx,hc0];rfl
 clear hc0
 obtain rfl:R=bs.length:=hR.trans h1
 clear h1
 clear hr hf hR hrr hrl hk0 hk1 hc hV hx
 go_enter Tryz.func84,Tryz.ntmps84
 go_wp2_with fail
 refine (HS.out _ HB0.out).mono ?_
 rintro e w' ⟨rfl,rfl⟩
 rw [←HRE.out]
 generalize w.alloc _=W1 at *
 obtain ⟨hcj1,hcj,hbn,hbl,hX⟩:=zas hbW HRE.out HB0.out hcf HZ.out
 have HX:=Lib.hid hX
 clear hcf hX
 go_wp2_with fail
 refine (HRN.out _ HX.out.bel).mono ?_
 rintro e w' ⟨rfl,rfl⟩
 clear hcj1 hcj hbn hbl
 generalize W1.alloc _=W2 at *
 generalize W1.heap.size=p at *
 clear HZ HB0
 have hcv:(convert 22 9 (.slice (some ⟨b,off+f,none⟩) (bs.length-f) (cap-f))).run Tryz.prog W2=.ok (.string (mkB ((bs.drop f).take (bs.length-f)))) W2:=zaP (X:=⟨none,0,bs,true⟩) HC.out f (bs.length-f) (by have:=HRL.out;show f+_≤bs.length;omega) W2 HX.out.bel
 rw [HRT.out] at hcv
 obtain ⟨s,hs⟩:∃s,mkB (regs (bs.drop f))=s:=⟨_,rfl⟩
 have hsb:bl s=regs (bs.drop f):=by rw [←hs];rfl
 have HPA:=Lib.hid (zbu s W2 (by rw [←zaA,hsb];exact HRlen.out))
 rw [hsb,HP.out] at HPA
 rw [hs] at hcv
 unfold zbl valC za6 at HPA
 clear hs hsb
 go_wp2_with (go_at_call 126;refine (HDL.out _).mono ?_;rintro e w' ⟨rfl,rfl⟩)
 refine HPA.out.mono ?_
 rintro e w3 ⟨rfl,hb3⟩
 have HX3:=Lib.hid ((HX.out.on hb3).alloc (.cells #[.int .i64 P.1,.int .i64 P.2.1,.string ⟨#[]⟩,.slice none 0 0] 27))
 clear hb3 hcv HPA
 by_cases her:P.2.2=0
 · have HV:=Lib.hid (HVV.out.trans (zaY HFL.out rfl (x:={ kind:=1,vk:=P.1,vn:=P.2.1 }) (j:=bs.length) (by rw [HT.out,her]) HRL.out))
   rw [her]
   clear her
   obtain ⟨⟨k0,k1,k2,k3,k4,k5,k6,k7⟩,m0,m1,m2,m3,m4,m5,m6,m7⟩:=zag HX3.out.blk
   obtain ⟨⟨n0,n1,n2,n3,n4,n5,n6,n7⟩,-⟩:=zag HX3.out.no
   go_wp2
   refine bodyPost_ret (zaa rfl _ _ r 111 _ (0,0) _ rfl (set8 HX3.out.blk _ _ _ _ _ _ _ _) Tryz.underlying111 rfl zao _ rfl) rfl ?_
   exact zaq (x:={ kind:=1,vk:=P.1,vn:=P.2.1 }) HX3.out.bel HX3.out.wr HV.out _ _ _ _ _ _ _ _
 · have HV:=Lib.hid (HVV.out.trans (zaU (e:=P.2.2) HFL.out rfl (by rw [HT.out]) her))
   have er1:(P.2.2==0)=false:=by rw [beq_eq_false_iff_ne];exact her
   have er2:(P.2.2 != 0)=true:=by simp only [bne,er1,Bool.not_false]
   clear her
   obtain ⟨⟨k0,k1,k2,k3,k4,k5,k6,k7⟩,m0,m1,m2,m3,m4,m5,m6,m7⟩:=zag HX3.out.blk
   obtain ⟨⟨n0,n1,n2,n3,n4,n5,n6,n7⟩,-⟩:=zag HX3.out.no
   go_wp2
   refine bodyPost_ret (zaa rfl _ _ r 111 _ (0,0) _ rfl (set8 HX3.out.blk _ _ _ _ _ _ _ _) Tryz.underlying111 rfl zao _ rfl) rfl ?_
   exact zaq (x:={ kind:=0 }) HX3.out.bel HX3.out.wr HV.out _ _ _ _ _ _ _ _
theorem zgB {w:World} {a:Option Addr} {cap:Nat} {bs:List UInt8} (hr:Row w 1 a bs.length cap (bs.map u8C)) (hn:bs.length≤400000) {k:Int} (last:Bool) (hk0:0≤k) (hk1:k≤bs.length) {f:Nat} (hf:zaC bs k=f) (hfl:f<bs.length) {V:Tk×Int×Int×Int} (hV:V=zbf bs f last) (hreg:isRg (bs.getD f 0)=true) (h1:f+runN (bs.drop f)=bs.length) (hla:last=true) (hd:(bs.getD f 0).toNat<48∧bs.getD f 0≠43∧bs.getD f 0≠45∧bs.getD f 0≠46) :
   Calls Tryz.prog 84 #[.slice a bs.length cap,.int .i64 k,.bool last] w (zaz w V):=by
 have HT:=Lib.hid (show tokV last (bs.getD f 0) (bs.drop (f+1))=_ from zbm (X:=⟨none,0,bs,last⟩) (k:=f) hfl hreg)
 have hnl:¬(runN ((⟨none,0,bs,last⟩:Src).bs.drop f)=((⟨none,0,bs,last⟩:Src).bs.drop f).length∧(⟨none,0,bs,last⟩:Src).last=false):=by
   show ¬(runN (bs.drop f)=(bs.drop f).length∧last=false)
   rw [List.length_drop]
   rw [hla];simp
 have hnum:¬(isDg (bs.getD f 0)=true∨bs.getD f 0=43∨bs.getD f 0=45∨bs.getD f 0=46):=by
   rintro (h|h|h|h)
   · have h2:=zbc.1 h;have:=hd.1;omega
   · exact hd.2.1 h
   · exact hd.2.2.1 h
   · exact hd.2.2.2 h
 have ht:=HT.out
 unfold rgV at ht
 rw [if_neg hnl,if_neg hnum] at ht
 rw [List.drop_drop] at ht
 clear HT hnl hnum
 have HT:=Lib.hid (show tokV last (bs.getD f 0) (bs.drop (f+1))=(0,{ kind:=6,s:=regs (bs.drop f) },bs.drop (f+runN (bs.drop f))) from ht)
 clear ht
 have HVV:=Lib.hid hV
 have HFL:=Lib.hid hfl
 subst hla
 have hdl:isDl (bs.getD f 0)=false:=by
   have h:=hreg
   unfold isRg at h
   cases hh:isDl (bs.getD f 0) with
   | false=>rfl
   | true=>rw [hh] at h;simp at h
 have n91:bs.getD f 0≠91:=fun e=>by rw [e] at hreg;exact absurd hreg (by decide)
 have n93:bs.getD f 0≠93:=fun e=>by rw [e] at hreg;exact absurd hreg (by decide)
 have n60:bs.getD f 0≠60:=fun e=>by rw [e] at hreg;exact absurd hreg (by decide)
 have n62:bs.getD f 0≠62:=fun e=>by rw [e] at hreg;exact absurd hreg (by decide)
 have n40:bs.getD f 0≠40:=fun e=>by rw [e] at hreg;exact absurd hreg (by decide)
 have n47:bs.getD f 0≠47:=fun e=>by rw [e] at hreg;exact absurd hreg (by decide)
 have e91:=zar n91 91 rfl
 have e93:=zar n93 93 rfl
 have e60:=zar n60 60 rfl
 have e62:=zar n62 62 rfl
 have e40:=zar n40 40 rfl
 have e47:=zar n47 47 rfl
 have e43:=zar hd.2.1 43 rfl
 have e45:=zar hd.2.2.1 45 rfl
 have e46:=zar hd.2.2.2 46 rfl
 have hd0:=hd.1
 clear hd
 obtain ⟨b,off,R,r,x,rfl,hbW,hx,hR,hRL,hrr,hcap,hcm,hkd,hkd2,hff,hffn,hfi,hf9,hrl,hS,hRN,hc,hcf,hZ,hB0⟩:=zax hr hn hk0 hk1 hf hfl
 have HRW:=Lib.hid hr
 have HC:=Lib.hid hc
 have HS:=Lib.hid hS
 have HRN:=Lib.hid hRN
 have HRR:=Lib.hid hR
 have HRL:=Lib.hid hRL
 have HRE:=Lib.hid hrr
 have HZ:=Lib.hid hZ
 have HB0:=Lib.hid hB0
 clear hS hRN hRL hZ hB0
 have HDL:=Lib.hid (fun W=>zaM (bs.getD f 0).toNat W)
 rw [←zbH,hdl] at HDL
 rw [hx] at HDL e91 e93 e60 e62 e40 e47
 clear n91 n93 n60 n62 n40 n47 hdl hreg
 rw [←hR] at HT
 have hRt:(bs.drop f).take (R-f)=regs (bs.drop f):=by rw [za1,hR,Nat.add_sub_cancel_left]
 have HRT:=Lib.hid hRt
 have hrt:=zbd (bs.drop f)
 have hRf:f≤R:=by omega
 have hRl2:R≤bs.length:=HRL.out
 have hcf1:¬cap=f:=by omega
 have HRlen:=Lib.hid (show (regs (bs.drop f)).length≤400000 by show runN _≤_;omega)
 clear hRt hrt
 rw [hx] at hd0 e43 e45 e46
 have d1:decide ((48:Int)≤x)=false:=decide_eq_false (by omega)
 clear hd0
 obtain rfl:R=bs.length:=hR.trans h1
 clear h1
 clear hr hf hR hrr hrl hk0 hk1 hc hV hx
 go_enter Tryz.func84,Tryz.ntmps84
 go_wp2_with fail
 refine (HS.out _ HB0.out).mono ?_
 rintro e w' ⟨rfl,rfl⟩
 rw [←HRE.out]
 generalize w.alloc _=W1 at *
 obtain ⟨hcj1,hcj,hbn,hbl,hX⟩:=zas hbW HRE.out HB0.out hcf HZ.out
 have HX:=Lib.hid hX
 clear hcf hX
 go_wp2_with fail
 refine (HRN.out _ HX.out.bel).mono ?_
 rintro e w' ⟨rfl,rfl⟩
 clear hcj1 hcj hbn hbl
 generalize W1.alloc _=W2 at *
 generalize W1.heap.size=p at *
 clear HZ HB0
 have hcv:(convert 22 9 (.slice (some ⟨b,off+f,none⟩) (bs.length-f) (cap-f))).run Tryz.prog W2=.ok (.string (mkB ((bs.drop f).take (bs.length-f)))) W2:=zaP (X:=⟨none,0,bs,true⟩) HC.out f (bs.length-f) (by have:=HRL.out;show f+_≤bs.length;omega) W2 HX.out.bel
 rw [HRT.out] at hcv
 have HV:=Lib.hid (HVV.out.trans (zaY HFL.out rfl (x:={ kind:=6,s:=regs (bs.drop f) }) (j:=bs.length) HT.out HRL.out))
 obtain ⟨⟨k0,k1,k2,k3,k4,k5,k6,k7⟩,m0,m1,m2,m3,m4,m5,m6,m7⟩:=zag HX.out.blk
 obtain ⟨⟨n0,n1,n2,n3,n4,n5,n6,n7⟩,-⟩:=zag HX.out.no
 go_wp2_with (go_at_call 126;refine (HDL.out _).mono ?_;rintro e w' ⟨rfl,rfl⟩)
 refine bodyPost_ret (zaa rfl _ _ r 111 _ (0,0) _ rfl (set8 HX.out.blk _ _ _ _ _ _ _ _) Tryz.underlying111 rfl zao _ rfl) rfl ?_
 exact zaq (x:={ kind:=6,s:=regs (bs.drop f) }) HX.out.bel HX.out.wr HV.out _ _ _ _ _ _ _ _
theorem zfl {w:World} {a:Option Addr} {cap:Nat} {bs:List UInt8} (hr:Row w 1 a bs.length cap (bs.map u8C)) (hn:bs.length≤400000) {k:Int} (last:Bool) (hk0:0≤k) (hk1:k≤bs.length) {f:Nat} (hf:zaC bs k=f) (hfl:f<bs.length) {V:Tk×Int×Int×Int} (hV:V=zbf bs f last) (hreg:isRg (bs.getD f 0)=true) (h1:f+runN (bs.drop f)=bs.length) (hla:last=true) (hd:57<(bs.getD f 0).toNat) :
   Calls Tryz.prog 84 #[.slice a bs.length cap,.int .i64 k,.bool last] w (zaz w V):=by
 have HT:=Lib.hid (show tokV last (bs.getD f 0) (bs.drop (f+1))=_ from zbm (X:=⟨none,0,bs,last⟩) (k:=f) hfl hreg)
 have hnl:¬(runN ((⟨none,0,bs,last⟩:Src).bs.drop f)=((⟨none,0,bs,last⟩:Src).bs.drop f).length∧(⟨none,0,bs,last⟩:Src).last=false):=by
   show ¬(runN (bs.drop f)=(bs.drop f).length∧last=false)
   rw [List.length_drop]
   rw [hla];simp
 have hnum:¬(isDg (bs.getD f 0)=true∨bs.getD f 0=43∨bs.getD f 0=45∨bs.getD f 0=46):=by
   rintro (h|h|h|h)
   · have h2:=zbc.1 h;omega
   · rw [h] at hd;exact absurd hd (by decide)
   · rw [h] at hd;exact absurd hd (by decide)
   · rw [h] at hd;exact absurd hd (by decide)
 have ht:=HT.out
 unfold rgV at ht
 rw [if_neg hnl,if_neg hnum] at ht
 rw [List.drop_drop] at ht
 clear HT hnl hnum
 have HT:=Lib.hid (show tokV last (bs.getD f 0) (bs.drop (f+1))=(0,{ kind:=6,s:=regs (bs.drop f) },bs.drop (f+runN (bs.drop f))) from ht)
 clear ht
 have HVV:=Lib.hid hV
 have HFL:=Lib.hid hfl
 subst hla
 have hdl:isDl (bs.getD f 0)=false:=by
   have h:=hreg
   unfold isRg at h
   cases hh:isDl (bs.getD f 0) with
   | false=>rfl
   | true=>rw [hh] at h;simp at h
 have n91:bs.getD f 0≠91:=fun e=>by rw [e] at hreg;exact absurd hreg (by decide)
 have n93:bs.getD f 0≠93:=fun e=>by rw [e] at hreg;exact absurd hreg (by decide)
 have n60:bs.getD f 0≠60:=fun e=>by rw [e] at hreg;exact absurd hreg (by decide)
 have n62:bs.getD f 0≠62:=fun e=>by rw [e] at hreg;exact absurd hreg (by decide)
 have n40:bs.getD f 0≠40:=fun e=>by rw [e] at hreg;exact absurd hreg (by decide)
 have n47:bs.getD f 0≠47:=fun e=>by rw [e] at hreg;exact absurd hreg (by decide)
 have e91:=zar n91 91 rfl
 have e93:=zar n93 93 rfl
 have e60:=zar n60 60 rfl
 have e62:=zar n62 62 rfl
 have e40:=zar n40 40 rfl
 have e47:=zar n47 47 rfl
 obtain ⟨b,off,R,r,x,rfl,hbW,hx,hR,hRL,hrr,hcap,hcm,hkd,hkd2,hff,hffn,hfi,hf9,hrl,hS,hRN,hc,hcf,hZ,hB0⟩:=zax hr hn hk0 hk1 hf hfl
 have HRW:=Lib.hid hr
 have HC:=Lib.hid hc
 have HS:=Lib.hid hS
 have HRN:=Lib.hid hRN
 have HRR:=Lib.hid hR
 have HRL:=Lib.hid hRL
 have HRE:=Lib.hid hrr
 have HZ:=Lib.hid hZ
 have HB0:=Lib.hid hB0
 clear hS hRN hRL hZ hB0
 have HDL:=Lib.hid (fun W=>zaM (bs.getD f 0).toNat W)
 rw [←zbH,hdl] at HDL
 rw [hx] at HDL e91 e93 e60 e62 e40 e47
 clear n91 n93 n60 n62 n40 n47 hdl hreg
 rw [←hR] at HT
 have hRt:(bs.drop f).take (R-f)=regs (bs.drop f):=by rw [za1,hR,Nat.add_sub_cancel_left]
 have HRT:=Lib.hid hRt
 have hrt:=zbd (bs.drop f)
 have hRf:f≤R:=by omega
 have hRl2:R≤bs.length:=HRL.out
 have hcf1:¬cap=f:=by omega
 have HRlen:=Lib.hid (show (regs (bs.drop f)).length≤400000 by show runN _≤_;omega)
 clear hRt hrt
 rw [hx] at hd
 have d1:decide ((48:Int)≤x)=true:=decide_eq_true (by omega)
 have d2:decide ((x:Int)≤57)=false:=decide_eq_false (by omega)
 have e43:((x:Int)==43)=false:=by rw [beq_eq_false_iff_ne];omega
 have e45:((x:Int)==45)=false:=by rw [beq_eq_false_iff_ne];omega
 have e46:((x:Int)==46)=false:=by rw [beq_eq_false_iff_ne];omega
 clear hd
 obtain rfl:R=bs.length:=hR.trans h1
 clear h1
 clear hr hf hR hrr hrl hk0 hk1 hc hV hx
 go_enter Tryz.func84,Tryz.ntmps84
 go_wp2_with fail
 refine (HS.out _ HB0.out).mono ?_
 rintro e w' ⟨rfl,rfl⟩
 rw [←HRE.out]
 generalize w.alloc _=W1 at *
 obtain ⟨hcj1,hcj,hbn,hbl,hX⟩:=zas hbW HRE.out HB0.out hcf HZ.out
 have HX:=Lib.hid hX
 clear hcf hX
 go_wp2_with fail
 refine (HRN.out _ HX.out.bel).mono ?_
 rintro e w' ⟨rfl,rfl⟩
 clear hcj1 hcj hbn hbl
 generalize W1.alloc _=W2 at *
 generalize W1.heap.size=p at *
 clear HZ HB0
 have hcv:(convert 22 9 (.slice (some ⟨b,off+f,none⟩) (bs.length-f) (cap-f))).run Tryz.prog W2=.ok (.string (mkB ((bs.drop f).take (bs.length-f)))) W2:=zaP (X:=⟨none,0,bs,true⟩) HC.out f (bs.length-f) (by have:=HRL.out;show f+_≤bs.length;omega) W2 HX.out.bel
 rw [HRT.out] at hcv
 have HV:=Lib.hid (HVV.out.trans (zaY HFL.out rfl (x:={ kind:=6,s:=regs (bs.drop f) }) (j:=bs.length) HT.out HRL.out))
 obtain ⟨⟨k0,k1,k2,k3,k4,k5,k6,k7⟩,m0,m1,m2,m3,m4,m5,m6,m7⟩:=zag HX.out.blk
 obtain ⟨⟨n0,n1,n2,n3,n4,n5,n6,n7⟩,-⟩:=zag HX.out.no
 go_wp2_with (go_at_call 126;refine (HDL.out _).mono ?_;rintro e w' ⟨rfl,rfl⟩)
 refine bodyPost_ret (zaa rfl _ _ r 111 _ (0,0) _ rfl (set8 HX.out.blk _ _ _ _ _ _ _ _) Tryz.underlying111 rfl zao _ rfl) rfl ?_
 exact zaq (x:={ kind:=6,s:=regs (bs.drop f) }) HX.out.bel HX.out.wr HV.out _ _ _ _ _ _ _ _
theorem rnext_out {w:World} {a:Option Addr} {cap n:Nat} {k:Int} (last:Bool) (_:(n:Int)≤9223372036854775807) (h:k<0∨(n:Int)<k) {V:Tk×Int×Int×Int} (hV:V=({ kind:=0 },0,0,2)) :
   Calls Tryz.prog 84 #[.slice a n cap,.int .i64 k,.bool last] w (zaz w V):=by
 have HV:=Lib.hid hV
 have HZ:=Lib.hid (show (w.alloc (.cells #[.int .i64 0,.int .i64 0,.int .i64 0,.int .i64 0,.int .i64 0,.string ⟨#[]⟩,.slice none 0 0,.string ⟨#[]⟩] 111)).heap[w.heap.size]?=some (.cells #[.int .i64 0,.int .i64 0,.int .i64 0,.int .i64 0,.int .i64 0,.string ⟨#[]⟩,.slice none 0 0,.string ⟨#[]⟩] 111 (0,0)) from zac _ rfl)
 have HB0:=Lib.hid (zak w (.cells #[.int .i64 0,.int .i64 0,.int .i64 0,.int .i64 0,.int .i64 0,.string ⟨#[]⟩,.slice none 0 0,.string ⟨#[]⟩] 111))
 clear hV
 by_cases hk0:k<0
 · have hkd:decide (k<0)=true:=decide_eq_true hk0
   clear h
   go_enter Tryz.func84,Tryz.ntmps84
   go_wp2
   refine bodyPost_ret (zaa rfl _ _ w.heap.size 111 _ (0,0) _ rfl (zac _ rfl) Tryz.underlying111 rfl (by exact zao) _ rfl) rfl ?_
   rw [HV.out]
   exact ⟨rfl,zak _ _⟩
 · have hk1:(n:Int)<k:=by omega
   have hkd:decide (k<0)=false:=decide_eq_false hk0
   have hkd2:decide ((n:Int)<k)=true:=decide_eq_true hk1
   clear h hk0 hk1
   go_enter Tryz.func84,Tryz.ntmps84
   go_wp2
   refine bodyPost_ret (zaa rfl _ _ w.heap.size 111 _ (0,0) _ rfl (zac _ rfl) Tryz.underlying111 rfl (by exact zao) _ rfl) rfl ?_
   rw [HV.out]
   exact ⟨rfl,zak _ _⟩
theorem rnext_end {w:World} {a:Option Addr} {cap:Nat} {bs:List UInt8} (hr:Row w 1 a bs.length cap (bs.map u8C)) (hn:bs.length≤400000) {k:Int} (last:Bool) (hk0:0≤k) (hk1:k≤bs.length) (hf:zaC bs k=bs.length) {V:Tk×Int×Int×Int} (hV:V=zbf bs bs.length last) :
   Calls Tryz.prog 84 #[.slice a bs.length cap,.int .i64 k,.bool last] w (zaz w V):=by
 rw [zdj last (by simp)] at hV
 have HV:=Lib.hid hV
 have HRW:=Lib.hid hr
 have hcm:=hr.i64c
 have hkd:decide (k<0)=false:=decide_eq_false (by omega)
 have hkd2:decide ((bs.length:Int)<k)=false:=decide_eq_false (by omega)
 have HS:=Lib.hid (fun (W:World) (h:Below w.heap.size w W)=>rskip_any (HRW.out.mono h) hn k)
 rw [hf] at HS
 obtain ⟨r,hrr⟩:∃r,r=w.heap.size:=⟨_,rfl⟩
 have HRE:=Lib.hid hrr
 have HZ:=Lib.hid (show (w.alloc (.cells #[.int .i64 0,.int .i64 0,.int .i64 0,.int .i64 0,.int .i64 0,.string ⟨#[]⟩,.slice none 0 0,.string ⟨#[]⟩] 111)).heap[r]?=some (.cells #[.int .i64 0,.int .i64 0,.int .i64 0,.int .i64 0,.int .i64 0,.string ⟨#[]⟩,.slice none 0 0,.string ⟨#[]⟩] 111 (0,0)) from zac _ hrr)
 have HB0:=Lib.hid (zak w (.cells #[.int .i64 0,.int .i64 0,.int .i64 0,.int .i64 0,.int .i64 0,.string ⟨#[]⟩,.slice none 0 0,.string ⟨#[]⟩] 111))
 clear hr hf hrr hk0 hk1 hV
 generalize bs.length=f at *
 go_enter Tryz.func84,Tryz.ntmps84
 go_wp2_with fail
 refine (HS.out _ HB0.out).mono ?_
 rintro e w' ⟨rfl,rfl⟩
 rw [←HRE.out]
 generalize w.alloc _=W1 at *
 have HX:=Lib.hid (show Rx w r W1.heap.size f (W1.alloc (.cells #[.int .i64 0,.int .i64 f,.int .i64 f,.int .i64 0,.int .i64 0,.string ⟨#[]⟩,.slice none 0 0,.string ⟨#[]⟩] 111)) from ⟨zal _ HZ.out,zac _ rfl,HB0.out.alloc HB0.out.size _,by rw [HRE.out];exact Nat.le_refl _⟩)
 obtain ⟨⟨k0,k1,k2,k3,k4,k5,k6,k7⟩,m0,m1,m2,m3,m4,m5,m6,m7⟩:=zag HX.out.blk
 obtain ⟨⟨n0,n1,n2,n3,n4,n5,n6,n7⟩,-⟩:=zag HX.out.no
 cases last
 · go_wp2
   refine bodyPost_ret (zaa rfl _ _ r 111 _ (0,0) _ rfl (set8 HX.out.blk _ _ _ _ _ _ _ _) Tryz.underlying111 rfl zao _ rfl) rfl ?_
   exact zaq (x:={ kind:=0 }) HX.out.bel HX.out.wr HV.out _ _ _ _ _ _ _ _
 · go_wp2
   refine bodyPost_ret (zaa rfl _ _ r 111 _ (0,0) _ rfl (set8 HX.out.blk _ _ _ _ _ _ _ _) Tryz.underlying111 rfl zao _ rfl) rfl ?_
   exact zaq (x:={ kind:=0 }) HX.out.bel HX.out.wr HV.out _ _ _ _ _ _ _ _
theorem rnext_any {w:World} {a:Option Addr} {cap:Nat} {bs:List UInt8} (hr:Row w 1 a bs.length cap (bs.map u8C)) (hn:bs.length≤400000) (k:Int) (last:Bool) :
   Calls Tryz.prog 84 #[.slice a bs.length cap,.int .i64 k,.bool last] w (zaz w (zah bs k last)):=by
 by_cases hk:k<0∨(bs.length:Int)<k
 · exact rnext_out last hr.i64 hk (by unfold zah;rw [if_pos hk])
 have hk0:0≤k:=by omega
 have hk1:k≤bs.length:=by omega
 have hV:=zdE (bs:=bs) last hk0 hk1
 have hfle:=(zey hk0 hk1).2
 have hsh:=fun f hf hl=>skip_here (bs:=bs) (f:=f) hk0 hk1 hf hl
 rw [hV]
 obtain ⟨f,hf⟩:∃f,zaC bs k=f:=⟨_,rfl⟩
 by_cases hfe:f=bs.length
 · subst hfe
   exact rnext_end hr hn last hk0 hk1 hf (by rw [hf])
 have hfl:f<bs.length:=by omega
 obtain ⟨h37,hsp⟩:=hsh f hf hfl
 have hV2:zbf bs (zaC bs k) last=zbf bs f last:=by rw [hf]
 clear hV hsh
 by_cases hrg:isRg (bs.getD f 0)=true
 · by_cases he:f+runN (bs.drop f)=bs.length
   · cases last with
     | false=>exact zgm hr hn false hk0 hk1 hf hfl hV2 hrg he rfl
     | true =>
       by_cases h43:bs.getD f 0=43
       · exact rnext_43_end hr hn true hk0 hk1 hf hfl hV2 hrg he rfl h43
       by_cases h45:bs.getD f 0=45
       · exact rnext_45_end hr hn true hk0 hk1 hf hfl hV2 hrg he rfl h45
       by_cases h46:bs.getD f 0=46
       · exact rnext_46_end hr hn true hk0 hk1 hf hfl hV2 hrg he rfl h46
       by_cases hlo:(bs.getD f 0).toNat<48
       · exact zgB hr hn true hk0 hk1 hf hfl hV2 hrg he rfl ⟨hlo,h43,h45,h46⟩
       by_cases hhi:57<(bs.getD f 0).toNat
       · exact zfl hr hn true hk0 hk1 hf hfl hV2 hrg he rfl hhi
       exact ze8 hr hn true hk0 hk1 hf hfl hV2 hrg he rfl ⟨by omega,by omega⟩
   · by_cases h43:bs.getD f 0=43
     · exact rnext_43_in hr hn last hk0 hk1 hf hfl hV2 hrg he h43
     by_cases h45:bs.getD f 0=45
     · exact rnext_45_in hr hn last hk0 hk1 hf hfl hV2 hrg he h45
     by_cases h46:bs.getD f 0=46
     · exact rnext_46_in hr hn last hk0 hk1 hf hfl hV2 hrg he h46
     by_cases hlo:(bs.getD f 0).toNat<48
     · exact rnext_low_in hr hn last hk0 hk1 hf hfl hV2 hrg he ⟨hlo,h43,h45,h46⟩
     by_cases hhi:57<(bs.getD f 0).toNat
     · exact zfW hr hn last hk0 hk1 hf hfl hV2 hrg he hhi
     exact zfm hr hn last hk0 hk1 hf hfl hV2 hrg he ⟨by omega,by omega⟩
 have hdl:isDl (bs.getD f 0)=true:=by
   unfold isRg at hrg
   rw [hsp] at hrg
   simpa using hrg
 by_cases h91:bs.getD f 0=91
 · exact rnext_91 hr hn last hk0 hk1 hf hfl hV2 h91
 by_cases h93:bs.getD f 0=93
 · exact rnext_93 hr hn last hk0 hk1 hf hfl hV2 h93
 by_cases h60:bs.getD f 0=60
 · by_cases h1:f+1<bs.length
   · by_cases h2:bs.getD (f+1) 0=60
     · exact rnext_6060 hr hn last hk0 hk1 hf hfl hV2 h60 h1 h2
     · exact rnext_hex hr hn last hk0 hk1 hf hfl hV2 h60 h1 h2
   · exact rnext_hexend hr hn last hk0 hk1 hf hfl hV2 h60 h1
 by_cases h62:bs.getD f 0=62
 · by_cases h1:f+1<bs.length
   · by_cases h2:bs.getD (f+1) 0=62
     · exact rnext_6262 hr hn last hk0 hk1 hf hfl hV2 h62 h1 h2
     · exact rnext_62form hr hn last hk0 hk1 hf hfl hV2 h62 h1 h2
   · cases last with
     | false=>exact rnext_62more hr hn false hk0 hk1 hf hfl hV2 h62 (by omega) rfl
     | true=>exact rnext_62last hr hn true hk0 hk1 hf hfl hV2 h62 (by omega) rfl
 by_cases h40:bs.getD f 0=40
 · exact rnext_text hr hn last hk0 hk1 hf hfl hV2 h40
 by_cases h47:bs.getD f 0=47
 · by_cases h1:f+1+runN (bs.drop (f+1))=bs.length
   · cases last with
     | false=>exact zfg hr hn false hk0 hk1 hf hfl hV2 h47 h1 rfl
     | true =>
       by_cases hcap:cap=f+1
       · exact zgq hr hn true hk0 hk1 hf hfl hV2 h47 rfl hcap
       · exact zfo hr hn true hk0 hk1 hf hfl hV2 h47 (fun _ h=>by cases h) h1 rfl hcap
   · by_cases hcap:cap=f+1
     · exfalso
       have h2:=hr.2.1
       apply h1
       rw [za3 (by omega)]
       show f+1+0=_
       omega
     · exact rnext_name hr hn last hk0 hk1 hf hfl hV2 h47 (fun h _=>h1 h) h1 hcap
 exact rnext_dl hr hn last hk0 hk1 hf hfl hV2 hdl h91 h93 h60 h62 h40 h47
theorem rwhole_tk (x:Tk) (f t:Int) (w:World):Calls Tryz.prog 99 #[.agg (tokN x f t)] w fun e w'=>e=.returned (.bool (zaE x))∧Below w.heap.size w w':=by
 unfold tokN zaE
 generalize x.kind=a0 at *
 generalize x.vk=a1 at *
 generalize x.vn=a2 at *
 generalize mkB x.vs=s1 at *
 generalize mkB x.s=s2 at *
 cases h0:(a0==1)
 · go_enter Tryz.func99,Tryz.ntmps99
   go_wp2
   go_ret
   exact ⟨rfl,zak w _⟩
 · go_enter Tryz.func99,Tryz.ntmps99
   go_wp2
   go_ret
   exact ⟨rfl,zak w _⟩
theorem zgh:∀a b:List UInt8,Op.bytesLess a b=sLt a b
 | [],[]=>rfl
 | [],_::_=>rfl
 | _::_,[]=>rfl
 | a::l,b::m=>by
   simp only [Op.bytesLess,sLt]
   rw [zgh l m]
   by_cases h:a.toNat<b.toNat
   · rw [if_pos h]
     have:(a<b):=h
     simp [this]
   · rw [if_neg h]
     have h':¬(a<b):=h
     by_cases h2:b.toNat<a.toNat
     · rw [if_pos h2]
       have:(a==b)=false:=by rw [beq_eq_false_iff_ne];intro e;subst e;omega
       simp [h',this]
     · rw [if_neg h2]
       have:a=b:=UInt8.toNat_inj.1 (by omega)
       subst this
       simp
theorem zbn (l:List UInt8):(mkB l).toList=l:=by unfold mkB;exact ByteArray.toList_eq _
structure Box4 (w:World) (b:Nat) (v:PV) (sl:Value):Prop where
 blk:w.heap[b]?=some (.cells #[.int .i64 v.kind,.int .i64 v.n,.string (mkB v.s),sl] 27 (0,0))
theorem Box4.cells {w:World} {b:Nat} {v:PV} {sl:Value} (h:Box4 w b v sl):w.cell? ⟨b,0,none⟩=some (.int .i64 v.kind)∧w.cell? ⟨b,1,none⟩=some (.int .i64 v.n)∧w.cell? ⟨b,2,none⟩=some (.string (mkB v.s))∧w.cell? ⟨b,3,none⟩=some sl:=by
 refine ⟨?_,?_,?_,?_⟩
 · rw [cell_of_row w b 0 _ _ _ h.blk];rfl
 · rw [cell_of_row w b 1 _ _ _ h.blk];rfl
 · rw [cell_of_row w b 2 _ _ _ h.blk];rfl
 · rw [cell_of_row w b 3 _ _ _ h.blk];rfl
def anyF:Nat→Prop:=fun _=>True
theorem IsV.any {w:World} {F:Nat→Prop} {v:PV} {sl:Value} (h:IsV w F v sl):IsV w anyF v sl:=h.weaken fun _ _=>trivial
theorem ze1 {w:World} {g n cap:Nat} {d:Bool} {a:Option Addr} (h:w.heap[g]?=some (.cells #[.bool d,.slice a n cap] 166 (0,0))) (hn:n≤maxLen) :
   Calls Tryz.prog 158 #[.pointer (some ⟨g,0,none⟩)] w fun e w'=>e=.returned (.bool (d&&n % 2==0))∧w=w':=by
 have c0:w.cell? ⟨g,0,none⟩=some (.bool d):=by rw [cell_of_row w g 0 _ _ _ h];rfl
 have c1:w.cell? ⟨g,1,none⟩=some (.slice a n cap):=by rw [cell_of_row w g 1 _ _ _ h];rfl
 have hi:(n:Int)≤9223372036854775807:=by unfold maxLen at hn;omega
 have he:((n:Int) % 2==0)=(n % 2==0):=by rw [Bool.eq_iff_iff];simp;omega
 have HE:=Lib.hid he
 clear h hn he
 cases d
 · go_enter Tryz.func158,Tryz.ntmps158
   go_wp2
   go_ret
   exact ⟨rfl,rfl⟩
 · go_enter Tryz.func158,Tryz.ntmps158
   go_wp2
   go_ret
   exact ⟨zba (by rw [Bool.true_and];exact HE.out),rfl⟩
section
variable {w0 w w' : World} {F F' G : Nat → Prop} {p : Nat} {a : Option Addr} {cap : Nat} {bs : List UInt8} {last : Bool} {st : List Lv} {at_ : Int} {gs : List Nat} {osl : Value}
def RefEnd (w0 w:World) (F G:Nat→Prop) (p:Nat) (a:Option Addr) (cap:Nat) (bs:List UInt8) (last:Bool) (st:List Lv) (gs:List Nat) (osl:Value) (R:PV×Int×Int) (e:Ending) (w':World):Prop :=
 e=.returned (.tuple #[pvA R.1 (.slice none 0 0),.int .i64 R.2.2])∧zav w0 w' F G p a cap bs last st R.2.1 gs osl∧zaf (fun b=>b=p) w w'
theorem fin4 (h:zav w0 w F G p a cap bs last st at_ gs osl) {W:World} (hb:Below w.heap.size w W) {q:Nat} (hq:w.heap.size≤q) (hl:q<W.heap.size) (y0 y1 y2 y3:Value) :
   zav w0 ((((W.setCell ⟨q,0,none⟩ y0).setCell ⟨q,1,none⟩ y1).setCell ⟨q,2,none⟩ y2).setCell ⟨q,3,none⟩ y3) F G p a cap bs last st at_ gs osl ∧
     zaf (fun b=>b=p) w ((((W.setCell ⟨q,0,none⟩ y0).setCell ⟨q,1,none⟩ y1).setCell ⟨q,2,none⟩ y2).setCell ⟨q,3,none⟩ y3) :=
 ⟨((h.res (G':=fun b=>G b∨b=q) hb (fun b hb=>hb.imp id fun e=>by rw [e];exact ⟨hq,hl⟩)).set4 (.inr rfl) _ _ _ _).give fun b hb=>.inl hb,zbe (zaw hb) hq _ _ _ _⟩
theorem fin4a (h:zav w0 w F G p a cap bs last st at_ gs osl) {W:World} (hb:Below w.heap.size w W) {q:Nat} (hq:w.heap.size≤q) (hl:q<W.heap.size) (at2:Int) (y0 y1 y2 y3:Value) :
   zav w0 (((((W.setCell ⟨p,1,none⟩ (.int .i64 at2)).setCell ⟨q,0,none⟩ y0).setCell ⟨q,1,none⟩ y1).setCell ⟨q,2,none⟩ y2).setCell ⟨q,3,none⟩ y3) F G p a cap bs last st at2 gs osl ∧
     zaf (fun b=>b=p) w (((((W.setCell ⟨p,1,none⟩ (.int .i64 at2)).setCell ⟨q,0,none⟩ y0).setCell ⟨q,1,none⟩ y1).setCell ⟨q,2,none⟩ y2).setCell ⟨q,3,none⟩ y3) :=
 ⟨(((h.res (G':=fun b=>G b∨b=q) hb (fun b hb=>hb.imp id fun e=>by rw [e];exact ⟨hq,hl⟩)).setAt at2).set4 (.inr rfl) _ _ _ _).give fun b hb=>.inl hb,
   zbe (zaf.setCell (S:=fun b=>b=p) (a:=⟨p,1,none⟩) (zaw hb) (.inl rfl) _) hq _ _ _ _⟩
theorem drew4 {W:World} {S:Nat→Prop} (h:zav w0 W F G p a cap bs last st at_ gs osl∧zaf S w W):zav w0 W.drew F G p a cap bs last st at_ gs osl∧zaf S w W.drew:=⟨h.1.drewN 1,h.2.drewN 1⟩
theorem ref_any (h:zav w0 w F G p a cap bs last st at_ gs osl) (v:PV):Calls Tryz.prog 161 #[.pointer (some ⟨p,0,none⟩),pvA v (.slice none 0 0)] w (RefEnd w0 w F G p a cap bs last st gs osl (refV bs last at_ v)):=by
 have HN:=Lib.hid (fun (W:World) (hb:Below w.heap.size w W)=>zdz (h.bytes.mono hb) h.small at_ last)
 obtain ⟨R,hR⟩:∃R,R=refV bs last at_ v:=⟨_,rfl⟩
 rw [←hR]
 unfold refV at hR
 simp only at hR
 have HWH:=Lib.hid (fun (W:World)=>zfS (zah bs at_ last).1 (zah bs at_ last).2.1 (zah bs at_ last).2.2.1 W)
 have HN2:=Lib.hid (fun (W:World) (hb:Below w.heap.size w W)=>zdz (h.bytes.mono hb) h.small (zah bs at_ last).2.2.1 last)
 generalize zah bs (zah bs at_ last).2.2.1 last=V2 at *
 generalize zah bs at_ last=V at *
 obtain ⟨x,gf,gt,ger⟩:=V
 obtain ⟨y,rf,rt,rer⟩:=V2
 simp only at hR HN2 HWH
 unfold zaz tokN at HN HN2
 unfold tokN at HWH
 simp only at HN HN2
 unfold pvA
 have HR:=Lib.hid hR
 have HYS:=Lib.hid (zdB y.s [82])
 clear hR
 generalize x.kind=ga0 at *
 generalize x.vk=ga1 at *
 generalize x.vn=ga2 at *
 generalize mkB x.vs=gs1 at *
 generalize mkB x.s=gs2 at *
 generalize y.kind=ra0 at *
 generalize y.vk=ra1 at *
 generalize y.vn=ra2 at *
 generalize mkB y.vs=rs1 at *
 generalize mkB y.s=rs2 at *
 generalize zaE x=wh at *
 obtain ⟨vk,vn,vs,vl⟩:=v
 simp only [PV.kind,PV.n,PV.s] at HR ⊢
 have HS:=Lib.hid h
 have hpw:=h.lt
 clear h
 go_enter Tryz.func161,Tryz.ntmps161
 go_wp2
 have HB1:=Lib.hid (zbD w (.cells #[.int .i64 vk,.int .i64 vn,.string (mkB vs),.slice none 0 0] 27) (.cells #[.int .i64 0,.int .i64 0,.string ⟨#[]⟩,.slice none 0 0] 27))
 have HS1:=Lib.hid (HS.out.mono HB1.out)
 have HK3:=Lib.hid (zal (.cells #[.int .i64 0,.int .i64 0,.string ⟨#[]⟩,.slice none 0 0] 27) (zac (w:=w) (b:=w.heap.size) (.cells #[.int .i64 vk,.int .i64 vn,.string (mkB vs),.slice none 0 0] 27) rfl))
 have HK4:=Lib.hid (zac (w:=w.alloc (.cells #[.int .i64 vk,.int .i64 vn,.string (mkB vs),.slice none 0 0] 27)) (b:=w.heap.size+1) (.cells #[.int .i64 0,.int .i64 0,.string ⟨#[]⟩,.slice none 0 0] 27) (by rw [zap]))
 generalize (w.alloc _).alloc _=W1 at *
 obtain ⟨r,hr⟩:∃r,r=w.heap.size:=⟨_,rfl⟩
 have hpr0:p≠r:=by omega
 have hpr1:p≠r+1:=by omega
 rw [←hr] at HK3 HK4 ⊢
 have HRR:=Lib.hid hr
 clear hr hpw
 obtain ⟨⟨c0,c1,c2,c3⟩,f0,f1,f2,f3⟩:=HS1.out.cells
 go_upto_region 1 with fail
 go_cut [6,7] from 9 (fun v6 v7 wx=>∃r2,v6=.pointer (some ⟨r2,0,none⟩)∧v7=.int .i64 ger∧Hid (TkM W1 wx r2 #[.int .i64 ga0,.int .i64 gf,.int .i64 gt,.int .i64 ga1,.int .i64 ga2,.string gs1,.slice none 0 0,.string gs2]))
 case first =>
   have HA1:=Lib.hid (fun o:Obj=>(zak W1 o).drew)
   have HA2:=Lib.hid (fun o:Obj=>HB1.out.trans ((HA1.out o).mono (show w.heap.size≤W1.heap.size from HB1.out.size)))
   have HC0:Hid (S3 W1 p 0 (.slice a bs.length cap) p 1 (.int .i64 at_) p 2 (.bool last)):=Lib.hid ⟨c0,c1,c2⟩
   have HPR:Hid (p≠W1.heap.size∧p≠W1.heap.size∧p≠W1.heap.size):=Lib.hid ⟨Nat.ne_of_lt (World.block_lt_of_cell? W1 _ c0),Nat.ne_of_lt (World.block_lt_of_cell? W1 _ c1),Nat.ne_of_lt (World.block_lt_of_cell? W1 _ c2)⟩
   go_region_held3 (fun w'=>w'.cell? ⟨p,0,none⟩=some (.slice a bs.length cap)∧w'.cell? ⟨p,1,none⟩=some (.int .i64 at_)∧w'.cell? ⟨p,2,none⟩=some (.bool last))
     ((show S3 _ p 0 (.slice a bs.length cap) p 1 (.int .i64 at_) p 2 (.bool last);(first
       | (with_reducible exact HC0.out.drew)
       | (with_reducible exact HC0.out)
       | (with_reducible exact (HC0.out.alloc _).drew)
       | (with_reducible exact Hid.out (by assumption))
       | (with_reducible exact S3.alloc (Hid.out (by assumption)) _)
       | (with_reducible exact S3.set8 (Hid.out (by assumption)) HPR.out.1 HPR.out.2.1 HPR.out.2.2 _ _ _ _ _ _ _ _))))
     ((go_at_call 115;first
       | ((with_reducible refine (HN.out _ HB1.out.drew).mono ?_);rintro e wN ⟨rfl,hbN⟩;have hbM:Below W1.heap.size W1 wN:=(Below.refl _ _).drew.trans hbN;have HSN:=Lib.hid (HC0.out.below hbM))
       | ((with_reducible refine (HN.out _ (HA2.out _)).mono ?_);rintro e wN ⟨rfl,hbN⟩;have hbM:Below W1.heap.size W1 wN:=(HA1.out _).trans (hbN.mono (HA1.out _).size);have HSN:=Lib.hid (HC0.out.below hbM);have HZ:=Lib.hid (zab hbN (zac (w:=W1) (b:=W1.heap.size) (.cells #[.int .i64 0,.int .i64 0,.int .i64 0,.int .i64 0,.int .i64 0,.string ⟨#[]⟩,.slice none 0 0,.string ⟨#[]⟩] 150) rfl));obtain ⟨⟨z0,z1,z2,z3,z4,z5,z6,z7⟩,y0,y1,y2,y3,y4,y5,y6,y7⟩:=zag HZ.out)))
   all_goals
     first
       | (obtain ⟨W2,hW2⟩:∃W2,W2=wN.alloc (.cells #[.int .i64 ga0,.int .i64 gf,.int .i64 gt,.int .i64 ga1,.int .i64 ga2,.string gs1,.slice none 0 0,.string gs2] 150):=⟨_,rfl⟩
          rw [←hW2]
          have HT:=Lib.hid (show TkM W1 W2 wN.heap.size #[.int .i64 ga0,.int .i64 gf,.int .i64 gt,.int .i64 ga1,.int .i64 ga2,.string gs1,.slice none 0 0,.string gs2] from ⟨by rw [hW2];exact hbM.alloc hbM.size _,by rw [hW2];exact zac _ rfl,hbM.size⟩)
          obtain ⟨r2,hr2⟩:∃r2,r2=wN.heap.size:=⟨_,rfl⟩
          rw [←hr2] at HT ⊢)
       | (obtain ⟨W2,hW2⟩:∃W2,W2=((((((((wN.setCell ⟨W1.heap.size,0,none⟩ (.int .i64 ga0)).setCell ⟨W1.heap.size,1,none⟩ (.int .i64 gf)).setCell ⟨W1.heap.size,2,none⟩ (.int .i64 gt)).setCell ⟨W1.heap.size,3,none⟩ (.int .i64 ga1)).setCell ⟨W1.heap.size,4,none⟩ (.int .i64 ga2)).setCell ⟨W1.heap.size,5,none⟩ (.string gs1)).setCell ⟨W1.heap.size,6,none⟩ (.slice none 0 0)).setCell ⟨W1.heap.size,7,none⟩ (.string gs2)):=⟨_,rfl⟩
          rw [←hW2]
          have HT:=Lib.hid (show TkM W1 W2 W1.heap.size #[.int .i64 ga0,.int .i64 gf,.int .i64 gt,.int .i64 ga1,.int .i64 ga2,.string gs1,.slice none 0 0,.string gs2] from ⟨by rw [hW2];exact zbg hbM (Nat.le_refl _) _ _ _ _ _ _ _ _,by rw [hW2];exact set8 HZ.out _ _ _ _ _ _ _ _,Nat.le_refl _⟩)
          clear z0 z1 z2 z3 z4 z5 z6 z7 y0 y1 y2 y3 y4 y5 y6 y7 HZ
          obtain ⟨r2,hr2⟩:∃r2,r2=W1.heap.size:=⟨_,rfl⟩
          rw [←hr2] at HT ⊢)
     clear hW2 hr2 hbN hbM HSN
   all_goals
     go_wp2
     go_meet
     exact ⟨r2,rfl,rfl,HT⟩
 case rest =>
   obtain ⟨r2,rfl,rfl,HT⟩:=hcut
   have HS2:=Lib.hid (HS1.out.mono HT.out.bel)
   have HB2:=Lib.hid (HB1.out.trans (HT.out.bel.mono HB1.out.size))
   have HL3:=Lib.hid (zab HT.out.bel HK3.out)
   have HL4:=Lib.hid (zab HT.out.bel HK4.out)
   have HTK:=Lib.hid HT.out.blk
   clear c0 c1 c2 c3 f0 f1 f2 f3 HT HK3 HK4 HS1 HB1 HN
   have hmv:=Lib.hid (fun e w=>more_any e w)
   by_cases hg:ger=0
   case neg =>
     have e1:(ger==0)=false:=by rw [beq_eq_false_iff_ne];exact hg
     have e2:(ger != 0)=true:=by simp only [bne,e1,Bool.not_false]
     have hr2:=HR.out
     rw [if_pos (.inl hg)] at hr2
     have HR2:=Lib.hid hr2
     obtain ⟨⟨k0,k1,k2,k3⟩,m0,m1,m2,m3⟩:=zam HL3.out
     obtain ⟨⟨q0,q1,q2,q3⟩,n0,n1,n2,n3⟩:=zam HL4.out
     clear hr2 hg HR HN2
     go_wp2
     go_region_with ((go_at_call 190;refine (hmv.out _ _).mono ?_;rintro e w' ⟨rfl,rfl⟩))
     all_goals
       go_wp2
       refine bodyPost_ret (zaa rfl _ _ (r+1) 27 _ (0,0) _ rfl (by exact set4 HL4.out _ _ _ _) Tryz.underlying27 rfl (by exact zaS) _ rfl) rfl ?_
       rw [HR2.out]
       exact ⟨rfl,drew4 (fin4 HS.out HB2.out (by rw [HRR.out];exact Nat.le_succ _) (zai HL4.out) _ _ _ _)⟩
   subst hg
   cases wh with
   | false =>
     have hr2:=HR.out
     rw [if_pos (.inr rfl)] at hr2
     have HR2:=Lib.hid hr2
     obtain ⟨⟨k0,k1,k2,k3,k4,k5,k6,k7⟩,-⟩:=zag HTK.out
     clear hr2 HR HN2
     go_wp2_with fail
     refine (HWH.out _).mono ?_
     rintro e w' ⟨rfl,hb⟩
     have HL3b:=Lib.hid (zab hb HL3.out)
     have HL4b:=Lib.hid (zab hb HL4.out)
     have HB3:=Lib.hid (HB2.out.trans (hb.mono HB2.out.size))
     obtain ⟨⟨k0,k1,k2,k3⟩,m0,m1,m2,m3⟩:=zam HL3b.out
     obtain ⟨⟨q0,q1,q2,q3⟩,n0,n1,n2,n3⟩:=zam HL4b.out
     clear hb
     go_wp2
     go_region_with ((go_at_call 190;refine (hmv.out _ _).mono ?_;rintro e w' ⟨rfl,rfl⟩))
     all_goals
       go_wp2
       refine bodyPost_ret (zaa rfl _ _ (r+1) 27 _ (0,0) _ rfl (by exact set4 HL4b.out _ _ _ _) Tryz.underlying27 rfl (by exact zaS) _ rfl) rfl ?_
       rw [HR2.out]
       exact ⟨rfl,drew4 (fin4 HS.out HB3.out (by rw [HRR.out];exact Nat.le_succ _) (zai HL4b.out) _ _ _ _)⟩
   | true =>
     have hr1:=HR.out
     rw [if_neg (by simp)] at hr1
     have HRX:=Lib.hid hr1
     obtain ⟨⟨k0,k1,k2,k3,k4,k5,k6,k7⟩,-⟩:=zag HTK.out
     clear hr1 HR
     go_upto_region 4 with (go_at_call 95;refine (HWH.out _).mono ?_;rintro e W3 ⟨rfl,hb3⟩)
     have HB3:=Lib.hid (HB2.out.trans (hb3.mono HB2.out.size))
     have HS3:=Lib.hid (HS2.out.mono hb3)
     have HL3b:=Lib.hid (zab hb3 HL3.out)
     have HL4b:=Lib.hid (zab hb3 HL4.out)
     have HTKb:=Lib.hid (zab hb3 HTK.out)
     clear hb3 k0 k1 k2 k3 k4 k5 k6 k7
     go_cut [7,8] from 9 (fun v7 v8 wx=>∃r3,v7=.int .i64 rer∧v8=.pointer (some ⟨r3,0,none⟩)∧Hid (TkM W3 wx r3 #[.int .i64 ra0,.int .i64 rf,.int .i64 rt,.int .i64 ra1,.int .i64 ra2,.string rs1,.slice none 0 0,.string rs2]))
     case first =>
       obtain ⟨⟨k0,k1,k2,k3,k4,k5,k6,k7⟩,-⟩:=zag HTKb.out
       obtain ⟨⟨c0,c1,c2,c3⟩,-⟩:=HS3.out.cells
       clear k0 k1 k3 k4 k5 k6 k7 c1 c3
       have HA1:=Lib.hid (fun o:Obj=>(zak W3 o).drew)
       have HA2:=Lib.hid (fun o:Obj=>HB3.out.trans ((HA1.out o).mono (show w.heap.size≤W3.heap.size from HB3.out.size)))
       have HC0:Hid (S3 W3 p 0 (.slice a bs.length cap) r2 2 (.int .i64 gt) p 2 (.bool last)):=Lib.hid ⟨c0,k2,c2⟩
       have HPR:Hid (p≠W3.heap.size∧r2≠W3.heap.size∧p≠W3.heap.size):=Lib.hid ⟨Nat.ne_of_lt (World.block_lt_of_cell? W3 _ c0),Nat.ne_of_lt (World.block_lt_of_cell? W3 _ k2),Nat.ne_of_lt (World.block_lt_of_cell? W3 _ c2)⟩
       go_region_held3 (fun w'=>w'.cell? ⟨p,0,none⟩=some (.slice a bs.length cap)∧w'.cell? ⟨r2,2,none⟩=some (.int .i64 gt)∧w'.cell? ⟨p,2,none⟩=some (.bool last))
         ((show S3 _ p 0 (.slice a bs.length cap) r2 2 (.int .i64 gt) p 2 (.bool last);(first
           | (with_reducible exact HC0.out.drew)
           | (with_reducible exact HC0.out)
           | (with_reducible exact (HC0.out.alloc _).drew)
           | (with_reducible exact Hid.out (by assumption))
           | (with_reducible exact S3.alloc (Hid.out (by assumption)) _)
           | (with_reducible exact S3.set8 (Hid.out (by assumption)) HPR.out.1 HPR.out.2.1 HPR.out.2.2 _ _ _ _ _ _ _ _))))
         ((go_at_call 115;first
           | ((with_reducible refine (HN2.out _ HB3.out.drew).mono ?_);rintro e wN ⟨rfl,hbN⟩;have hbM:Below W3.heap.size W3 wN:=(Below.refl _ _).drew.trans hbN;have HSN:=Lib.hid (HC0.out.below hbM))
           | ((with_reducible refine (HN2.out _ (HA2.out _)).mono ?_);rintro e wN ⟨rfl,hbN⟩;have hbM:Below W3.heap.size W3 wN:=(HA1.out _).trans (hbN.mono (HA1.out _).size);have HSN:=Lib.hid (HC0.out.below hbM);have HZ:=Lib.hid (zab hbN (zac (w:=W3) (b:=W3.heap.size) (.cells #[.int .i64 0,.int .i64 0,.int .i64 0,.int .i64 0,.int .i64 0,.string ⟨#[]⟩,.slice none 0 0,.string ⟨#[]⟩] 150) rfl));obtain ⟨⟨z0,z1,z2,z3,z4,z5,z6,z7⟩,y0,y1,y2,y3,y4,y5,y6,y7⟩:=zag HZ.out)))
       all_goals
         first
           | (obtain ⟨W2,hW2⟩:∃W2,W2=wN.alloc (.cells #[.int .i64 ra0,.int .i64 rf,.int .i64 rt,.int .i64 ra1,.int .i64 ra2,.string rs1,.slice none 0 0,.string rs2] 150):=⟨_,rfl⟩
              rw [←hW2]
              have HT:=Lib.hid (show TkM W3 W2 wN.heap.size #[.int .i64 ra0,.int .i64 rf,.int .i64 rt,.int .i64 ra1,.int .i64 ra2,.string rs1,.slice none 0 0,.string rs2] from ⟨by rw [hW2];exact hbM.alloc hbM.size _,by rw [hW2];exact zac _ rfl,hbM.size⟩)
              obtain ⟨r2_1,hr2⟩:∃r2_1,r2_1=wN.heap.size:=⟨_,rfl⟩
              rw [←hr2] at HT ⊢)
           | (obtain ⟨W2,hW2⟩:∃W2,W2=((((((((wN.setCell ⟨W3.heap.size,0,none⟩ (.int .i64 ra0)).setCell ⟨W3.heap.size,1,none⟩ (.int .i64 rf)).setCell ⟨W3.heap.size,2,none⟩ (.int .i64 rt)).setCell ⟨W3.heap.size,3,none⟩ (.int .i64 ra1)).setCell ⟨W3.heap.size,4,none⟩ (.int .i64 ra2)).setCell ⟨W3.heap.size,5,none⟩ (.string rs1)).setCell ⟨W3.heap.size,6,none⟩ (.slice none 0 0)).setCell ⟨W3.heap.size,7,none⟩ (.string rs2)):=⟨_,rfl⟩
              rw [←hW2]
              have HT:=Lib.hid (show TkM W3 W2 W3.heap.size #[.int .i64 ra0,.int .i64 rf,.int .i64 rt,.int .i64 ra1,.int .i64 ra2,.string rs1,.slice none 0 0,.string rs2] from ⟨by rw [hW2];exact zbg hbM (Nat.le_refl _) _ _ _ _ _ _ _ _,by rw [hW2];exact set8 HZ.out _ _ _ _ _ _ _ _,Nat.le_refl _⟩)
              clear z0 z1 z2 z3 z4 z5 z6 z7 y0 y1 y2 y3 y4 y5 y6 y7 HZ
              obtain ⟨r2_1,hr2⟩:∃r2_1,r2_1=W3.heap.size:=⟨_,rfl⟩
              rw [←hr2] at HT ⊢)
         clear hW2 hr2 hbN hbM HSN
       all_goals
         go_wp2
         go_meet
         exact ⟨r2_1,rfl,rfl,HT⟩
     case rest =>
       obtain ⟨r3,rfl,rfl,HT⟩:=hcut
       have HS4:=Lib.hid (HS3.out.mono HT.out.bel)
       have HB4:=Lib.hid (HB3.out.trans (HT.out.bel.mono HB3.out.size))
       have HM3:=Lib.hid (zab HT.out.bel HL3b.out)
       have HM4:=Lib.hid (zab HT.out.bel HL4b.out)
       have HU1:=Lib.hid (zab HT.out.bel HTKb.out)
       have HU2:=Lib.hid HT.out.blk
       clear HT
       obtain ⟨⟨k0,k1,k2,k3⟩,m0,m1,m2,m3⟩:=zam HM3.out
       obtain ⟨⟨q0,q1,q2,q3⟩,n0,n1,n2,n3⟩:=zam HM4.out
       obtain ⟨⟨t0,t1,t2,t3,t4,t5,t6,t7⟩,-⟩:=zag HU2.out
       obtain ⟨⟨d0,d1,d2,d3,d4,d5,d6,d7⟩,-⟩:=zag HU1.out
       obtain ⟨⟨c0,c1,c2,c3⟩,f0,f1,f2,f3⟩:=HS4.out.cells
       have hys:=HYS.out
       by_cases h0:rer=0
       case neg =>
         have e1:(rer==0)=false:=by rw [beq_eq_false_iff_ne];exact h0
         have e2:(rer != 0)=true:=by simp only [bne,e1,Bool.not_false]
         have hr2:=HRX.out
         rw [if_pos (.inl h0)] at hr2
         have HR2:=Lib.hid hr2
         clear hr2 h0 hys
         go_wp2
         go_region_with ((go_at_call 190;refine (hmv.out _ _).mono ?_;rintro e w' ⟨rfl,rfl⟩))
         all_goals
           go_wp2
           refine bodyPost_ret (zaa rfl _ _ (r+1) 27 _ (0,0) _ rfl (by exact set4 HM4.out _ _ _ _) Tryz.underlying27 rfl (by exact zaS) _ rfl) rfl ?_
           rw [HR2.out]
           exact ⟨rfl,drew4 (fin4 HS.out HB4.out (by rw [HRR.out];exact Nat.le_succ _) (zai HM4.out) _ _ _ _)⟩
       subst h0
       by_cases h6:ra0=6
       case neg =>
         have e1:(ra0==6)=false:=by rw [beq_eq_false_iff_ne];exact h6
         have e2:(ra0 != 6)=true:=by simp only [bne,e1,Bool.not_false]
         have hr2:=HRX.out
         rw [if_pos (.inr (.inl h6))] at hr2
         have HR2:=Lib.hid hr2
         clear hr2 h6 hys
         go_wp2
         go_region_with ((go_at_call 190;refine (hmv.out _ _).mono ?_;rintro e w' ⟨rfl,rfl⟩))
         all_goals
           go_wp2
           refine bodyPost_ret (zaa rfl _ _ (r+1) 27 _ (0,0) _ rfl (by exact set4 HM4.out _ _ _ _) Tryz.underlying27 rfl (by exact zaS) _ rfl) rfl ?_
           rw [HR2.out]
           exact ⟨rfl,drew4 (fin4 HS.out HB4.out (by rw [HRR.out];exact Nat.le_succ _) (zai HM4.out) _ _ _ _)⟩
       subst h6
       by_cases hs:y.s=[82]
       case neg =>
         rw [decide_eq_false hs] at hys
         have hr2:=HRX.out
         rw [if_pos (.inr (.inr hs))] at hr2
         have HR2:=Lib.hid hr2
         clear hr2 hs
         go_wp2
         go_region_with ((go_at_call 190;refine (hmv.out _ _).mono ?_;rintro e w' ⟨rfl,rfl⟩))
         all_goals
           go_wp2
           refine bodyPost_ret (zaa rfl _ _ (r+1) 27 _ (0,0) _ rfl (by exact set4 HM4.out _ _ _ _) Tryz.underlying27 rfl (by exact zaS) _ rfl) rfl ?_
           rw [HR2.out]
           exact ⟨rfl,drew4 (fin4 HS.out HB4.out (by rw [HRR.out];exact Nat.le_succ _) (zai HM4.out) _ _ _ _)⟩
       rw [decide_eq_true hs] at hys
       have hr2:=HRX.out
       rw [if_neg (by rintro (h|h|h);exact h rfl;exact h rfl;exact h hs)] at hr2
       have HRY:=Lib.hid hr2
       clear hr2 hs
       by_cases hv1:vn<1
       case pos =>
         have hd:decide (vn<1)=true:=decide_eq_true hv1
         have hr2:=HRY.out.trans (if_pos (show vn<1∨4096<vn∨ga2≠0 from .inl hv1))
         have HR2:=Lib.hid hr2
         clear hr2 hv1
         go_wp2
         refine bodyPost_ret (zaa rfl _ _ (r+1) 27 _ (0,0) _ rfl (by exact set4 HM4.out _ _ _ _) Tryz.underlying27 rfl (by exact zaS) _ rfl) rfl ?_
         rw [HR2.out]
         exact ⟨rfl,fin4 HS.out HB4.out (by rw [HRR.out];exact Nat.le_succ _) (zai HM4.out) _ _ _ _⟩
       have hd1:decide (vn<1)=false:=decide_eq_false hv1
       by_cases hv2:4096<vn
       case pos =>
         have hd:decide (4096<vn)=true:=decide_eq_true hv2
         have hr2:=HRY.out.trans (if_pos (show vn<1∨4096<vn∨ga2≠0 from .inr (.inl hv2)))
         have HR2:=Lib.hid hr2
         clear hr2 hv2 hv1
         go_wp2
         refine bodyPost_ret (zaa rfl _ _ (r+1) 27 _ (0,0) _ rfl (by exact set4 HM4.out _ _ _ _) Tryz.underlying27 rfl (by exact zaS) _ rfl) rfl ?_
         rw [HR2.out]
         exact ⟨rfl,fin4 HS.out HB4.out (by rw [HRR.out];exact Nat.le_succ _) (zai HM4.out) _ _ _ _⟩
       have hd2:decide (4096<vn)=false:=decide_eq_false hv2
       by_cases hg2:ga2=0
       case neg =>
         have e1:(ga2==0)=false:=by rw [beq_eq_false_iff_ne];exact hg2
         have e2:(ga2 != 0)=true:=by simp only [bne,e1,Bool.not_false]
         have hr2:=HRY.out.trans (if_pos (show vn<1∨4096<vn∨ga2≠0 from .inr (.inr hg2)))
         have HR2:=Lib.hid hr2
         clear hr2 hv2 hv1 hg2
         go_wp2
         refine bodyPost_ret (zaa rfl _ _ (r+1) 27 _ (0,0) _ rfl (by exact set4 HM4.out _ _ _ _) Tryz.underlying27 rfl (by exact zaS) _ rfl) rfl ?_
         rw [HR2.out]
         exact ⟨rfl,fin4 HS.out HB4.out (by rw [HRR.out];exact Nat.le_succ _) (zai HM4.out) _ _ _ _⟩
       subst hg2
       have hr2:=HRY.out.trans (if_neg (show ¬(vn<1∨4096<vn∨(0:Int)≠0) by rintro (h|h|h);exact hv1 h;exact hv2 h;exact h rfl))
       have HR2:=Lib.hid hr2
       clear hr2 hv2 hv1
       go_wp2
       refine bodyPost_ret (zaa rfl _ _ (r+1) 27 _ (0,0) _ rfl (by exact set4 ((heap_setCell_other _ _ _ _ (Ne.symm hpr1)).trans HM4.out) _ _ _ _) Tryz.underlying27 rfl (by exact zaS) _ rfl) rfl ?_
       rw [HR2.out]
       exact ⟨rfl,fin4a HS.out HB4.out (by rw [HRR.out];exact Nat.le_succ _) (zai HM4.out) _ _ _ _ _⟩
end
section
variable {w0 w w' : World} {F F' G : Nat → Prop} {p : Nat} {a : Option Addr} {cap : Nat} {bs : List UInt8} {last : Bool} {st : List Lv} {at_ : Int} {gs : List Nat} {osl : Value}
theorem zav.top (h:zav w0 w F G p a cap bs last st at_ gs osl):(st=[]∧gs=[])∨∃v st' g t sa sc,st=v::st'∧gs=g::t∧v.l.length≤sc∧sc≤maxLen∧w.heap[g]?=some (.cells #[.bool v.dict,.slice sa v.l.length sc] 166 (0,0)):=by
 cases st with
 | nil=>exact .inl ⟨rfl,List.eq_nil_of_length_eq_zero (by rw [h.lvs.len];rfl)⟩
 | cons v st' =>
   obtain ⟨g,t,sl,cs,h1,h2,h3,h4,h5,h6,h7,h8⟩:=h.lvs
   obtain ⟨sa,sc,rfl,h9,h10⟩:=zaD h5
   exact .inr ⟨v,st',g,t,sa,sc,rfl,h1,h9,h10,h4⟩
theorem single_any (h:zav w0 w F G p a cap bs last st at_ gs osl) (x:Tk) (f t:Int):Calls Tryz.prog 120 #[.pointer (some ⟨p,0,none⟩),.agg (tokN x f t)] w (RefEnd w0 w F G p a cap bs last st gs osl (zaF bs last st at_ x)):=by
 obtain ⟨R,hR⟩:∃R,R=zaF bs last st at_ x:=⟨_,rfl⟩
 rw [←hR]
 unfold zaF at hR
 have HR:=Lib.hid hR
 have HTOP:=Lib.hid (fun (W:World) (hb:Below w.heap.size w W)=>zgA (h.mono hb))
 have HTP:=Lib.hid (fun (W:World) (hb:Below w.heap.size w W)=>(h.mono hb).top)
 have HREF:=Lib.hid (fun (W:World) (hb:Below w.heap.size w W) (hl:w.heap.size+1<W.heap.size)=>ref_any (h.res (G':=fun b=>G b∨b=w.heap.size+1) hb (fun b h=>h.imp id fun e=>by rw [e];exact ⟨Nat.le_succ _,hl⟩)) (tkV x))
 have HWD:=Lib.hid (fun (W:World)=>pword_any x.s W)
 have HWH:=Lib.hid (fun (W:World)=>zfS x f t W)
 have HTK:=Lib.hid (show tkV x=.mk x.vk x.vn x.vs [] from rfl)
 generalize tkV x=TV at *
 unfold tokN at *
 generalize zaE x=wh at *
 generalize x.kind=a0 at *
 generalize x.vk=a1 at *
 generalize x.vn=a2 at *
 generalize hxs:x.vs=xs at *
 generalize x.s=ys at *
 have HS:=Lib.hid h
 have hpw:=h.lt
 clear h hR hxs
 go_enter Tryz.func120,Tryz.ntmps120
 go_wp2_with fail
 have HB1:=Lib.hid (zbD w (.cells #[.int .i64 a0,.int .i64 f,.int .i64 t,.int .i64 a1,.int .i64 a2,.string (mkB xs),.slice none 0 0,.string (mkB ys)] 150) (.cells #[.int .i64 0,.int .i64 0,.string ⟨#[]⟩,.slice none 0 0] 27))
 have HK3:=Lib.hid (zal (.cells #[.int .i64 0,.int .i64 0,.string ⟨#[]⟩,.slice none 0 0] 27) (zac (w:=w) (b:=w.heap.size) (.cells #[.int .i64 a0,.int .i64 f,.int .i64 t,.int .i64 a1,.int .i64 a2,.string (mkB xs),.slice none 0 0,.string (mkB ys)] 150) rfl))
 have HK4:=Lib.hid (zac (w:=w.alloc (.cells #[.int .i64 a0,.int .i64 f,.int .i64 t,.int .i64 a1,.int .i64 a2,.string (mkB xs),.slice none 0 0,.string (mkB ys)] 150)) (b:=w.heap.size+1) (.cells #[.int .i64 0,.int .i64 0,.string ⟨#[]⟩,.slice none 0 0] 27) (by rw [zap]))
 refine (HTOP.out _ HB1.out).mono ?_
 rintro e w1 ⟨rfl,q,rfl⟩
 generalize (w.alloc _).alloc _=W1 at *
 have HB2:=Lib.hid (zae HB1.out q)
 have HL3:=Lib.hid (show (W1.drewN q).heap[w.heap.size]?=_ from HK3.out)
 have HL4:=Lib.hid (show (W1.drewN q).heap[w.heap.size+1]?=_ from HK4.out)
 clear HK3 HK4 HB1
 generalize W1.drewN q=W2 at *
 obtain ⟨r,hr⟩:∃r,r=w.heap.size:=⟨_,rfl⟩
 have hpr0:p≠r:=by omega
 have hpr1:p≠r+1:=by omega
 rw [←hr] at HL3 HL4 ⊢
 have HRR:=Lib.hid hr
 clear hr hpw
 go_upto_region 2 with fail
 go_cut [25] from 7 (fun v25 wx=>∃c:Bool,v25=.bool c∧Hid (c=true↔(topW st=true∧(a0≠1∨a1≠5)))∧W2=wx)
 case first =>
   obtain ⟨⟨k0,k1,k2,k3,k4,k5,k6,k7⟩,-⟩:=zag HL3.out
   rcases HTP.out _ HB2.out with ⟨rfl,rfl⟩|⟨v,st',g,t',sa,sc,rfl,rfl,h1,h2,h3⟩
   · unfold topP
     go_wp2
     go_meet
     exact ⟨false,rfl,Lib.hid (by simp [topW]),rfl⟩
   · have HWT:=Lib.hid (ze1 h3 (by omega))
     have HTW:=Lib.hid (show topW (v::st')=(v.dict&&v.l.length % 2==0) from rfl)
     unfold topP
     generalize (v.dict&&v.l.length % 2==0)=tw at *
     clear h1 h2 h3
     cases tw
     · go_wp2_with (go_at_call 158;refine HWT.out.mono ?_;rintro e w' ⟨rfl,rfl⟩)
       go_meet
       exact ⟨false,rfl,Lib.hid (by rw [HTW.out];simp),rfl⟩
     · by_cases h1:a0=1
       · subst h1
         by_cases h5:a1=5
         · subst h5
           go_wp2_with (go_at_call 158;refine HWT.out.mono ?_;rintro e w' ⟨rfl,rfl⟩)
           go_meet
           exact ⟨false,rfl,Lib.hid (by simp),rfl⟩
         · have e1:(a1==5)=false:=by rw [beq_eq_false_iff_ne];exact h5
           have e2:(a1 != 5)=true:=by simp only [bne,e1,Bool.not_false]
           go_wp2_with (go_at_call 158;refine HWT.out.mono ?_;rintro e w' ⟨rfl,rfl⟩)
           go_meet
           exact ⟨true,rfl,Lib.hid (by rw [HTW.out];simp [h5]),rfl⟩
       · have e1:(a0==1)=false:=by rw [beq_eq_false_iff_ne];exact h1
         have e2:(a0 != 1)=true:=by simp only [bne,e1,Bool.not_false]
         go_wp2_with (go_at_call 158;refine HWT.out.mono ?_;rintro e w' ⟨rfl,rfl⟩)
         go_meet
         exact ⟨true,rfl,Lib.hid (by rw [HTW.out];simp [h1]),rfl⟩
 case rest =>
   obtain ⟨c,rfl,HC,rfl⟩:=hcut
   have hr1:w.heap.size≤r+1:=by rw [HRR.out];exact Nat.le_succ _
   have HR1:=Lib.hid hr1
   clear hr1
   cases c with
   | true =>
     have hr2:=HR.out
     rw [if_pos (HC.out.1 rfl)] at hr2
     have HR2:=Lib.hid hr2
     obtain ⟨⟨q0,q1,q2,q3⟩,n0,n1,n2,n3⟩:=zam HL4.out
     clear hr2 HR HREF HWD HWH
     go_wp2
     refine bodyPost_ret (zaa rfl _ _ (r+1) 27 _ (0,0) _ rfl (by exact set4 HL4.out _ _ _ _) Tryz.underlying27 rfl (by exact zaS) _ rfl) rfl ?_
     rw [HR2.out]
     exact ⟨rfl,fin4 HS.out HB2.out HR1.out (zai HL4.out) _ _ _ _⟩
   | false =>
     have hr2:=HR.out
     rw [if_neg (fun h=>absurd (HC.out.2 h) (by decide))] at hr2
     have HRX:=Lib.hid hr2
     obtain ⟨⟨k0,k1,k2,k3,k4,k5,k6,k7⟩,-⟩:=zag HL3.out
     clear hr2 HR HC
     by_cases h6:a0=6
     · have hr2:=HRX.out
       rw [if_pos h6] at hr2
       subst h6
       have hr3:R=((wordE ys).1,at_,(wordE ys).2):=by
         rw [hr2];unfold wordE;cases zem ys<;>rfl
       have HR2:=Lib.hid hr3
       unfold pvA at HWD
       clear hr2 hr3 HRX
       go_wp2_with fail
       refine (HWD.out _).mono ?_
       rintro e w3 ⟨rfl,hb3⟩
       have HL4b:=Lib.hid (zab hb3 HL4.out)
       have HB3:=Lib.hid (HB2.out.trans (hb3.mono HB2.out.size))
       obtain ⟨⟨q0,q1,q2,q3⟩,n0,n1,n2,n3⟩:=zam HL4b.out
       clear hb3
       go_wp2
       refine bodyPost_ret (zaa rfl _ _ (r+1) 27 _ (0,0) _ rfl (by exact set4 HL4b.out _ _ _ _) Tryz.underlying27 rfl (by exact zaS) _ rfl) rfl ?_
       rw [HR2.out]
       exact ⟨rfl,fin4 HS.out HB3.out HR1.out (zai HL4b.out) _ _ _ _⟩
     · have hr2:=HRX.out
       rw [if_neg h6] at hr2
       have HRY:=Lib.hid hr2
       have e1:(a0==6)=false:=by rw [beq_eq_false_iff_ne];exact h6
       clear hr2 h6 HRX
       go_wp2_with fail
       refine (HWH.out _).mono ?_
       rintro e w3 ⟨rfl,hb3⟩
       have HL3b:=Lib.hid (zab hb3 HL3.out)
       have HL4b:=Lib.hid (zab hb3 HL4.out)
       have HB3:=Lib.hid (HB2.out.trans (hb3.mono HB2.out.size))
       clear k0 k1 k2 k3 k4 k5 k6 k7 hb3
       obtain ⟨⟨k0,k1,k2,k3,k4,k5,k6,k7⟩,-⟩:=zag HL3b.out
       cases wh with
       | true =>
         have hr2:=HRY.out
         rw [if_pos rfl] at hr2
         have HR2:=Lib.hid hr2
         have HC2:=Lib.hid (HREF.out _ HB3.out (by rw [←HRR.out];exact zai HL4b.out))
         rw [HTK.out] at HC2
         unfold pvA at HC2
         simp only [PV.kind,PV.n,PV.s] at HC2
         clear hr2 HRY HREF
         go_wp2_with fail
         refine HC2.out.mono ?_
         rintro e w4 ⟨he,hs4,hk4⟩
         unfold pvA at he
         subst he
         have HL4c:=Lib.hid (hk4.obj HL4b.out (fun e=>hpr1 e.symm))
         have HS4:=Lib.hid hs4
         have HK4:=Lib.hid ((zaw HB3.out).trans hk4 (fun b hb=>.inl hb))
         obtain ⟨⟨q0,q1,q2,q3⟩,n0,n1,n2,n3⟩:=zam HL4c.out
         clear hs4 hk4 HC2
         go_wp2
         refine bodyPost_ret (zaa rfl _ _ (r+1) 27 _ (0,0) _ rfl (by exact set4 HL4c.out _ _ _ _) Tryz.underlying27 rfl (by exact zaS) _ rfl) rfl ?_
         rw [HR2.out]
         rw [HTK.out]
         exact ⟨rfl,(HS4.out.set4 (.inr (by rw [HRR.out])) _ _ _ _).give fun b hb=>.inl hb,zbe HK4.out HR1.out _ _ _ _⟩
       | false =>
         have hr2:=HRY.out
         rw [if_neg (by decide)] at hr2
         have HR2:=Lib.hid hr2
         obtain ⟨⟨q0,q1,q2,q3⟩,n0,n1,n2,n3⟩:=zam HL4b.out
         clear hr2 HRY HREF
         go_wp2
         refine bodyPost_ret (zaa rfl _ _ (r+1) 27 _ (0,0) _ rfl (by exact set4 HL4b.out _ _ _ _) Tryz.underlying27 rfl (by exact zaS) _ rfl) rfl ?_
         rw [HR2.out,HTK.out]
         exact ⟨rfl,fin4 HS.out HB3.out HR1.out (zai HL4b.out) _ _ _ _⟩
end
theorem ptrs_cons (g:Nat) (gs:List Nat):ptrs (g::gs)=ptrs gs++[.pointer (some ⟨g,0,none⟩)]:=by simp [ptrs]
section
variable {w0 w w' : World} {F F' G G' : Nat → Prop} {p : Nat} {a : Option Addr} {cap : Nat} {bs : List UInt8} {last : Bool} {st : List Lv} {at_ : Int} {gs : List Nat} {osl : Value}
theorem zav.ownp (h:zav w0 w F G p a cap bs last st at_ gs osl) {b:Nat} (hb:osl.ownBlock=some b):b≠p:=by
 obtain ⟨cs,hc⟩:=zaN h.own hb;exact za5 hc h.blk (by decide)
theorem zav.ownF (h:zav w0 w F G p a cap bs last st at_ gs osl) {b:Nat} (hb:osl.ownBlock=some b):¬F b:=fun hf=>by
 obtain ⟨cs,hc⟩:=zaN h.own hb
 obtain ⟨_,_,ds,hd⟩:=h.fb b hf
 exact za5 hc hd (by decide) rfl
theorem zav.Flt (h:zav w0 w F G p a cap bs last st at_ gs osl) {b:Nat} (hb:F b):b<w.heap.size:=by obtain ⟨_,_,cs,hc⟩:=h.fb b hb;exact zai hc
theorem isLV_ne {w:World} {b c:Nat} {x:Array Value} {t:TypeId} {f:Nat×Nat} (h:IsLV w b) (hc:w.heap[c]?=some (.cells x t f)) (h1:t≠166) (h2:t≠27):b≠c:=by
 rcases h with ⟨cs,h⟩|⟨cs,h⟩
 · exact za5 h hc (Ne.symm h1)
 · exact za5 h hc (Ne.symm h2)
theorem zav.push (h:zav w0 w F G p a cap bs last st at_ gs osl) (d:Bool) (hd:st.length<64) (o:Obj) {w2:World} {v':Value}
   (hO:w2.ownsRow w0.heap.size 163 1 v' (st.length+1) (ptrs gs++[.pointer (some ⟨w.heap.size,0,none⟩)]))
   (hg:((w.alloc (.cells #[.bool d,.slice none 0 0] 166)).alloc o).grownBy w2 osl.ownBlock) (hN:NewAt ((w.alloc (.cells #[.bool d,.slice none 0 0] 166)).alloc o) osl v') :
   Nxt w0 w F G p a cap bs last ({ dict:=d,l:=[] }::st) at_ F (w2.setCell ⟨p,3,none⟩ v'):=by
 have hs1:((w.alloc (.cells #[.bool d,.slice none 0 0] 166)).alloc o).heap.size=w.heap.size+2:=by rw [zap,zap]
 have hs2:=hg.size
 rw [hs1] at hs2
 have hb1:=zbD w (.cells #[.bool d,.slice none 0 0] 166) o
 have hp:=h.lt
 have hol:∀b,osl.ownBlock=some b→b<w.heap.size:=fun b hb=>(h.own.lt b hb).2
 have hkw:∀b,b<w.heap.size→osl.ownBlock≠some b→w2.heap[b]?=w.heap[b]?:=fun b hb hn=>(hg.block b (by rw [hs1];omega) (fun e=>hn e.symm)).trans (hb1.block b hb)
 have hk3:∀b,b≠p→(w2.setCell ⟨p,3,none⟩ v').heap[b]?=w2.heap[b]?:=fun b hb=>heap_setCell_other _ _ _ _ hb
 have hs3:(w2.setCell ⟨p,3,none⟩ v').heap.size=w2.heap.size:=by simp [World.setCell]
 have hpo:osl.ownBlock≠some p:=fun e=>h.ownp e rfl
 have hgb:w2.heap[w.heap.size]?=some (.cells #[.bool d,.slice none 0 0] 166 (0,0)):=by
   rw [hg.block w.heap.size (by rw [hs1];omega) (fun e=>by have:=hol _ e.symm;omega)]
   exact zal o (zac _ rfl)
 have hp2:w2.heap[p]?=_:=(hkw p hp hpo).trans h.blk
 have hv':∀b,v'.ownBlock=some b→b≠p:=fun b hb=>by obtain ⟨cs,hc⟩:=zaN hO hb;exact za5 hc hp2 (by decide)
 have hFs:zaL F w (w2.setCell ⟨p,3,none⟩ v'):=⟨by omega,fun b hb hf=>by
   rw [hk3 b (h.notF hf),hkw b hb (fun e=>h.ownF e hf)]⟩
 refine ⟨⟨w.heap.size::gs,v',heap_setCell_same w2 p 3 _ _ _ hp2,h.base,h.gp,?_,fun b hb hG=>?_,?_,fun b hb=>?_,fun b hb=>?_,?_,h.row,h.small,by simp;omega⟩,⟨by omega,fun b hb hG=>?_⟩,hFs,fun _ h=>h⟩
 · rw [ptrs_cons];exact zaO hO fun b hb=>hk3 b (hv' b hb)
 · rcases hN b hb with e|e
   · exact h.go b e hG
   · have:=(h.gb b hG).2;rw [hs1] at e;omega
 · refine ⟨w.heap.size,gs,.slice none 0 0,[],rfl,h.bel.size,fun hG=>by have:=(h.gb _ hG).2;omega,(hk3 _ (by omega)).trans hgb,World.ownsRow_nil _ _ _ _,rfl,fun b hb=>(by cases hb),?_⟩
   refine h.lvs.keep' hFs (fun _ h=>h) (fun b hb hn hl=>?_) (fun b hb=>.inl hb) (fun b hb=>?_)
   · rw [hk3 b (isLV_ne hl h.blk (by decide) (by decide)),hkw b hb (fun e=>by obtain ⟨cs,hc⟩:=zaN h.own e;exact isLV_ne hl hc (by decide) (by decide) rfl)]
   · rcases hb with hb|hb|hb
     · exact .inl hb
     · exact .inr (Nat.le_of_eq hb.symm)
     · cases hb
 · obtain ⟨h1,h2,cs,h3⟩:=h.fb b hb
   exact ⟨h1,h2,cs,by rw [hFs.2 b (h.Flt hb) hb];exact h3⟩
 · have:=h.gb b hb;omega
 · refine h.bel.trans (Below.setCell (w:=w2) (a:=w) (p:=⟨p,3,none⟩) ⟨?_,?_,?_,?_,fun b hb=>?_⟩ h.base _)
   · exact hg.os.trans hb1.os
   · exact hg.tape.trans hb1.tape
   · exact hg.output.trans hb1.output
   · have:=h.bel.size;omega
   · exact hkw b (by have:=h.bel.size;omega) (fun e=>by have:=(h.own.lt b e).1;omega)
 · rw [hk3 b (fun e=>h.gp (e▸hG)),hkw b hb (fun e=>h.go b e hG)]
theorem zav.pop {v:Lv} (h:zav w0 w F G p a cap bs last (v::st) at_ gs osl) {ao:Option Addr} {oc:Nat} (ho:osl=.slice ao (st.length+1) oc) :
   ∃F' sl,(∀b,F b→F' b)∧(∃g t cs,gs=g::t∧w.heap[g]?=some (.cells #[.bool v.dict,sl] 166 (0,0))∧w.ownsRow w0.heap.size 27 4 sl v.l.length cs∧IsVs w F' v.l cs∧(∀b,sl.ownBlock=some b→F' b)) ∧
     Nxt w0 w F G p a cap bs last st at_ F' (w.setCell ⟨p,3,none⟩ (.slice ao st.length oc)):=by
 obtain ⟨g,t,sl,cs,h1,h2,h3,h4,h5,h6,h7,h8⟩:=h.lvs
 have hk3:∀b,b≠p→(w.setCell ⟨p,3,none⟩ (.slice ao st.length oc)).heap[b]?=w.heap[b]?:=fun b hb=>heap_setCell_other _ _ _ _ hb
 have hs3:(w.setCell ⟨p,3,none⟩ (.slice ao st.length oc)).heap.size=w.heap.size:=by simp [World.setCell]
 have hsp:∀b,sl.ownBlock=some b→b≠p:=fun b hb=>by obtain ⟨cs,hc⟩:=zaN h5 hb;exact za5 hc h.blk (by decide)
 subst ho h1
 have hFs:zaL F w (w.setCell ⟨p,3,none⟩ (.slice ao st.length oc)):=⟨by omega,fun b hb hf=>hk3 b (h.notF hf)⟩
 refine ⟨fun b=>F b∨sl.ownBlock=some b,sl,fun b hb=>.inl hb,⟨g,t,cs,rfl,h4,h5,h6.weaken (fun b hb=>.inl hb),fun b hb=>.inr hb⟩,⟨t,.slice ao st.length oc,heap_setCell_same w p 3 _ _ _ h.blk,h.base,h.gp,?_,fun b hb=>?_,?_,fun b hb=>?_,fun b hb=>by rw [hs3];exact h.gb b hb,h.bel.trans ((Below.refl _ _).setCell h.base _),h.row,h.small,by have:=h.deep;simp at this;omega⟩,
   ⟨by omega,fun b hb hG=>hk3 b (fun e=>h.gp (e▸hG))⟩,hFs,fun b hb=>.inl hb⟩
 · have ho:=h.own
   rw [ptrs_cons] at ho
   obtain ⟨hl,ho⟩:=ho
   rcases ho with ⟨hn,-⟩|⟨gg,cc,cur,hv,hb,hh,hc1,hc2,hc3,hc4⟩
   · simp at hn
   · simp only [Value.slice.injEq] at hv
     obtain ⟨rfl,-,rfl⟩:=hv
     have hlp:(ptrs t).length=st.length:=by simpa using hl
     refine ⟨by simpa using hlp,.inr ⟨gg,oc,cur,rfl,hb,?_,by simp at hc1;omega,hc2,hc3,?_⟩⟩
     · rw [hk3 gg (by intro e;subst e;exact h.ownp rfl rfl)];exact hh
     · have:=congrArg (List.take st.length) hc4
       simpa [List.take_take,hlp] using this
 · refine h.go b ?_
   cases ao with
   | none=>cases hb
   | some x=>exact hb
 · refine h8.keep' hFs (fun b hb=>.inl hb) (fun b hb hn hl=>hk3 b (isLV_ne hl h.blk (by decide) (by decide))) (fun b hb=>?_) (fun b hb=>.inl (.inl hb))
   rcases hb with hb|hb
   · exact .inl hb
   · exact .inr (.inl (.inr (.inr hb)))
 · rcases hb with hb|hb
   · obtain ⟨k1,k2,ds,k3⟩:=h.fb b hb
     exact ⟨k1,k2,ds,by rw [hk3 b (h.notF hb)];exact k3⟩
   · obtain ⟨ds,k3⟩:=zaN h5 hb
     exact ⟨(h5.lt b hb).1,(h7 b hb).2,ds,by rw [hk3 b (hsp b hb)];exact k3⟩
theorem zav.lastL {v:Lv} (h:zav w0 w F G p a cap bs last (v::st) at_ gs osl):∃g t sa sc cs,gs=g::t∧v.l.length≤sc∧sc≤maxLen∧w0.heap.size≤g∧¬G g∧w.heap[g]?=some (.cells #[.bool v.dict,.slice sa v.l.length sc] 166 (0,0)) ∧
   w.ownsRow w0.heap.size 27 4 (.slice sa v.l.length sc) v.l.length cs∧IsVs w F v.l cs∧∀b,(Value.slice sa v.l.length sc).ownBlock=some b→¬F b∧¬G b:=by
 obtain ⟨g,t,sl,cs,h1,h2,h3,h4,h5,h6,h7,h8⟩:=h.lvs
 obtain ⟨sa,sc,rfl,h9,h10⟩:=zaD h5
 exact ⟨g,t,sa,sc,cs,h1,h9,h10,h2,h3,h4,h5,h6,h7⟩
theorem zav.put {v:Lv} {g:Nat} {t:List Nat} (h:zav w0 w F G p a cap bs last (v::st) at_ (g::t) osl) {sl:Value} (h4:w.heap[g]?=some (.cells #[.bool v.dict,sl] 166 (0,0))) {cs:List Value}
   (h6:IsVs w F v.l cs) {x:PV} {sx:Value} (hx:IsV w F x sx) {w3:World} {v':Value} (hO:w3.ownsRow w0.heap.size 27 4 v' (v.l.length+1) (cs++pvC x sx)) (hk:zaf (fun b=>sl.ownBlock=some b) w w3)
   (hN:∀b,v'.ownBlock=some b→sl.ownBlock=some b∨w.heap.size≤b) :
   Nxt w0 w F G p a cap bs last ({ v with l:=v.l++[x] }::st) at_ F (w3.setCell ⟨g,1,none⟩ v'):=by
 obtain ⟨g',t',sl',cs',h1,h2,h3,h4',h5,-,h7,h8⟩:=h.lvs
 simp only [List.cons.injEq] at h1
 obtain ⟨rfl,rfl⟩:=h1
 have hsl:sl'=sl:=by
   rw [h4] at h4'
   simpa using h4'.symm
 subst hsl
 have hgl:=zai h4
 have hsg:∀b,sl'.ownBlock=some b→b≠g:=fun b hb=>by obtain ⟨ds,hc⟩:=zaN h5 hb;exact za5 hc h4 (by decide)
 have hsl:∀b,sl'.ownBlock=some b→b<w.heap.size:=fun b hb=>(h5.lt b hb).2
 have hk4:∀b,b≠g→(w3.setCell ⟨g,1,none⟩ v').heap[b]?=w3.heap[b]?:=fun b hb=>heap_setCell_other _ _ _ _ hb
 have hs4:(w3.setCell ⟨g,1,none⟩ v').heap.size=w3.heap.size:=by simp [World.setCell]
 have hsz:=hk.size
 have hg3:w3.heap[g]?=some (.cells #[.bool v.dict,sl'] 166 (0,0)):=hk.obj h4 (fun e=>hsg g e rfl)
 have hvg:∀b,v'.ownBlock=some b→b≠g:=fun b hb=>by obtain ⟨ds,hc⟩:=zaN hO hb;exact za5 hc hg3 (by decide)
 have hpg:p≠g:=za5 h.blk h4 (by decide)
 have hps:sl'.ownBlock≠some p:=fun e=>by obtain ⟨ds,hc⟩:=zaN h5 e;exact za5 hc h.blk (by decide) rfl
 have hFg:∀b,F b→b≠g:=fun b hb=>by obtain ⟨_,_,ds,hc⟩:=h.fb b hb;exact za5 hc h4 (by decide)
 have hFs:zaL F w (w3.setCell ⟨g,1,none⟩ v'):=⟨by omega,fun b hb hf=>by rw [hk4 b (hFg b hf),hk.block b hb (fun e=>(h7 b e).1 hf)]⟩
 have hob:∀b,osl.ownBlock=some b→b≠g∧sl'.ownBlock≠some b∧b<w.heap.size:=fun b hb=>by
   obtain ⟨ds,hc⟩:=zaN h.own hb
   exact ⟨za5 hc h4 (by decide),fun e=>by obtain ⟨es,hd⟩:=zaN h5 e;exact za5 hc hd (by decide) rfl,(h.own.lt b hb).2⟩
 refine ⟨⟨g::t,osl,by rw [hk4 p hpg,hk.block p h.lt hps];exact h.blk,h.base,h.gp,zaO h.own fun b hb=>?_,h.go,?_,fun b hb=>?_,fun b hb=>by have:=h.gb b hb;omega,?_,h.row,h.small,h.deep⟩,⟨by omega,fun b hb hG=>?_⟩,hFs,fun _ h=>h⟩
 · rw [hk4 b (hob b hb).1,hk.block b (hob b hb).2.2 (hob b hb).2.1]
 · refine ⟨g,t,v',cs++pvC x sx,rfl,h2,h3,heap_setCell_same w3 g 1 _ _ _ hg3,?_,?_,fun b hb=>?_,?_⟩
   · show World.ownsRow _ _ _ _ _ (v.l++[x]).length _
     rw [List.length_append]
     exact zaO hO fun b hb=>hk4 b (hvg b hb)
   · exact (IsVs.keep hFs (fun _ h=>h) _ h6).snoc (IsV.keep hFs (fun _ h=>h) _ hx)
   · rcases hN b hb with e|e
     · exact h7 b e
     · exact ⟨fun hf=>by have:=h.Flt hf;omega,fun hG=>by have:=(h.gb b hG).2;omega⟩
   · refine h8.keep' hFs (fun _ h=>h) (fun b hb hn hl=>?_) (fun b hb=>.inl hb) (fun b hb=>?_)
     · rw [hk4 b (fun e=>hn (.inr (.inl e))),hk.block b hb (fun e=>hn (.inr (.inr e)))]
     · rcases hb with hb|hb|hb
       · exact .inl (.inl hb)
       · exact .inl (.inr (.inl hb))
       · rcases hN b hb with e|e
         · exact .inl (.inr (.inr e))
         · exact .inr e
 · obtain ⟨k1,k2,ds,k3⟩:=h.fb b hb
   exact ⟨k1,k2,ds,by rw [hFs.2 b (h.Flt hb) hb];exact k3⟩
 · have h9:=h.bel.size
   refine h.bel.trans (Below.setCell (w:=w3) (a:=w) (p:=⟨g,1,none⟩) ⟨hk.os,hk.tape,hk.output,hsz,fun b hb=>hk.block b (by omega) (fun e=>by have:=(h5.lt b e).1;omega)⟩ h2 _)
 · rw [hk4 b (fun e=>h3 (e▸hG)),hk.block b hb (fun e=>(h7 b e).2 hG)]
end
theorem ELvp:zc6 Tryz.prog 158 163 (.pointer none) 1 8:=⟨Tryz.underlying158,by kernel_rfl,rfl,by omega⟩
section
variable {w0 w w' : World} {F F' G : Nat → Prop} {p : Nat} {a : Option Addr} {cap : Nat} {bs : List UInt8} {last : Bool} {st : List Lv} {at_ : Int} {gs : List Nat} {osl : Value}
theorem Nxt.refl (h:zav w0 w F G p a cap bs last st at_ gs osl) (hb:Below w.heap.size w w'):Nxt w0 w F G p a cap bs last st at_ F w' :=
 ⟨⟨_,_,h.mono hb⟩,zaL.of_below hb,zaL.of_below hb,fun _ h=>h⟩
theorem row_newP (w:World) (x:Value) (e:TypeId) {b:Nat} (h:b=w.heap.size):Row (w.alloc (.cells #[x] e)) 1 (some ⟨b,0,none⟩) 1 1 [x]:=by subst h;exact zbk w x e
theorem owns_some {w:World} {base e sz:Nat} {v:Value} {n:Nat} {xs:List Value} (h:w.ownsRow base e sz v (n+1) xs) (_:0<sz):∃g cap,v=.slice (some ⟨g,0,none⟩) (n+1) cap:=by
 rcases h.2 with ⟨-,h0⟩|⟨g,cap,cur,rfl,-⟩
 · cases h0
 · exact ⟨g,cap,rfl⟩
theorem zav.keepP (h:zav w0 w F G p a cap bs last st at_ gs osl) {W1 w2:World} (hb:Below w.heap.size w W1) (hg:W1.grownBy w2 osl.ownBlock) :
   w2.heap[p]?=some (.cells #[.slice a bs.length cap,.int .i64 at_,.bool last,osl] 160 (0,0)) :=
 (hg.block p (Nat.lt_of_lt_of_le h.lt hb.size) (fun e=>h.ownp e.symm rfl)).trans (zab hb h.blk)
theorem begin_any (h:zav w0 w F G p a cap bs last st at_ gs osl) (d:Bool):Calls Tryz.prog 118 #[.pointer (some ⟨p,0,none⟩),.bool d] w fun e w' =>
   e=.returned (.int .i64 (zbQ st d).2)∧Nxt w0 w F G p a cap bs last (zbQ st d).1 at_ F w':=by
 obtain ⟨R,hR⟩:∃R,R=zbQ st d:=⟨_,rfl⟩
 rw [←hR]
 unfold zbQ at hR
 have HR:=Lib.hid hR
 have HTOP:=Lib.hid (zgA h)
 have HTP:=Lib.hid (fun q=>(h.drewN q).top)
 have HS:=Lib.hid h
 have hdp:=h.deep
 clear h hR
 go_enter Tryz.func118,Tryz.ntmps118
 go_wp2_with fail
 refine HTOP.out.mono ?_
 rintro e w1 ⟨rfl,q,rfl⟩
 have HS1:=Lib.hid (HS.out.drewN q)
 go_upto_region 2 with fail
 go_cut [13] from 6 (fun v13 wx=>v13=.bool (topW st)∧w.drewN q=wx)
 case first =>
   rcases HTP.out q with ⟨rfl,rfl⟩|⟨v,st',g,t',sa,sc,rfl,rfl,h1,h2,h3⟩
   · unfold topP
     go_wp2
     go_meet
     exact ⟨rfl,rfl⟩
   · have HWT:=Lib.hid (ze1 h3 (by omega))
     have HTW:=Lib.hid (show topW (v::st')=(v.dict&&v.l.length % 2==0) from rfl)
     unfold topP
     generalize (v.dict&&v.l.length % 2==0)=tw at *
     clear h1 h2 h3
     go_wp2_with (go_at_call 158;refine HWT.out.mono ?_;rintro e w' ⟨rfl,rfl⟩)
     go_meet
     exact ⟨by rw [HTW.out],rfl⟩
 case rest =>
   obtain ⟨rfl,rfl⟩:=hcut
   obtain ⟨tw,htw⟩:∃tw,tw=topW st:=⟨_,rfl⟩
   rw [←htw]
   have HTW:=Lib.hid htw
   clear htw
   cases tw with
   | true =>
     have hr2:=HR.out
     rw [if_pos HTW.out.symm] at hr2
     have HR2:=Lib.hid hr2
     clear hr2 HR
     go_wp2
     go_ret
     rw [HR2.out]
     exact ⟨rfl,Nxt.refl HS.out (zae (Below.refl _ _) q)⟩
   | false =>
     have hr2:=HR.out
     rw [if_neg (by rw [←HTW.out];decide)] at hr2
     have HRX:=Lib.hid hr2
     obtain ⟨ao,oc,rfl,hro1,hro2⟩:=zaD HS1.out.own
     obtain ⟨⟨c0,c1,c2,c3⟩,f0,f1,f2,f3⟩:=HS1.out.cells
     clear hr2 HR
     by_cases h64:64≤st.length
     · have hd:decide (64≤st.length)=true:=decide_eq_true h64
       have hd2:decide ((64:Int)≤(st.length:Int))=true:=decide_eq_true (by omega)
       have hr2:=HRX.out
       rw [if_pos h64] at hr2
       have HR2:=Lib.hid hr2
       clear hr2 h64
       go_wp2
       go_ret
       rw [HR2.out]
       exact ⟨rfl,Nxt.refl HS.out (zae (Below.refl _ _) q)⟩
     · have hd:decide (64≤st.length)=false:=decide_eq_false h64
       have hd2:decide ((64:Int)≤(st.length:Int))=false:=decide_eq_false (by omega)
       have hr2:=HRX.out
       rw [if_neg h64] at hr2
       have HR2:=Lib.hid hr2
       have hsl:st.length<64:=by omega
       clear hr2 h64
       go_wp2_with (at_builtin;refine append_at ELvp rfl _ _ rfl w0.heap.size _ st.length (ptrs gs) rfl (zaG HS1.out.own (zbD _ _ _)) _ 1 1 [.pointer (some ⟨w.heap.size,0,none⟩)] rfl (row_newP _ _ _ (by rw [zap];rfl)) (zbz rfl) (by unfold maxLen;omega) (by omega) (by rw [zap,zap];have:=HS1.out.bel.size;omega) ?_;intro v2 w2 hO hg hN;obtain ⟨g2,oc2,rfl⟩:=owns_some hO (by omega);obtain ⟨⟨k0,k1,k2,k3⟩,l0,l1,l2,l3⟩:=zam (HS1.out.keepP (zbD _ _ _) hg))
       go_ret
       rw [HR2.out]
       have hN:=HS1.out.push d hsl _ hO hg hN
       exact ⟨rfl,hN.stk,hN.sg,hN.sf,hN.ff⟩
end
def cmpS (a b:List UInt8):Int:=if sLt a b=true then -1 else if sLt b a=true then 1 else 0
theorem isNaNS_any (a:ByteArray) (w:World):Calls Tryz.prog 210 #[.string a] w fun e w'=>e=.returned (.bool false)∧w=w':=by
 go_enter Tryz.func210,Tryz.ntmps210
 go_wp2
 go_ret
 exact ⟨zba (by simp),rfl⟩
theorem cmpS_any (a b:List UInt8) (w:World):Calls Tryz.prog 188 #[.string (mkB a),.string (mkB b)] w fun e w'=>e=.returned (.int .i64 (cmpS a b))∧w=w':=by
 have hl:Op.bytesLess (mkB a).toList (mkB b).toList=sLt a b:=by rw [zbn,zbn,zgh]
 have hg:¬sLt a b=true→(Op.bytesLess (mkB a).toList (mkB b).toList||(mkB a).toList==(mkB b).toList)=!sLt b a:=fun h=>by
   rw [zbn,zbn,zgh]
   have h':sLt a b=false:=by simpa using h
   rw [h',Bool.false_or]
   by_cases e:a=b
   · subst e;simp [sLt_ir]
   · rw [zcA a b h' e];simp [e]
 have HN:=Lib.hid (fun (a:ByteArray) (w:World)=>isNaNS_any a w)
 unfold cmpS
 by_cases h1:sLt a b=true
 · rw [if_pos h1]
   rw [h1] at hl
   clear hg h1
   generalize mkB a=x at *
   generalize mkB b=y at *
   go_enter Tryz.func188,Tryz.ntmps188
   go_wp2_with (go_at_call 210;refine (HN.out _ _).mono ?_;rintro e w' ⟨rfl,rfl⟩)
   go_ret
   exact ⟨rfl,rfl⟩
 · rw [if_neg h1]
   have hg:=hg h1
   rw [show sLt a b=false by simpa using h1] at hl
   by_cases h2:sLt b a=true
   · rw [if_pos h2]
     rw [h2,hl,Bool.false_or] at hg
     clear h1 h2
     generalize mkB a=x at *
     generalize mkB b=y at *
     simp only [Bool.not_true] at hg
     go_enter Tryz.func188,Tryz.ntmps188
     go_wp2_with (go_at_call 210;refine (HN.out _ _).mono ?_;rintro e w' ⟨rfl,rfl⟩)
     go_ret
     exact ⟨rfl,rfl⟩
   · rw [if_neg h2]
     rw [show sLt b a=false by simpa using h2,hl,Bool.false_or] at hg
     clear h1 h2
     generalize mkB a=x at *
     generalize mkB b=y at *
     simp only [Bool.not_false] at hg
     go_enter Tryz.func188,Tryz.ntmps188
     go_wp2_with (go_at_call 210;refine (HN.out _ _).mono ?_;rintro e w' ⟨rfl,rfl⟩)
     go_ret
     exact ⟨rfl,rfl⟩
theorem cmpPair_any {w:World} {b o1 o2 n1 n2 c1 c2:Nat} {x y:List UInt8} (h1:w.cell? ⟨b,o1+2,none⟩=some (.string (mkB x))) (h2:w.cell? ⟨b,o2+2,none⟩=some (.string (mkB y))) (g1:0<n1) (g2:0<n2) :
   Calls Tryz.prog 187 #[.slice (some ⟨b,o1,none⟩) n1 c1,.slice (some ⟨b,o2,none⟩) n2 c2] w fun e w'=>e=.returned (.int .i64 (cmpS x y))∧∃q,w'=w.drewN q:=by
 have HC:=Lib.hid (fun W=>cmpS_any x y W)
 generalize cmpS x y=c at *
 generalize mkB x=x' at *
 generalize mkB y=y' at *
 have i1:(0:Int)<(n1:Int):=by omega
 have i2:(0:Int)<(n2:Int):=by omega
 go_enter Tryz.func187,Tryz.ntmps187
 go_wp2
 go_quiet ((go_at_call 188;exact Calls.quiet_of ((HC.out _).mono fun _ _ h=>⟨h.1,0,h.2.symm⟩)))
 go_wp2
 go_ret
 exact ⟨rfl,_,rfl⟩
end Go.Proofs.YtfafdeemfeaedaaGreat
namespace Go.Proofs.YtfafdeemfeaedaaGreat
open Go.RowKit Go.Sort
structure SB {α:Type} (enc:α→Value) (w0:World) (g:Nat) (t:TypeId) (rest:List Value) (d:Array α) (w:World):Prop where
 grown:w0.grownBy w (some g)
 blk:w.heap[g]?=some (.cells (d.toList.map enc++rest).toArray t (0,0))
section
variable {α : Type} {enc : α → Value} {w0 w : World} {g : Nat} {t : TypeId} {rest : List Value} {d : Array α}
theorem SB.cell [Inhabited α] (h:SB enc w0 g t rest d w) (i:Nat) (hi:i<d.size):w.cell? ⟨g,i,none⟩=some (enc d[i]!):=by
 rw [cell_of_row w g i _ t (0,0) h.blk]
 simp [List.getElem?_append,hi]
theorem SB.free (h:SB enc w0 g t rest d w) (i:Nat):w.frozen? ⟨g,i,none⟩=false:=frozen_of_row w g i _ t h.blk
theorem SB.drewN (h:SB enc w0 g t rest d w) (n:Nat):SB enc w0 g t rest d (w.drewN n):=⟨⟨h.grown.os,h.grown.tape,h.grown.output,h.grown.size,h.grown.block⟩,h.blk⟩
theorem zeT {w0 w:World} {g i:Nat} (h:w0.grownBy w (some g)) (v:Value):w0.grownBy (w.setCell ⟨g,i,none⟩ v) (some g) :=
 ⟨h.os,h.tape,h.output,by simp [World.setCell];exact h.size,fun k hk hne=>by rw [heap_setCell_other w ⟨g,i,none⟩ k v (fun e=>hne (by simp [e]))];exact h.block k hk hne⟩
theorem zef (w:World) (row:Option Nat):w.grownBy w row:=⟨rfl,rfl,rfl,Nat.le_refl _,fun _ _ _=>rfl⟩
theorem zgG {w0 w:World} {row:Option Nat} (h:w0.grownBy w row) (n:Nat):w0.grownBy (w.drewN n) row:=⟨h.os,h.tape,h.output,h.size,h.block⟩
theorem SB.set (h:SB enc w0 g t rest d w) (i:Nat) (hi:i<d.size) (x:α):SB enc w0 g t rest (d.setIfInBounds i x) (w.setCell ⟨g,i,none⟩ (enc x)):=by
 refine ⟨zeT h.grown _,?_⟩
 rw [heap_setCell_same w g i _ t _ h.blk,List.setIfInBounds_toArray,List.set_append]
 simp [hi,List.map_set]
theorem SB.swp [Inhabited α] (h:SB enc w0 g t rest d w) (i j:Nat) (hi:i<d.size) (hj:j<d.size) (q:Nat) :
   SB enc w0 g t rest (swp d i j) (((w.drewN q).setCell ⟨g,i,none⟩ (enc d[j]!)).setCell ⟨g,j,none⟩ (enc d[i]!)) :=
 ((h.drewN q).set i hi _).set j (by simpa using hj) _
theorem SB.row (h:SB enc w0 g t rest d w) {cap:Nat} (h1:d.size≤cap) (h2:cap≤maxLen):Row w 1 (some ⟨g,0,none⟩) d.size cap (d.toList.map enc):=by
 refine ⟨by simp,h1,h2,fun e=>(by cases e),fun _=>⟨g,0,rfl,(Array.getElem?_eq_some_iff.1 h.blk).1,fun j u hj=>?_⟩⟩
 rw [Nat.zero_add,cell_of_row w g j _ t (0,0) h.blk]
 have hjl:=(List.getElem?_eq_some_iff.1 hj).1
 rw [List.getElem?_toArray,List.getElem?_append_left hjl];exact hj
theorem SB.start {cs:Array Value} {n:Nat} (hb:w.heap[g]?=some (.cells cs t (0,0))) (hx:cs.toList.take n=d.toList.map enc):SB enc w g t (cs.toList.drop n) d w :=
 ⟨⟨rfl,rfl,rfl,Nat.le_refl _,fun _ _ _=>rfl⟩,by rw [←hx,List.take_append_drop];exact hb⟩
end
structure CmpQ {α:Type} (P:Program) (f:FuncId) (cb:Array Value) (enc:α→Value) (cf:α→α→Int) (D:α→Prop) (w0:World) (g:Nat):Prop where
 enters:∀args w,(callFunc f args).run P w=.ok (.enter f args) w
 calls:∀W,w0.grownBy W (some g)→∀x y,D x→D y→Calls P f (#[enc x,enc y]++cb) W fun e w'=>e=.returned (.int .i64 (cf x y))∧∃q,w'=W.drewN q
def ltOf {α:Type} (cf:α→α→Int) (x y:α):Bool:=decide (cf x y<0)
section
variable {α : Type} [Inhabited α] (lt : α → α → Bool)
theorem inner_go (a j:Nat) (d:Array α) (hj:a<j) (hl:lt d[j]! d[j-1]! =true):insInner lt a j d=insInner lt a (j-1) (swp d j (j-1)):=by
 rcases j with _|k
 · omega
 · have h1:(decide (k+1 > a)&&lt d[k+1]! d[k]!)=true:=by simp only [Nat.add_sub_cancel] at hl;simp [hl,hj]
   rw [insInner,if_pos h1];rfl
theorem zfK (a j:Nat) (d:Array α) (h:j≤a∨lt d[j]! d[j-1]! =false):insInner lt a j d=d:=by
 rcases j with _|k
 · rfl
 · rw [insInner,if_neg]
   simp only [Nat.add_sub_cancel] at h
   rcases h with h|h
   · simp;omega
   · simp [h]
theorem zet (a b i:Nat) (d:Array α) (h:i<b):insOuter lt a b i d=insOuter lt a b (i+1) (insInner lt a i d):=by rw [insOuter,if_pos h]
theorem zco (a b i:Nat) (d:Array α) (h:¬i<b):insOuter lt a b i d=d:=by rw [insOuter,if_neg h]
end
end Go.Proofs.YtfafdeemfeaedaaGreat
namespace Go.Proofs.YtfafdeemfeaedaaGreat
open Go.RowKit Go.Shelf
attribute [local go_sem] Oper.semAt_some
def zbZ (b off:Nat) (k:Nat):Value:=.slice (some ⟨b,off+2 * k * 4,none⟩) 2 2
theorem staysK_t {S:Nat→Prop} {A B C:World} (h:zaL S A B) (k:zaL S B C):zaL S A C:=h.trans k
theorem staysK_b {S:Nat→Prop} {w:World} (hS:∀b,S b→b<w.heap.size) (W:World) (l:Nat) (o o':Obj) (hl:w.heap.size≤l) (_:W.heap[l]?=some o) (_:o.isCells=false) (_:o.isWalk=false):zaL S W (W.putObj l o') :=
 ⟨by simp,fun b _ hb=>World.putObj_heap_other (fun e=>by have:=hS b hb;omega)⟩
theorem chunk_in (_:Fence.wide.fn 185) (n:Nat) (a:Option Addr) (len cap:Nat) (w:World) :
   CallsIn Fence.wide n Tryz.prog 185 #[.slice a len cap,.int .i64 2] w fun e w'=>e=.returned (.func (.func 208) #[] #[.pointer (some ⟨w.heap.size,0,none⟩),.pointer (some ⟨w.heap.size+1,0,none⟩)]) ∧
     w'=(w.alloc (.cells #[.slice a len cap] 25)).alloc (.cells #[.int .i64 2] 3):=by
 refine callsIn_wide.2 ?_
 go_enter Tryz.func185,Tryz.ntmps185
 go_wp2
 go_ret
 exact ⟨rfl,rfl⟩
set_option maxRecDepth 100000 in
theorem chunk1_in (n:Nat) (hro:Fence.wide.round=none) (hn:1≤n) (l Bs Bn b off m cap:Nat) (hcap:2 * m≤cap) (hcm:cap≤maxLen) (J Jx:List Nat→World→Prop) (hJd:∀s W q,J s W→J s (W.drewN q))
   (hY:∀pre x W,J pre W→pre.length<m→YieldAt Fence.wide (n-1) Tryz.prog l #[zbZ b off x] W fun e W' =>
     (e=.returned (.bool true)∧J (pre++[x]) W'∧zaL (fun c=>c=Bs∨c=Bn) W W')∨(e=.returned (.bool false)∧Jx (pre++[x]) W'))
   (W:World) (hBs:W.cell? ⟨Bs,0,none⟩=some (.slice (some ⟨b,off,none⟩) (2 * m) cap)) (hBn:W.cell? ⟨Bn,0,none⟩=some (.int .i64 2)) (h0:J [] W) :
   CallsIn Fence.wide n Tryz.prog 208 #[.func (.yield l) #[] #[],.pointer (some ⟨Bs,0,none⟩),.pointer (some ⟨Bn,0,none⟩)] W fun e W'=>(∃v,e=.returned v) ∧
     ((∃ys,ys=List.range m∧J ys W')∨(∃pre,(∃k,k≤m∧pre=List.range k)∧Jx pre W')):=by
 unfold maxLen at hcm
 refine callsIn_of_wp Tryz.func208 rfl trivial ?_ hro
 simp only [Tryz.ntmps208,List.size_toArray,List.length_cons,List.length_nil,Nat.reduceAdd,Nat.reduceSub,Array.replicate_succ,Array.replicate_zero,List.push_toArray,List.append_toArray,List.nil_append,List.cons_append]
 gi_wp2
 gi_loopw [4] (fun i wr=>∃k:Nat,k≤m∧i=.int .i64 (2 * (k:Int))∧J (List.range k) wr∧zaL (fun c=>c=Bs∨c=Bn) W wr)
   (fun i _=>2 * m-(intOf i).toNat)
 case atStart=>exact ⟨0,Nat.zero_le _,rfl,h0,zaL.refl _ _⟩
 case round =>
   obtain ⟨k,hk,rfl,hJs,hnx⟩:=hrel
   have e1:wr.cell? ⟨Bs,0,none⟩=some (.slice (some ⟨b,off,none⟩) (2 * m) cap):=(World.cell?_of_block (hnx.2 Bs (World.block_lt_of_cell? W _ hBs) (.inl rfl))).trans hBs
   have e2:wr.cell? ⟨Bn,0,none⟩=some (.int .i64 2):=(World.cell?_of_block (hnx.2 Bn (World.block_lt_of_cell? W _ hBn) (.inr rfl))).trans hBn
   by_cases hlt:k<m
   · have d1:decide (2 * (k:Int)<((2 * m:Nat):Int))=true:=decide_eq_true (by omega)
     have HJ:=Lib.hid hJs
     have HY:=Lib.hid hY
     have HJD:=Lib.hid hJd
     clear hJs hY hJd
     gi_wp2
     refine wpIn_wide.2 ?_
     have i1:(0:Int)≤2 * (k:Int):=by omega
     have i2:(2 * (k:Int)).toNat=2 * k:=by omega
     have i3:(2 * (k:Int))≤(cap:Int):=by omega
     have i4:2 * k≤2 * m:=by omega
     go_quiet (fail)
     obtain ⟨fn,tmps,assign,body,hy,hR⟩:=HY.out _ k (wr.drewN nq) (HJD.out _ _ nq HJ.out) (by simpa using hlt)
     unfold zbZ at hy
     have i5:2 * (k:Int)+2≤(cap:Int):=by omega
     have i6:(2 * (k:Int)+2).toNat=2 * k+2:=by omega
     have i7:(0:Int)≤2 * (k:Int)+2:=by omega
     have i8:2 * (k:Int)≤2 * (k:Int)+2:=by omega
     gi_wp2
     refine hR.mono ?_
     rintro e W3 (⟨rfl,hJ3,hk3⟩|⟨rfl,hJx3⟩)
     · have g1:W3.cell? ⟨Bs,0,none⟩=some (.slice (some ⟨b,off,none⟩) (2 * m) cap):=(World.cell?_of_block (hk3.2 Bs (World.block_lt_of_cell? (wr.drewN nq) _ e1) (.inl rfl))).trans e1
       have g2:W3.cell? ⟨Bn,0,none⟩=some (.int .i64 2):=(World.cell?_of_block (hk3.2 Bn (World.block_lt_of_cell? (wr.drewN nq) _ e2) (.inr rfl))).trans e2
       have HJ3:=Lib.hid hJ3
       have HK3:=Lib.hid (hnx.trans (show zaL (fun c=>c=Bs∨c=Bn) wr W3 from hk3))
       clear hJ3 hk3
       gi_wp2
       go_roundw
       case rel=>exact ⟨k+1,by omega,by congr 1,by rw [List.range_succ];exact HJ3.out,HK3.out⟩
       case measure=>simp [intOf];omega
     · gi_wp2
       refine bodyPost_ret (results_none rfl _ _ _) rfl ?_
       exact ⟨⟨_,rfl⟩,.inr ⟨_,⟨k+1,by omega,by rw [List.range_succ]⟩,hJx3⟩⟩
   · obtain rfl:k=m:=by omega
     have d1:decide (2 * (k:Int)<((2 * k:Nat):Int))=false:=decide_eq_false (by omega)
     gi_wp2
     go_end0
     exact ⟨⟨_,rfl⟩,.inl ⟨_,rfl,hJs⟩⟩
theorem chunk0_in (n:Nat) (hro:Fence.wide.round=none) (l Bs Bn:Nat) (a:Option Addr) (cap:Nat) (J:List Nat→World→Prop) (W:World) (hBs:W.cell? ⟨Bs,0,none⟩=some (.slice a 0 cap)) (h0:J [] W) :
   CallsIn Fence.wide n Tryz.prog 208 #[.func (.yield l) #[] #[],.pointer (some ⟨Bs,0,none⟩),.pointer (some ⟨Bn,0,none⟩)] W fun e W'=>(∃v,e=.returned v)∧J [] W':=by
 refine callsIn_of_wp Tryz.func208 rfl trivial ?_ hro
 simp only [Tryz.ntmps208,List.size_toArray,List.length_cons,List.length_nil,Nat.reduceAdd,Nat.reduceSub,Array.replicate_succ,Array.replicate_zero,List.push_toArray,List.append_toArray,List.nil_append,List.cons_append]
 gi_wp2
 gi_loopw [4] (fun i wr=>i=.int .i64 0∧wr.cell? ⟨Bs,0,none⟩=some (.slice a 0 cap)∧J [] wr) (fun _ _=>0)
 case atStart=>exact ⟨rfl,hBs,h0⟩
 case round =>
   obtain ⟨rfl,hb,hJs⟩:=hrel
   gi_wp2
   go_end0
   exact ⟨⟨_,rfl⟩,hJs⟩
theorem chunk_stops (n:Nat) (hro:Fence.wide.round=none) (hn:1≤n) (Bs Bn b off m cap:Nat) (a:Option Addr) (ha:0<m→a=some ⟨b,off,none⟩) (hcap:2 * m≤cap) (hcm:cap≤maxLen) (w:World) (hBs:Bs<w.heap.size) (hBn:Bn<w.heap.size)
   (h1:w.cell? ⟨Bs,0,none⟩=some (.slice a (2 * m) cap)) (h2:w.cell? ⟨Bn,0,none⟩=some (.int .i64 2)) :
   SeqStopsK Fence.wide n Tryz.prog 208 #[.pointer (some ⟨Bs,0,none⟩),.pointer (some ⟨Bn,0,none⟩)] (fun x:Nat=>#[zbZ b off x]) (zaL (fun c=>c=Bs∨c=Bn)) (fun ys=>ys=List.range m) (fun pre=>∃k,k≤m∧pre=List.range k) m w:=by
 intro l J Jx W hW hJ _ hY h0
 have e1:=(hW.cell (p:=⟨Bs,0,none⟩) hBs).trans h1
 have e2:=(hW.cell (p:=⟨Bn,0,none⟩) hBn).trans h2
 rcases Nat.eq_zero_or_pos m with rfl|hm
 · exact (chunk0_in n hro l Bs Bn a cap J W e1 h0).mono fun e W' ⟨he,hj⟩=>⟨he,.inl ⟨_,rfl,hj⟩⟩
 · rw [ha hm] at e1
   exact chunk1_in n hro hn l Bs Bn b off m cap hcap hcm J Jx (fun s W1 q hs=>hJ s W1 (W1.drewN q) none hs (zgG (zef W1 none) q) (fun r e=>by cases e)) hY W e1 e2 h0
end Go.Proofs.YtfafdeemfeaedaaGreat
namespace Go.Proofs.YtfafdeemfeaedaaGreat
open Go.Sort
def ltI (p:List (PV×PV)) (i j:Nat):Bool:=sLt p[i]!.1.s p[j]!.1.s||(p[i]!.1.s==p[j]!.1.s&&decide (i<j))
def insI (p:List (PV×PV)) (k:Nat):List Nat→List Nat
 | []=>[k]
 | j::l=>if sLt p[j]!.1.s p[k]!.1.s then j::insI p k l else k::j::l
def zf9 (p:List (PV×PV)):List Nat→List Nat
 | []=>[]
 | k::l=>insI p k (zf9 p l)
theorem sLt_nt {a b c:List UInt8} (h1:sLt a b=false) (h2:sLt b c=false):sLt a c=false:=by
 cases h:sLt a c with
 | false=>rfl
 | true =>
   by_cases hab:a=b
   · subst hab;rw [h] at h2;cases h2
   · have:=sLt_tr b a c (zcA a b h1 hab) h
     rw [this] at h2;cases h2
theorem zgw (p:List (PV×PV)):SWO (ltI p) where
 irrefl x:=by simp [ltI,sLt_ir]
 trans x y z h1 h2:=by
   unfold ltI at *
   simp only [Bool.or_eq_true,Bool.and_eq_true,beq_iff_eq,decide_eq_true_eq] at *
   generalize p[x]!.1.s=a at *
   generalize p[y]!.1.s=b at *
   generalize p[z]!.1.s=c at *
   rcases h1 with h1|⟨h1,h3⟩
   · rcases h2 with h2|⟨h2,h4⟩
     · exact .inl (sLt_tr _ _ _ h1 h2)
     · subst h2;exact .inl h1
   · subst h1
     rcases h2 with h2|⟨h2,h4⟩
     · exact .inl h2
     · exact .inr ⟨h2,by omega⟩
 ntrans x y z h1 h2:=by
   unfold ltI at *
   simp only [Bool.or_eq_false_iff,Bool.and_eq_false_iff,beq_eq_false_iff_ne,decide_eq_false_iff_not] at *
   generalize p[x]!.1.s=a at *
   generalize p[y]!.1.s=b at *
   generalize p[z]!.1.s=c at *
   refine ⟨sLt_nt h1.1 h2.1,?_⟩
   by_cases hac:a=c
   · subst hac
     right
     by_cases hab:a=b
     · subst hab
       have h3:=h1.2.resolve_left (fun h=>h rfl)
       have h4:=h2.2.resolve_left (fun h=>h rfl)
       omega
     · exact absurd (zcA a b h1.1 hab) (by rw [h2.1];simp)
   · exact .inl hac
theorem ltI_anti (p:List (PV×PV)) (x y:Nat) (h1:ltI p x y=false) (h2:ltI p y x=false):x=y:=by
 unfold ltI at *
 simp only [Bool.or_eq_false_iff,Bool.and_eq_false_iff,beq_eq_false_iff_ne,decide_eq_false_iff_not] at *
 generalize p[x]!.1.s=a at *
 generalize p[y]!.1.s=b at *
 by_cases hab:a=b
 · subst hab
   have h3:=h1.2.resolve_left (fun h=>h rfl)
   have h4:=h2.2.resolve_left (fun h=>h rfl)
   omega
 · exact absurd (zcA a b h1.1 hab) (by rw [h2.1];simp)
theorem zeZ (p:List (PV×PV)) (k:Nat):∀l,(insI p k l).Perm (k::l)
 | []=>List.Perm.refl _
 | j::l=>by
   unfold insI
   split
   · exact ((zeZ p k l).cons j).trans (List.Perm.swap k j l)
   · exact List.Perm.refl _
theorem zdR (p:List (PV×PV)):∀l,(zf9 p l).Perm l
 | []=>List.Perm.refl _
 | k::l=>(zeZ p k (zf9 p l)).trans ((zdR p l).cons k)
theorem zeK (p:List (PV×PV)) (k:Nat):∀l:List Nat,(∀j∈l,k<j)→l.Pairwise (fun a b=>ltI p b a=false)→(insI p k l).Pairwise (fun a b=>ltI p b a=false)
 | [],_,_=>by simp [insI]
 | j::l,hk,h=>by
   have hs:=zgw p
   rw [List.pairwise_cons] at h
   unfold insI
   split
   · rename_i hj
     rw [List.pairwise_cons]
     refine ⟨fun x hx=>?_,zeK p k l (fun x hx=>hk x (List.mem_cons_of_mem _ hx)) h.2⟩
     rcases List.mem_cons.1 ((zeZ p k l).mem_iff.1 hx) with rfl|hx
     · unfold ltI
       simp only [Bool.or_eq_false_iff,Bool.and_eq_false_iff,beq_eq_false_iff_ne]
       refine ⟨sLt_as _ _ hj,.inl fun e=>?_⟩
       rw [e,sLt_ir] at hj;cases hj
     · exact h.1 x hx
   · rename_i hj
     have hkj:ltI p j k=false:=by
       unfold ltI
       simp only [Bool.or_eq_false_iff,Bool.and_eq_false_iff,decide_eq_false_iff_not]
       have:=hk j List.mem_cons_self
       exact ⟨by simpa using hj,.inr (by omega)⟩
     rw [List.pairwise_cons,List.pairwise_cons]
     refine ⟨fun x hx=>?_,h⟩
     rcases List.mem_cons.1 hx with rfl|hx
     · exact hkj
     · exact hs.ntrans x j k (h.1 x hx) hkj
theorem zel (p:List (PV×PV)):∀l:List Nat,l.Pairwise (· < ·)→(zf9 p l).Pairwise (fun a b=>ltI p b a=false)
 | [],_=>List.Pairwise.nil
 | k::l,h=>by
   rw [List.pairwise_cons] at h
   exact zeK p k _ (fun j hj=>h.1 j ((zdR p l).mem_iff.1 hj)) (zel p l h.2)
theorem insI_map (p:List (PV×PV)) (k:Nat):∀l:List Nat,(insI p k l).map (fun i=>p[i]!)=insV p[k]! (l.map fun i=>p[i]!)
 | []=>rfl
 | j::l=>by
   simp only [insI,List.map_cons,insV]
   split
   · rw [List.map_cons,insI_map p k l]
   · rfl
theorem sortI_map (p:List (PV×PV)):∀l:List Nat,(zf9 p l).map (fun i=>p[i]!)=zdG (l.map fun i=>p[i]!)
 | []=>rfl
 | k::l=>by
   simp only [zf9,List.map_cons,zdG]
   rw [insI_map,sortI_map p l]
theorem range_map (p:List (PV×PV)):(List.range p.length).map (fun i=>p[i]!)=p:=by
 apply List.ext_getElem
 · simp
 · intro i h1 h2
   simp [h2]
theorem zct {A:Array Nat} {n:Nat} (h:A.size=n):A.extract 0 n=A:=by subst h;simp
theorem sorted_is (p:List (PV×PV)) (R:Array Nat) (hP:PermIn 0 p.length (Array.range p.length) R) (hS:SortedIn (ltI p) 0 p.length R):R.toList.map (fun i=>p[i]!)=zdG p:=by
 have hz:(Array.range p.length).size=p.length:=by simp
 have h1:=sorted_unique_holds (zgw p) (ltI_anti p) (Array.range p.length) R (by rw [hz];exact hP) (by rw [hz];exact hS)
 have hJp:=zdR p (List.range p.length)
 have hJs:=zel p (List.range p.length) List.pairwise_lt_range
 have hJl:(zf9 p (List.range p.length)).length=p.length:=by rw [hJp.length_eq];simp
 have h2:=sorted_unique_holds (zgw p) (ltI_anti p) (Array.range p.length) (zf9 p (List.range p.length)).toArray
   (by
     rw [hz]
     refine ⟨by simp [hJl],fun i hi=>?_,?_⟩
     · rw [getElem!_neg _ _ (by simp [hJl];omega),getElem!_neg _ _ (by simp;omega)]
     · rw [zct (by simpa using hJl),zct hz]
       simpa using hJp)
   (by
     rw [hz]
     intro i j _ hij hj
     have:=List.pairwise_iff_getElem.1 hJs i j (by omega) (by omega) hij
     rw [getElem!_pos _ j (by simp [hJl];omega),getElem!_pos _ i (by simp [hJl];omega)]
     simpa using this)
 rw [h1,←h2]
 show ((zf9 p (List.range p.length)).toArray.toList).map _=_
 rw [List.toList_toArray,sortI_map,range_map]
theorem zc7 {n:Nat} {R:Array Nat} (hP:PermIn 0 n (Array.range n) R):R.size=n∧∀i,i<n→R[i]!<n:=by
 have hz:R.size=n:=by simpa using hP.1
 refine ⟨hz,fun i hi=>?_⟩
 have h:=hP.2.2
 rw [zct hz,zct (by simp)] at h
 have hm:R[i]!∈R.toList:=by rw [getElem!_pos R i (by omega)];simp
 have:=h.mem_iff.1 hm
 simpa using this
end Go.Proofs.YtfafdeemfeaedaaGreat
