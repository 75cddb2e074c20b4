/-
  Our texts LexV3 to Ps4, in one.
-/
import Derived.Test.YtkhcjoomijkfbaaGreatDoorPkB7
import Derived.Deep.DeepCutAuto
import Derived.Deep.RegionHeld3
import Derived.BigQuiet
set_option maxRecDepth 8000
set_option maxHeartbeats 8000000
namespace Go.Proofs.YtkhcjoomijkfbaaGreatDoor
open Go.RowKit
theorem zeD {w:World} {a:Option Addr} {cap:Nat} {bs:List UInt8} (hr:Row w 1 a bs.length cap (bs.map u8C)) (hn:bs.length≤400000) {k:Int} (last:Bool) (hk0:0≤k) (hk1:k≤bs.length) {f:Nat} (hf:zaF bs k=f) (hfl:f<bs.length) {V:Tk×Int×Int×Int} (hV:V=zbf bs f last) (hreg:isRg (bs.getD f 0)=true) (h1:f+runN (bs.drop f)=bs.length) (hla:last=true) (hd:48≤(bs.getD f 0).toNat∧(bs.getD f 0).toNat≤57) :
   Calls Tryz.prog 44 #[.slice a bs.length cap,.int .i64 k,.bool last] w (zax w V):=by
 have HT:=Lib.hid (show tokV last (bs.getD f 0) (bs.drop (f+1))=_ from zbp (X:=⟨none,0,bs,last⟩) (k:=f) hfl hreg)
 have hnl:¬(runN ((⟨none,0,bs,last⟩:Src).bs.drop f)=((⟨none,0,bs,last⟩:Src).bs.drop f).length∧(⟨none,0,bs,last⟩:Src).last=false):=by
   show ¬(runN (bs.drop f)=(bs.drop f).length∧last=false)
   rw [List.length_drop]
   rw [hla];simp
 have hnum:(isDg (bs.getD f 0)=true∨bs.getD f 0=43∨bs.getD f 0=45∨bs.getD f 0=46):=by
   exact .inl (by unfold isDg;simp;exact hd)
 have ht:=HT.out
 unfold rgV at ht
 rw [if_neg hnl,if_pos hnum] at ht
 rw [List.drop_drop] at ht
 clear HT hnl hnum
 obtain ⟨P,hP⟩:∃P,zaH (regs (bs.drop f))=P:=⟨_,rfl⟩
 have ht2:tokV last (bs.getD f 0) (bs.drop (f+1))=(P.2.2,{ kind:=1,vk:=P.1,vn:=P.2.1 },bs.drop (f+runN (bs.drop f))):=by rw [←hP];exact ht
 have HP:=Lib.hid hP
 have HT:=Lib.hid ht2
 clear ht ht2 hP
 have HVV:=Lib.hid hV
 have HFL:=Lib.hid hfl
 subst hla
 have hdl:isDl (bs.getD f 0)=false:=by
   have h:=hreg
   unfold isRg at h
   cases hh:isDl (bs.getD f 0) with
   | false=>rfl
   | true=>rw [hh] at h;simp at h
 have n91:bs.getD f 0≠91:=fun e=>by rw [e] at hreg;exact absurd hreg (by decide)
 have n93:bs.getD f 0≠93:=fun e=>by rw [e] at hreg;exact absurd hreg (by decide)
 have n60:bs.getD f 0≠60:=fun e=>by rw [e] at hreg;exact absurd hreg (by decide)
 have n62:bs.getD f 0≠62:=fun e=>by rw [e] at hreg;exact absurd hreg (by decide)
 have n40:bs.getD f 0≠40:=fun e=>by rw [e] at hreg;exact absurd hreg (by decide)
 have n47:bs.getD f 0≠47:=fun e=>by rw [e] at hreg;exact absurd hreg (by decide)
 have e91:=zat n91 91 rfl
 have e93:=zat n93 93 rfl
 have e60:=zat n60 60 rfl
 have e62:=zat n62 62 rfl
 have e40:=zat n40 40 rfl
 have e47:=zat n47 47 rfl
 obtain ⟨b,off,R,r,x,rfl,hbW,hx,hR,hRL,hrr,hcap,hcm,hkd,hkd2,hff,hffn,hfi,hf9,hrl,hS,hRN,hc,hcf,hZ,hB0⟩:=zaA hr hn hk0 hk1 hf hfl
 have HRW:=Lib.hid hr
 have HC:=Lib.hid hc
 have HS:=Lib.hid hS
 have HRN:=Lib.hid hRN
 have HRR:=Lib.hid hR
 have HRL:=Lib.hid hRL
 have HRE:=Lib.hid hrr
 have HZ:=Lib.hid hZ
 have HB0:=Lib.hid hB0
 clear hS hRN hRL hZ hB0
 have HDL:=Lib.hid (fun W=>zaL (bs.getD f 0).toNat W)
 rw [←zbW,hdl] at HDL
 rw [hx] at HDL e91 e93 e60 e62 e40 e47
 clear n91 n93 n60 n62 n40 n47 hdl hreg
 rw [←hR] at HT
 have hRt:(bs.drop f).take (R-f)=regs (bs.drop f):=by rw [za7,hR,Nat.add_sub_cancel_left]
 have HRT:=Lib.hid hRt
 have hrt:=zbh (bs.drop f)
 have hRf:f≤R:=by omega
 have hRl2:R≤bs.length:=HRL.out
 have hcf1:¬cap=f:=by omega
 have HRlen:=Lib.hid (show (regs (bs.drop f)).length≤400000 by show runN _≤_;omega)
 clear hRt hrt
 rw [hx] at hd
 have d1:decide ((48:Int)≤x)=true:=decide_eq_true (by omega)
 have d2:decide ((x:Int)≤57)=true:=decide_eq_true (by omega)
 clear hd
 obtain rfl:R=bs.length:=hR.trans h1
 clear h1
 clear hr hf hR hrr hrl hk0 hk1 hc hV hx
 go_enter Tryz.func44,Tryz.ntmps44
 go_wp2_with fail
 refine (HS.out _ HB0.out).mono ?_
 rintro e w' ⟨rfl,rfl⟩
 rw [←HRE.out]
 generalize w.alloc _=W1 at *
 obtain ⟨hcj1,hcj,hbn,hbl,hX⟩:=zau hbW HRE.out HB0.out hcf HZ.out
 have HX:=Lib.hid hX
 clear hcf hX
 go_wp2_with fail
 refine (HRN.out _ HX.out.bel).mono ?_
 rintro e w' ⟨rfl,rfl⟩
 clear hcj1 hcj hbn hbl
 generalize W1.alloc _=W2 at *
 generalize W1.heap.size=p at *
 clear HZ HB0
 have hcv:(convert 24 9 (.slice (some ⟨b,off+f,none⟩) (bs.length-f) (cap-f))).run Tryz.prog W2=.ok (.string (mkB ((bs.drop f).take (bs.length-f)))) W2:=zaR (X:=⟨none,0,bs,true⟩) HC.out f (bs.length-f) (by have:=HRL.out;show f+_≤bs.length;omega) W2 HX.out.bel
 rw [HRT.out] at hcv
 obtain ⟨s,hs⟩:∃s,mkB (regs (bs.drop f))=s:=⟨_,rfl⟩
 have hsb:bl s=regs (bs.drop f):=by rw [←hs];rfl
 have HPA:=Lib.hid (zbD s W2 (by rw [←zaz,hsb];exact HRlen.out))
 rw [hsb,HP.out] at HPA
 rw [hs] at hcv
 unfold zbq valC zba at HPA
 clear hs hsb
 go_wp2_with (go_at_call 73;refine (HDL.out _).mono ?_;rintro e w' ⟨rfl,rfl⟩)
 refine HPA.out.mono ?_
 rintro e w3 ⟨rfl,hb3⟩
 have HX3:=Lib.hid ((HX.out.on hb3).alloc (.cells #[.int .i64 P.1,.int .i64 P.2.1,.string ⟨#[]⟩,.slice none 0 0] 48))
 clear hb3 hcv HPA
 by_cases her:P.2.2=0
 · have HV := Lib.hid (HVV.out.trans (za2 HFL.out rfl (x := { kind := 1, vk := P.1, vn := P.2.1 }) (j := bs.length) (by rw [HT.out, her]) HRL.out))
   rw [her]
   clear her
   obtain ⟨⟨k0,k1,k2,k3,k4,k5,k6,k7⟩,m0,m1,m2,m3,m4,m5,m6,m7⟩:=zaf HX3.out.blk
   obtain ⟨⟨n0,n1,n2,n3,n4,n5,n6,n7⟩,-⟩:=zaf HX3.out.no
   go_wp2
   refine bodyPost_ret (zaa rfl _ _ r 91 _ (0,0) _ rfl (set8 HX3.out.blk _ _ _ _ _ _ _ _) Tryz.underlying91 rfl zaq _ rfl) rfl ?_
   exact zar (x:={ kind:=1,vk:=P.1,vn:=P.2.1 }) HX3.out.bel HX3.out.wr HV.out _ _ _ _ _ _ _ _
 · have HV := Lib.hid (HVV.out.trans (zaV (e := P.2.2) HFL.out rfl (by rw [HT.out]) her))
   have er1:(P.2.2==0)=false:=by rw [beq_eq_false_iff_ne];exact her
   have er2:(P.2.2 != 0)=true:=by simp only [bne,er1,Bool.not_false]
   clear her
   obtain ⟨⟨k0,k1,k2,k3,k4,k5,k6,k7⟩,m0,m1,m2,m3,m4,m5,m6,m7⟩:=zaf HX3.out.blk
   obtain ⟨⟨n0,n1,n2,n3,n4,n5,n6,n7⟩,-⟩:=zaf HX3.out.no
   go_wp2
   refine bodyPost_ret (zaa rfl _ _ r 91 _ (0,0) _ rfl (set8 HX3.out.blk _ _ _ _ _ _ _ _) Tryz.underlying91 rfl zaq _ rfl) rfl ?_
   exact zar (x:={ kind:=0 }) HX3.out.bel HX3.out.wr HV.out _ _ _ _ _ _ _ _
theorem rnext_43_end {w:World} {a:Option Addr} {cap:Nat} {bs:List UInt8} (hr:Row w 1 a bs.length cap (bs.map u8C)) (hn:bs.length≤400000) {k:Int} (last:Bool) (hk0:0≤k) (hk1:k≤bs.length) {f:Nat} (hf:zaF bs k=f) (hfl:f<bs.length) {V:Tk×Int×Int×Int} (hV:V=zbf bs f last) (hreg:isRg (bs.getD f 0)=true) (h1:f+runN (bs.drop f)=bs.length) (hla:last=true) (hc0:bs.getD f 0=43) :
   Calls Tryz.prog 44 #[.slice a bs.length cap,.int .i64 k,.bool last] w (zax w V):=by
 have HT:=Lib.hid (show tokV last (bs.getD f 0) (bs.drop (f+1))=_ from zbp (X:=⟨none,0,bs,last⟩) (k:=f) hfl hreg)
 have hnl:¬(runN ((⟨none,0,bs,last⟩:Src).bs.drop f)=((⟨none,0,bs,last⟩:Src).bs.drop f).length∧(⟨none,0,bs,last⟩:Src).last=false):=by
   show ¬(runN (bs.drop f)=(bs.drop f).length∧last=false)
   rw [List.length_drop]
   rw [hla];simp
 have hnum:(isDg (bs.getD f 0)=true∨bs.getD f 0=43∨bs.getD f 0=45∨bs.getD f 0=46):=by
   exact .inr (.inl hc0)
 have ht:=HT.out
 unfold rgV at ht
 rw [if_neg hnl,if_pos hnum] at ht
 rw [List.drop_drop] at ht
 clear HT hnl hnum
 obtain ⟨P,hP⟩:∃P,zaH (regs (bs.drop f))=P:=⟨_,rfl⟩
 have ht2:tokV last (bs.getD f 0) (bs.drop (f+1))=(P.2.2,{ kind:=1,vk:=P.1,vn:=P.2.1 },bs.drop (f+runN (bs.drop f))):=by rw [←hP];exact ht
 have HP:=Lib.hid hP
 have HT:=Lib.hid ht2
 clear ht ht2 hP
 have HVV:=Lib.hid hV
 have HFL:=Lib.hid hfl
 subst hla
 have hdl:isDl (bs.getD f 0)=false:=by
   have h:=hreg
   unfold isRg at h
   cases hh:isDl (bs.getD f 0) with
   | false=>rfl
   | true=>rw [hh] at h;simp at h
 have n91:bs.getD f 0≠91:=fun e=>by rw [e] at hreg;exact absurd hreg (by decide)
 have n93:bs.getD f 0≠93:=fun e=>by rw [e] at hreg;exact absurd hreg (by decide)
 have n60:bs.getD f 0≠60:=fun e=>by rw [e] at hreg;exact absurd hreg (by decide)
 have n62:bs.getD f 0≠62:=fun e=>by rw [e] at hreg;exact absurd hreg (by decide)
 have n40:bs.getD f 0≠40:=fun e=>by rw [e] at hreg;exact absurd hreg (by decide)
 have n47:bs.getD f 0≠47:=fun e=>by rw [e] at hreg;exact absurd hreg (by decide)
 have e91:=zat n91 91 rfl
 have e93:=zat n93 93 rfl
 have e60:=zat n60 60 rfl
 have e62:=zat n62 62 rfl
 have e40:=zat n40 40 rfl
 have e47:=zat n47 47 rfl
 obtain ⟨b,off,R,r,x,rfl,hbW,hx,hR,hRL,hrr,hcap,hcm,hkd,hkd2,hff,hffn,hfi,hf9,hrl,hS,hRN,hc,hcf,hZ,hB0⟩:=zaA hr hn hk0 hk1 hf hfl
 have HRW:=Lib.hid hr
 have HC:=Lib.hid hc
 have HS:=Lib.hid hS
 have HRN:=Lib.hid hRN
 have HRR:=Lib.hid hR
 have HRL:=Lib.hid hRL
 have HRE:=Lib.hid hrr
 have HZ:=Lib.hid hZ
 have HB0:=Lib.hid hB0
 clear hS hRN hRL hZ hB0
 have HDL:=Lib.hid (fun W=>zaL (bs.getD f 0).toNat W)
 rw [←zbW,hdl] at HDL
 rw [hx] at HDL e91 e93 e60 e62 e40 e47
 clear n91 n93 n60 n62 n40 n47 hdl hreg
 rw [←hR] at HT
 have hRt:(bs.drop f).take (R-f)=regs (bs.drop f):=by rw [za7,hR,Nat.add_sub_cancel_left]
 have HRT:=Lib.hid hRt
 have hrt:=zbh (bs.drop f)
 have hRf:f≤R:=by omega
 have hRl2:R≤bs.length:=HRL.out
 have hcf1:¬cap=f:=by omega
 have HRlen:=Lib.hid (show (regs (bs.drop f)).length≤400000 by show runN _≤_;omega)
 clear hRt hrt
 obtain rfl:x=43:=by rw [←hx,hc0];rfl
 clear hc0
 obtain rfl:R=bs.length:=hR.trans h1
 clear h1
 clear hr hf hR hrr hrl hk0 hk1 hc hV hx
 go_enter Tryz.func44,Tryz.ntmps44
 go_wp2_with fail
 refine (HS.out _ HB0.out).mono ?_
 rintro e w' ⟨rfl,rfl⟩
 rw [←HRE.out]
 generalize w.alloc _=W1 at *
 obtain ⟨hcj1,hcj,hbn,hbl,hX⟩:=zau hbW HRE.out HB0.out hcf HZ.out
 have HX:=Lib.hid hX
 clear hcf hX
 go_wp2_with fail
 refine (HRN.out _ HX.out.bel).mono ?_
 rintro e w' ⟨rfl,rfl⟩
 clear hcj1 hcj hbn hbl
 generalize W1.alloc _=W2 at *
 generalize W1.heap.size=p at *
 clear HZ HB0
 have hcv:(convert 24 9 (.slice (some ⟨b,off+f,none⟩) (bs.length-f) (cap-f))).run Tryz.prog W2=.ok (.string (mkB ((bs.drop f).take (bs.length-f)))) W2:=zaR (X:=⟨none,0,bs,true⟩) HC.out f (bs.length-f) (by have:=HRL.out;show f+_≤bs.length;omega) W2 HX.out.bel
 rw [HRT.out] at hcv
 obtain ⟨s,hs⟩:∃s,mkB (regs (bs.drop f))=s:=⟨_,rfl⟩
 have hsb:bl s=regs (bs.drop f):=by rw [←hs];rfl
 have HPA:=Lib.hid (zbD s W2 (by rw [←zaz,hsb];exact HRlen.out))
 rw [hsb,HP.out] at HPA
 rw [hs] at hcv
 unfold zbq valC zba at HPA
 clear hs hsb
 go_wp2_with (go_at_call 73;refine (HDL.out _).mono ?_;rintro e w' ⟨rfl,rfl⟩)
 refine HPA.out.mono ?_
 rintro e w3 ⟨rfl,hb3⟩
 have HX3:=Lib.hid ((HX.out.on hb3).alloc (.cells #[.int .i64 P.1,.int .i64 P.2.1,.string ⟨#[]⟩,.slice none 0 0] 48))
 clear hb3 hcv HPA
 by_cases her:P.2.2=0
 · have HV := Lib.hid (HVV.out.trans (za2 HFL.out rfl (x := { kind := 1, vk := P.1, vn := P.2.1 }) (j := bs.length) (by rw [HT.out, her]) HRL.out))
   rw [her]
   clear her
   obtain ⟨⟨k0,k1,k2,k3,k4,k5,k6,k7⟩,m0,m1,m2,m3,m4,m5,m6,m7⟩:=zaf HX3.out.blk
   obtain ⟨⟨n0,n1,n2,n3,n4,n5,n6,n7⟩,-⟩:=zaf HX3.out.no
   go_wp2
   refine bodyPost_ret (zaa rfl _ _ r 91 _ (0,0) _ rfl (set8 HX3.out.blk _ _ _ _ _ _ _ _) Tryz.underlying91 rfl zaq _ rfl) rfl ?_
   exact zar (x:={ kind:=1,vk:=P.1,vn:=P.2.1 }) HX3.out.bel HX3.out.wr HV.out _ _ _ _ _ _ _ _
 · have HV := Lib.hid (HVV.out.trans (zaV (e := P.2.2) HFL.out rfl (by rw [HT.out]) her))
   have er1:(P.2.2==0)=false:=by rw [beq_eq_false_iff_ne];exact her
   have er2:(P.2.2 != 0)=true:=by simp only [bne,er1,Bool.not_false]
   clear her
   obtain ⟨⟨k0,k1,k2,k3,k4,k5,k6,k7⟩,m0,m1,m2,m3,m4,m5,m6,m7⟩:=zaf HX3.out.blk
   obtain ⟨⟨n0,n1,n2,n3,n4,n5,n6,n7⟩,-⟩:=zaf HX3.out.no
   go_wp2
   refine bodyPost_ret (zaa rfl _ _ r 91 _ (0,0) _ rfl (set8 HX3.out.blk _ _ _ _ _ _ _ _) Tryz.underlying91 rfl zaq _ rfl) rfl ?_
   exact zar (x:={ kind:=0 }) HX3.out.bel HX3.out.wr HV.out _ _ _ _ _ _ _ _
theorem rnext_45_end {w:World} {a:Option Addr} {cap:Nat} {bs:List UInt8} (hr:Row w 1 a bs.length cap (bs.map u8C)) (hn:bs.length≤400000) {k:Int} (last:Bool) (hk0:0≤k) (hk1:k≤bs.length) {f:Nat} (hf:zaF bs k=f) (hfl:f<bs.length) {V:Tk×Int×Int×Int} (hV:V=zbf bs f last) (hreg:isRg (bs.getD f 0)=true) (h1:f+runN (bs.drop f)=bs.length) (hla:last=true) (hc0:bs.getD f 0=45) :
   Calls Tryz.prog 44 #[.slice a bs.length cap,.int .i64 k,.bool last] w (zax w V):=by
 have HT:=Lib.hid (show tokV last (bs.getD f 0) (bs.drop (f+1))=_ from zbp (X:=⟨none,0,bs,last⟩) (k:=f) hfl hreg)
 have hnl:¬(runN ((⟨none,0,bs,last⟩:Src).bs.drop f)=((⟨none,0,bs,last⟩:Src).bs.drop f).length∧(⟨none,0,bs,last⟩:Src).last=false):=by
   show ¬(runN (bs.drop f)=(bs.drop f).length∧last=false)
   rw [List.length_drop]
   rw [hla];simp
 have hnum:(isDg (bs.getD f 0)=true∨bs.getD f 0=43∨bs.getD f 0=45∨bs.getD f 0=46):=by
   exact .inr (.inr (.inl hc0))
 have ht:=HT.out
 unfold rgV at ht
 rw [if_neg hnl,if_pos hnum] at ht
 rw [List.drop_drop] at ht
 clear HT hnl hnum
 obtain ⟨P,hP⟩:∃P,zaH (regs (bs.drop f))=P:=⟨_,rfl⟩
 have ht2:tokV last (bs.getD f 0) (bs.drop (f+1))=(P.2.2,{ kind:=1,vk:=P.1,vn:=P.2.1 },bs.drop (f+runN (bs.drop f))):=by rw [←hP];exact ht
 have HP:=Lib.hid hP
 have HT:=Lib.hid ht2
 clear ht ht2 hP
 have HVV:=Lib.hid hV
 have HFL:=Lib.hid hfl
 subst hla
 have hdl:isDl (bs.getD f 0)=false:=by
   have h:=hreg
   unfold isRg at h
   cases hh:isDl (bs.getD f 0) with
   | false=>rfl
   | true=>rw [hh] at h;simp at h
 have n91:bs.getD f 0≠91:=fun e=>by rw [e] at hreg;exact absurd hreg (by decide)
 have n93:bs.getD f 0≠93:=fun e=>by rw [e] at hreg;exact absurd hreg (by decide)
 have n60:bs.getD f 0≠60:=fun e=>by rw [e] at hreg;exact absurd hreg (by decide)
 have n62:bs.getD f 0≠62:=fun e=>by rw [e] at hreg;exact absurd hreg (by decide)
 have n40:bs.getD f 0≠40:=fun e=>by rw [e] at hreg;exact absurd hreg (by decide)
 have n47:bs.getD f 0≠47:=fun e=>by rw [e] at hreg;exact absurd hreg (by decide)
 have e91:=zat n91 91 rfl
 have e93:=zat n93 93 rfl
 have e60:=zat n60 60 rfl
 have e62:=zat n62 62 rfl
 have e40:=zat n40 40 rfl
 have e47:=zat n47 47 rfl
 obtain ⟨b,off,R,r,x,rfl,hbW,hx,hR,hRL,hrr,hcap,hcm,hkd,hkd2,hff,hffn,hfi,hf9,hrl,hS,hRN,hc,hcf,hZ,hB0⟩:=zaA hr hn hk0 hk1 hf hfl
 have HRW:=Lib.hid hr
 have HC:=Lib.hid hc
 have HS:=Lib.hid hS
 have HRN:=Lib.hid hRN
 have HRR:=Lib.hid hR
 have HRL:=Lib.hid hRL
 have HRE:=Lib.hid hrr
 have HZ:=Lib.hid hZ
 have HB0:=Lib.hid hB0
 clear hS hRN hRL hZ hB0
 have HDL:=Lib.hid (fun W=>zaL (bs.getD f 0).toNat W)
 rw [←zbW,hdl] at HDL
 rw [hx] at HDL e91 e93 e60 e62 e40 e47
 clear n91 n93 n60 n62 n40 n47 hdl hreg
 rw [←hR] at HT
 have hRt:(bs.drop f).take (R-f)=regs (bs.drop f):=by rw [za7,hR,Nat.add_sub_cancel_left]
 have HRT:=Lib.hid hRt
 have hrt:=zbh (bs.drop f)
 have hRf:f≤R:=by omega
 have hRl2:R≤bs.length:=HRL.out
 have hcf1:¬cap=f:=by omega
 have HRlen:=Lib.hid (show (regs (bs.drop f)).length≤400000 by show runN _≤_;omega)
 clear hRt hrt
 obtain rfl:x=45:=by rw [←hx,hc0];rfl
 clear hc0
 obtain rfl:R=bs.length:=hR.trans h1
 clear h1
 clear hr hf hR hrr hrl hk0 hk1 hc hV hx
 go_enter Tryz.func44,Tryz.ntmps44
 go_wp2_with fail
 refine (HS.out _ HB0.out).mono ?_
 rintro e w' ⟨rfl,rfl⟩
 rw [←HRE.out]
 generalize w.alloc _=W1 at *
 obtain ⟨hcj1,hcj,hbn,hbl,hX⟩:=zau hbW HRE.out HB0.out hcf HZ.out
 have HX:=Lib.hid hX
 clear hcf hX
 go_wp2_with fail
 refine (HRN.out _ HX.out.bel).mono ?_
 rintro e w' ⟨rfl,rfl⟩
 clear hcj1 hcj hbn hbl
 generalize W1.alloc _=W2 at *
 generalize W1.heap.size=p at *
 clear HZ HB0
 have hcv:(convert 24 9 (.slice (some ⟨b,off+f,none⟩) (bs.length-f) (cap-f))).run Tryz.prog W2=.ok (.string (mkB ((bs.drop f).take (bs.length-f)))) W2:=zaR (X:=⟨none,0,bs,true⟩) HC.out f (bs.length-f) (by have:=HRL.out;show f+_≤bs.length;omega) W2 HX.out.bel
 rw [HRT.out] at hcv
 obtain ⟨s,hs⟩:∃s,mkB (regs (bs.drop f))=s:=⟨_,rfl⟩
 have hsb:bl s=regs (bs.drop f):=by rw [←hs];rfl
 have HPA:=Lib.hid (zbD s W2 (by rw [←zaz,hsb];exact HRlen.out))
 rw [hsb,HP.out] at HPA
 rw [hs] at hcv
 unfold zbq valC zba at HPA
 clear hs hsb
 go_wp2_with (go_at_call 73;refine (HDL.out _).mono ?_;rintro e w' ⟨rfl,rfl⟩)
 refine HPA.out.mono ?_
 rintro e w3 ⟨rfl,hb3⟩
 have HX3:=Lib.hid ((HX.out.on hb3).alloc (.cells #[.int .i64 P.1,.int .i64 P.2.1,.string ⟨#[]⟩,.slice none 0 0] 48))
 clear hb3 hcv HPA
 by_cases her:P.2.2=0
 · have HV := Lib.hid (HVV.out.trans (za2 HFL.out rfl (x := { kind := 1, vk := P.1, vn := P.2.1 }) (j := bs.length) (by rw [HT.out, her]) HRL.out))
   rw [her]
   clear her
   obtain ⟨⟨k0,k1,k2,k3,k4,k5,k6,k7⟩,m0,m1,m2,m3,m4,m5,m6,m7⟩:=zaf HX3.out.blk
   obtain ⟨⟨n0,n1,n2,n3,n4,n5,n6,n7⟩,-⟩:=zaf HX3.out.no
   go_wp2
   refine bodyPost_ret (zaa rfl _ _ r 91 _ (0,0) _ rfl (set8 HX3.out.blk _ _ _ _ _ _ _ _) Tryz.underlying91 rfl zaq _ rfl) rfl ?_
   exact zar (x:={ kind:=1,vk:=P.1,vn:=P.2.1 }) HX3.out.bel HX3.out.wr HV.out _ _ _ _ _ _ _ _
 · have HV := Lib.hid (HVV.out.trans (zaV (e := P.2.2) HFL.out rfl (by rw [HT.out]) her))
   have er1:(P.2.2==0)=false:=by rw [beq_eq_false_iff_ne];exact her
   have er2:(P.2.2 != 0)=true:=by simp only [bne,er1,Bool.not_false]
   clear her
   obtain ⟨⟨k0,k1,k2,k3,k4,k5,k6,k7⟩,m0,m1,m2,m3,m4,m5,m6,m7⟩:=zaf HX3.out.blk
   obtain ⟨⟨n0,n1,n2,n3,n4,n5,n6,n7⟩,-⟩:=zaf HX3.out.no
   go_wp2
   refine bodyPost_ret (zaa rfl _ _ r 91 _ (0,0) _ rfl (set8 HX3.out.blk _ _ _ _ _ _ _ _) Tryz.underlying91 rfl zaq _ rfl) rfl ?_
   exact zar (x:={ kind:=0 }) HX3.out.bel HX3.out.wr HV.out _ _ _ _ _ _ _ _
theorem rnext_46_end {w:World} {a:Option Addr} {cap:Nat} {bs:List UInt8} (hr:Row w 1 a bs.length cap (bs.map u8C)) (hn:bs.length≤400000) {k:Int} (last:Bool) (hk0:0≤k) (hk1:k≤bs.length) {f:Nat} (hf:zaF bs k=f) (hfl:f<bs.length) {V:Tk×Int×Int×Int} (hV:V=zbf bs f last) (hreg:isRg (bs.getD f 0)=true) (h1:f+runN (bs.drop f)=bs.length) (hla:last=true) (hc0:bs.getD f 0=46) :
   Calls Tryz.prog 44 #[.slice a bs.length cap,.int .i64 k,.bool last] w (zax w V):=by
 have HT:=Lib.hid (show tokV last (bs.getD f 0) (bs.drop (f+1))=_ from zbp (X:=⟨none,0,bs,last⟩) (k:=f) hfl hreg)
 have hnl:¬(runN ((⟨none,0,bs,last⟩:Src).bs.drop f)=((⟨none,0,bs,last⟩:Src).bs.drop f).length∧(⟨none,0,bs,last⟩:Src).last=false):=by
   show ¬(runN (bs.drop f)=(bs.drop f).length∧last=false)
   rw [List.length_drop]
   rw [hla];simp
 have hnum:(isDg (bs.getD f 0)=true∨bs.getD f 0=43∨bs.getD f 0=45∨bs.getD f 0=46):=by
   exact .inr (.inr (.inr hc0))
 have ht:=HT.out
 unfold rgV at ht
 rw [if_neg hnl,if_pos hnum] at ht
 rw [List.drop_drop] at ht
 clear HT hnl hnum
 obtain ⟨P,hP⟩:∃P,zaH (regs (bs.drop f))=P:=⟨_,rfl⟩
 have ht2:tokV last (bs.getD f 0) (bs.drop (f+1))=(P.2.2,{ kind:=1,vk:=P.1,vn:=P.2.1 },bs.drop (f+runN (bs.drop f))):=by rw [←hP];exact ht
 have HP:=Lib.hid hP
 have HT:=Lib.hid ht2
 clear ht ht2 hP
 have HVV:=Lib.hid hV
 have HFL:=Lib.hid hfl
 subst hla
 have hdl:isDl (bs.getD f 0)=false:=by
   have h:=hreg
   unfold isRg at h
   cases hh:isDl (bs.getD f 0) with
   | false=>rfl
   | true=>rw [hh] at h;simp at h
 have n91:bs.getD f 0≠91:=fun e=>by rw [e] at hreg;exact absurd hreg (by decide)
 have n93:bs.getD f 0≠93:=fun e=>by rw [e] at hreg;exact absurd hreg (by decide)
 have n60:bs.getD f 0≠60:=fun e=>by rw [e] at hreg;exact absurd hreg (by decide)
 have n62:bs.getD f 0≠62:=fun e=>by rw [e] at hreg;exact absurd hreg (by decide)
 have n40:bs.getD f 0≠40:=fun e=>by rw [e] at hreg;exact absurd hreg (by decide)
 have n47:bs.getD f 0≠47:=fun e=>by rw [e] at hreg;exact absurd hreg (by decide)
 have e91:=zat n91 91 rfl
 have e93:=zat n93 93 rfl
 have e60:=zat n60 60 rfl
 have e62:=zat n62 62 rfl
 have e40:=zat n40 40 rfl
 have e47:=zat n47 47 rfl
 obtain ⟨b,off,R,r,x,rfl,hbW,hx,hR,hRL,hrr,hcap,hcm,hkd,hkd2,hff,hffn,hfi,hf9,hrl,hS,hRN,hc,hcf,hZ,hB0⟩:=zaA hr hn hk0 hk1 hf hfl
 have HRW:=Lib.hid hr
 have HC:=Lib.hid hc
 have HS:=Lib.hid hS
 have HRN:=Lib.hid hRN
 have HRR:=Lib.hid hR
 have HRL:=Lib.hid hRL
 have HRE:=Lib.hid hrr
 have HZ:=Lib.hid hZ
 have HB0:=Lib.hid hB0
 clear hS hRN hRL hZ hB0
 have HDL:=Lib.hid (fun W=>zaL (bs.getD f 0).toNat W)
 rw [←zbW,hdl] at HDL
 rw [hx] at HDL e91 e93 e60 e62 e40 e47
 clear n91 n93 n60 n62 n40 n47 hdl hreg
 rw [←hR] at HT
 have hRt:(bs.drop f).take (R-f)=regs (bs.drop f):=by rw [za7,hR,Nat.add_sub_cancel_left]
 have HRT:=Lib.hid hRt
 have hrt:=zbh (bs.drop f)
 have hRf:f≤R:=by omega
 have hRl2:R≤bs.length:=HRL.out
 have hcf1:¬cap=f:=by omega
 have HRlen:=Lib.hid (show (regs (bs.drop f)).length≤400000 by show runN _≤_;omega)
 clear hRt hrt
 obtain rfl:x=46:=by rw [←hx,hc0];rfl
 clear hc0
 obtain rfl:R=bs.length:=hR.trans h1
 clear h1
 clear hr hf hR hrr hrl hk0 hk1 hc hV hx
 go_enter Tryz.func44,Tryz.ntmps44
 go_wp2_with fail
 refine (HS.out _ HB0.out).mono ?_
 rintro e w' ⟨rfl,rfl⟩
 rw [←HRE.out]
 generalize w.alloc _=W1 at *
 obtain ⟨hcj1,hcj,hbn,hbl,hX⟩:=zau hbW HRE.out HB0.out hcf HZ.out
 have HX:=Lib.hid hX
 clear hcf hX
 go_wp2_with fail
 refine (HRN.out _ HX.out.bel).mono ?_
 rintro e w' ⟨rfl,rfl⟩
 clear hcj1 hcj hbn hbl
 generalize W1.alloc _=W2 at *
 generalize W1.heap.size=p at *
 clear HZ HB0
 have hcv:(convert 24 9 (.slice (some ⟨b,off+f,none⟩) (bs.length-f) (cap-f))).run Tryz.prog W2=.ok (.string (mkB ((bs.drop f).take (bs.length-f)))) W2:=zaR (X:=⟨none,0,bs,true⟩) HC.out f (bs.length-f) (by have:=HRL.out;show f+_≤bs.length;omega) W2 HX.out.bel
 rw [HRT.out] at hcv
 obtain ⟨s,hs⟩:∃s,mkB (regs (bs.drop f))=s:=⟨_,rfl⟩
 have hsb:bl s=regs (bs.drop f):=by rw [←hs];rfl
 have HPA:=Lib.hid (zbD s W2 (by rw [←zaz,hsb];exact HRlen.out))
 rw [hsb,HP.out] at HPA
 rw [hs] at hcv
 unfold zbq valC zba at HPA
 clear hs hsb
 go_wp2_with (go_at_call 73;refine (HDL.out _).mono ?_;rintro e w' ⟨rfl,rfl⟩)
 refine HPA.out.mono ?_
 rintro e w3 ⟨rfl,hb3⟩
 have HX3:=Lib.hid ((HX.out.on hb3).alloc (.cells #[.int .i64 P.1,.int .i64 P.2.1,.string ⟨#[]⟩,.slice none 0 0] 48))
 clear hb3 hcv HPA
 by_cases her:P.2.2=0
 · have HV := Lib.hid (HVV.out.trans (za2 HFL.out rfl (x := { kind := 1, vk := P.1, vn := P.2.1 }) (j := bs.length) (by rw [HT.out, her]) HRL.out))
   rw [her]
   clear her
   obtain ⟨⟨k0,k1,k2,k3,k4,k5,k6,k7⟩,m0,m1,m2,m3,m4,m5,m6,m7⟩:=zaf HX3.out.blk
   obtain ⟨⟨n0,n1,n2,n3,n4,n5,n6,n7⟩,-⟩:=zaf HX3.out.no
   go_wp2
   refine bodyPost_ret (zaa rfl _ _ r 91 _ (0,0) _ rfl (set8 HX3.out.blk _ _ _ _ _ _ _ _) Tryz.underlying91 rfl zaq _ rfl) rfl ?_
   exact zar (x:={ kind:=1,vk:=P.1,vn:=P.2.1 }) HX3.out.bel HX3.out.wr HV.out _ _ _ _ _ _ _ _
 · have HV := Lib.hid (HVV.out.trans (zaV (e := P.2.2) HFL.out rfl (by rw [HT.out]) her))
   have er1:(P.2.2==0)=false:=by rw [beq_eq_false_iff_ne];exact her
   have er2:(P.2.2 != 0)=true:=by simp only [bne,er1,Bool.not_false]
   clear her
   obtain ⟨⟨k0,k1,k2,k3,k4,k5,k6,k7⟩,m0,m1,m2,m3,m4,m5,m6,m7⟩:=zaf HX3.out.blk
   obtain ⟨⟨n0,n1,n2,n3,n4,n5,n6,n7⟩,-⟩:=zaf HX3.out.no
   go_wp2
   refine bodyPost_ret (zaa rfl _ _ r 91 _ (0,0) _ rfl (set8 HX3.out.blk _ _ _ _ _ _ _ _) Tryz.underlying91 rfl zaq _ rfl) rfl ?_
   exact zar (x:={ kind:=0 }) HX3.out.bel HX3.out.wr HV.out _ _ _ _ _ _ _ _
theorem zgs {w:World} {a:Option Addr} {cap:Nat} {bs:List UInt8} (hr:Row w 1 a bs.length cap (bs.map u8C)) (hn:bs.length≤400000) {k:Int} (last:Bool) (hk0:0≤k) (hk1:k≤bs.length) {f:Nat} (hf:zaF bs k=f) (hfl:f<bs.length) {V:Tk×Int×Int×Int} (hV:V=zbf bs f last) (hreg:isRg (bs.getD f 0)=true) (h1:f+runN (bs.drop f)=bs.length) (hla:last=true) (hd:(bs.getD f 0).toNat<48∧bs.getD f 0≠43∧bs.getD f 0≠45∧bs.getD f 0≠46) :
   Calls Tryz.prog 44 #[.slice a bs.length cap,.int .i64 k,.bool last] w (zax w V):=by
 have HT:=Lib.hid (show tokV last (bs.getD f 0) (bs.drop (f+1))=_ from zbp (X:=⟨none,0,bs,last⟩) (k:=f) hfl hreg)
 have hnl:¬(runN ((⟨none,0,bs,last⟩:Src).bs.drop f)=((⟨none,0,bs,last⟩:Src).bs.drop f).length∧(⟨none,0,bs,last⟩:Src).last=false):=by
   show ¬(runN (bs.drop f)=(bs.drop f).length∧last=false)
   rw [List.length_drop]
   rw [hla];simp
 have hnum:¬(isDg (bs.getD f 0)=true∨bs.getD f 0=43∨bs.getD f 0=45∨bs.getD f 0=46):=by
   rintro (h|h|h|h)
   · have h2:=zbc.1 h;have:=hd.1;omega
   · exact hd.2.1 h
   · exact hd.2.2.1 h
   · exact hd.2.2.2 h
 have ht:=HT.out
 unfold rgV at ht
 rw [if_neg hnl,if_neg hnum] at ht
 rw [List.drop_drop] at ht
 clear HT hnl hnum
 have HT:=Lib.hid (show tokV last (bs.getD f 0) (bs.drop (f+1))=(0,{ kind:=6,s:=regs (bs.drop f) },bs.drop (f+runN (bs.drop f))) from ht)
 clear ht
 have HVV:=Lib.hid hV
 have HFL:=Lib.hid hfl
 subst hla
 have hdl:isDl (bs.getD f 0)=false:=by
   have h:=hreg
   unfold isRg at h
   cases hh:isDl (bs.getD f 0) with
   | false=>rfl
   | true=>rw [hh] at h;simp at h
 have n91:bs.getD f 0≠91:=fun e=>by rw [e] at hreg;exact absurd hreg (by decide)
 have n93:bs.getD f 0≠93:=fun e=>by rw [e] at hreg;exact absurd hreg (by decide)
 have n60:bs.getD f 0≠60:=fun e=>by rw [e] at hreg;exact absurd hreg (by decide)
 have n62:bs.getD f 0≠62:=fun e=>by rw [e] at hreg;exact absurd hreg (by decide)
 have n40:bs.getD f 0≠40:=fun e=>by rw [e] at hreg;exact absurd hreg (by decide)
 have n47:bs.getD f 0≠47:=fun e=>by rw [e] at hreg;exact absurd hreg (by decide)
 have e91:=zat n91 91 rfl
 have e93:=zat n93 93 rfl
 have e60:=zat n60 60 rfl
 have e62:=zat n62 62 rfl
 have e40:=zat n40 40 rfl
 have e47:=zat n47 47 rfl
 have e43:=zat hd.2.1 43 rfl
 have e45:=zat hd.2.2.1 45 rfl
 have e46:=zat hd.2.2.2 46 rfl
 have hd0:=hd.1
 clear hd
 obtain ⟨b,off,R,r,x,rfl,hbW,hx,hR,hRL,hrr,hcap,hcm,hkd,hkd2,hff,hffn,hfi,hf9,hrl,hS,hRN,hc,hcf,hZ,hB0⟩:=zaA hr hn hk0 hk1 hf hfl
 have HRW:=Lib.hid hr
 have HC:=Lib.hid hc
 have HS:=Lib.hid hS
 have HRN:=Lib.hid hRN
 have HRR:=Lib.hid hR
 have HRL:=Lib.hid hRL
 have HRE:=Lib.hid hrr
 have HZ:=Lib.hid hZ
 have HB0:=Lib.hid hB0
 clear hS hRN hRL hZ hB0
 have HDL:=Lib.hid (fun W=>zaL (bs.getD f 0).toNat W)
 rw [←zbW,hdl] at HDL
 rw [hx] at HDL e91 e93 e60 e62 e40 e47
 clear n91 n93 n60 n62 n40 n47 hdl hreg
 rw [←hR] at HT
 have hRt:(bs.drop f).take (R-f)=regs (bs.drop f):=by rw [za7,hR,Nat.add_sub_cancel_left]
 have HRT:=Lib.hid hRt
 have hrt:=zbh (bs.drop f)
 have hRf:f≤R:=by omega
 have hRl2:R≤bs.length:=HRL.out
 have hcf1:¬cap=f:=by omega
 have HRlen:=Lib.hid (show (regs (bs.drop f)).length≤400000 by show runN _≤_;omega)
 clear hRt hrt
 rw [hx] at hd0 e43 e45 e46
 have d1:decide ((48:Int)≤x)=false:=decide_eq_false (by omega)
 clear hd0
 obtain rfl:R=bs.length:=hR.trans h1
 clear h1
 clear hr hf hR hrr hrl hk0 hk1 hc hV hx
 go_enter Tryz.func44,Tryz.ntmps44
 go_wp2_with fail
 refine (HS.out _ HB0.out).mono ?_
 rintro e w' ⟨rfl,rfl⟩
 rw [←HRE.out]
 generalize w.alloc _=W1 at *
 obtain ⟨hcj1,hcj,hbn,hbl,hX⟩:=zau hbW HRE.out HB0.out hcf HZ.out
 have HX:=Lib.hid hX
 clear hcf hX
 go_wp2_with fail
 refine (HRN.out _ HX.out.bel).mono ?_
 rintro e w' ⟨rfl,rfl⟩
 clear hcj1 hcj hbn hbl
 generalize W1.alloc _=W2 at *
 generalize W1.heap.size=p at *
 clear HZ HB0
 have hcv:(convert 24 9 (.slice (some ⟨b,off+f,none⟩) (bs.length-f) (cap-f))).run Tryz.prog W2=.ok (.string (mkB ((bs.drop f).take (bs.length-f)))) W2:=zaR (X:=⟨none,0,bs,true⟩) HC.out f (bs.length-f) (by have:=HRL.out;show f+_≤bs.length;omega) W2 HX.out.bel
 rw [HRT.out] at hcv
 have HV:=Lib.hid (HVV.out.trans (za2 HFL.out rfl (x:={ kind:=6,s:=regs (bs.drop f) }) (j:=bs.length) HT.out HRL.out))
 obtain ⟨⟨k0,k1,k2,k3,k4,k5,k6,k7⟩,m0,m1,m2,m3,m4,m5,m6,m7⟩:=zaf HX.out.blk
 obtain ⟨⟨n0,n1,n2,n3,n4,n5,n6,n7⟩,-⟩:=zaf HX.out.no
 go_wp2_with (go_at_call 73;refine (HDL.out _).mono ?_;rintro e w' ⟨rfl,rfl⟩)
 refine bodyPost_ret (zaa rfl _ _ r 91 _ (0,0) _ rfl (set8 HX.out.blk _ _ _ _ _ _ _ _) Tryz.underlying91 rfl zaq _ rfl) rfl ?_
 exact zar (x:={ kind:=6,s:=regs (bs.drop f) }) HX.out.bel HX.out.wr HV.out _ _ _ _ _ _ _ _
theorem zfq {w:World} {a:Option Addr} {cap:Nat} {bs:List UInt8} (hr:Row w 1 a bs.length cap (bs.map u8C)) (hn:bs.length≤400000) {k:Int} (last:Bool) (hk0:0≤k) (hk1:k≤bs.length) {f:Nat} (hf:zaF bs k=f) (hfl:f<bs.length) {V:Tk×Int×Int×Int} (hV:V=zbf bs f last) (hreg:isRg (bs.getD f 0)=true) (h1:f+runN (bs.drop f)=bs.length) (hla:last=true) (hd:57<(bs.getD f 0).toNat) :
   Calls Tryz.prog 44 #[.slice a bs.length cap,.int .i64 k,.bool last] w (zax w V):=by
 have HT:=Lib.hid (show tokV last (bs.getD f 0) (bs.drop (f+1))=_ from zbp (X:=⟨none,0,bs,last⟩) (k:=f) hfl hreg)
 have hnl:¬(runN ((⟨none,0,bs,last⟩:Src).bs.drop f)=((⟨none,0,bs,last⟩:Src).bs.drop f).length∧(⟨none,0,bs,last⟩:Src).last=false):=by
   show ¬(runN (bs.drop f)=(bs.drop f).length∧last=false)
   rw [List.length_drop]
   rw [hla];simp
 have hnum:¬(isDg (bs.getD f 0)=true∨bs.getD f 0=43∨bs.getD f 0=45∨bs.getD f 0=46):=by
   rintro (h|h|h|h)
   · have h2:=zbc.1 h;omega
   · rw [h] at hd;exact absurd hd (by decide)
   · rw [h] at hd;exact absurd hd (by decide)
   · rw [h] at hd;exact absurd hd (by decide)
 have ht:=HT.out
 unfold rgV at ht
 rw [if_neg hnl,if_neg hnum] at ht
 rw [List.drop_drop] at ht
 clear HT hnl hnum
 have HT:=Lib.hid (show tokV last (bs.getD f 0) (bs.drop (f+1))=(0,{ kind:=6,s:=regs (bs.drop f) },bs.drop (f+runN (bs.drop f))) from ht)
 clear ht
 have HVV:=Lib.hid hV
 have HFL:=Lib.hid hfl
 subst hla
 have hdl:isDl (bs.getD f 0)=false:=by
   have h:=hreg
   unfold isRg at h
   cases hh:isDl (bs.getD f 0) with
   | false=>rfl
   | true=>rw [hh] at h;simp at h
 have n91:bs.getD f 0≠91:=fun e=>by rw [e] at hreg;exact absurd hreg (by decide)
 have n93:bs.getD f 0≠93:=fun e=>by rw [e] at hreg;exact absurd hreg (by decide)
 have n60:bs.getD f 0≠60:=fun e=>by rw [e] at hreg;exact absurd hreg (by decide)
 have n62:bs.getD f 0≠62:=fun e=>by rw [e] at hreg;exact absurd hreg (by decide)
 have n40:bs.getD f 0≠40:=fun e=>by rw [e] at hreg;exact absurd hreg (by decide)
 have n47:bs.getD f 0≠47:=fun e=>by rw [e] at hreg;exact absurd hreg (by decide)
 have e91:=zat n91 91 rfl
 have e93:=zat n93 93 rfl
 have e60:=zat n60 60 rfl
 have e62:=zat n62 62 rfl
 have e40:=zat n40 40 rfl
 have e47:=zat n47 47 rfl
 obtain ⟨b,off,R,r,x,rfl,hbW,hx,hR,hRL,hrr,hcap,hcm,hkd,hkd2,hff,hffn,hfi,hf9,hrl,hS,hRN,hc,hcf,hZ,hB0⟩:=zaA hr hn hk0 hk1 hf hfl
 have HRW:=Lib.hid hr
 have HC:=Lib.hid hc
 have HS:=Lib.hid hS
 have HRN:=Lib.hid hRN
 have HRR:=Lib.hid hR
 have HRL:=Lib.hid hRL
 have HRE:=Lib.hid hrr
 have HZ:=Lib.hid hZ
 have HB0:=Lib.hid hB0
 clear hS hRN hRL hZ hB0
 have HDL:=Lib.hid (fun W=>zaL (bs.getD f 0).toNat W)
 rw [←zbW,hdl] at HDL
 rw [hx] at HDL e91 e93 e60 e62 e40 e47
 clear n91 n93 n60 n62 n40 n47 hdl hreg
 rw [←hR] at HT
 have hRt:(bs.drop f).take (R-f)=regs (bs.drop f):=by rw [za7,hR,Nat.add_sub_cancel_left]
 have HRT:=Lib.hid hRt
 have hrt:=zbh (bs.drop f)
 have hRf:f≤R:=by omega
 have hRl2:R≤bs.length:=HRL.out
 have hcf1:¬cap=f:=by omega
 have HRlen:=Lib.hid (show (regs (bs.drop f)).length≤400000 by show runN _≤_;omega)
 clear hRt hrt
 rw [hx] at hd
 have d1:decide ((48:Int)≤x)=true:=decide_eq_true (by omega)
 have d2:decide ((x:Int)≤57)=false:=decide_eq_false (by omega)
 have e43:((x:Int)==43)=false:=by rw [beq_eq_false_iff_ne];omega
 have e45:((x:Int)==45)=false:=by rw [beq_eq_false_iff_ne];omega
 have e46:((x:Int)==46)=false:=by rw [beq_eq_false_iff_ne];omega
 clear hd
 obtain rfl:R=bs.length:=hR.trans h1
 clear h1
 clear hr hf hR hrr hrl hk0 hk1 hc hV hx
 go_enter Tryz.func44,Tryz.ntmps44
 go_wp2_with fail
 refine (HS.out _ HB0.out).mono ?_
 rintro e w' ⟨rfl,rfl⟩
 rw [←HRE.out]
 generalize w.alloc _=W1 at *
 obtain ⟨hcj1,hcj,hbn,hbl,hX⟩:=zau hbW HRE.out HB0.out hcf HZ.out
 have HX:=Lib.hid hX
 clear hcf hX
 go_wp2_with fail
 refine (HRN.out _ HX.out.bel).mono ?_
 rintro e w' ⟨rfl,rfl⟩
 clear hcj1 hcj hbn hbl
 generalize W1.alloc _=W2 at *
 generalize W1.heap.size=p at *
 clear HZ HB0
 have hcv:(convert 24 9 (.slice (some ⟨b,off+f,none⟩) (bs.length-f) (cap-f))).run Tryz.prog W2=.ok (.string (mkB ((bs.drop f).take (bs.length-f)))) W2:=zaR (X:=⟨none,0,bs,true⟩) HC.out f (bs.length-f) (by have:=HRL.out;show f+_≤bs.length;omega) W2 HX.out.bel
 rw [HRT.out] at hcv
 have HV:=Lib.hid (HVV.out.trans (za2 HFL.out rfl (x:={ kind:=6,s:=regs (bs.drop f) }) (j:=bs.length) HT.out HRL.out))
 obtain ⟨⟨k0,k1,k2,k3,k4,k5,k6,k7⟩,m0,m1,m2,m3,m4,m5,m6,m7⟩:=zaf HX.out.blk
 obtain ⟨⟨n0,n1,n2,n3,n4,n5,n6,n7⟩,-⟩:=zaf HX.out.no
 go_wp2_with (go_at_call 73;refine (HDL.out _).mono ?_;rintro e w' ⟨rfl,rfl⟩)
 refine bodyPost_ret (zaa rfl _ _ r 91 _ (0,0) _ rfl (set8 HX.out.blk _ _ _ _ _ _ _ _) Tryz.underlying91 rfl zaq _ rfl) rfl ?_
 exact zar (x:={ kind:=6,s:=regs (bs.drop f) }) HX.out.bel HX.out.wr HV.out _ _ _ _ _ _ _ _
theorem rnext_out {w:World} {a:Option Addr} {cap n:Nat} {k:Int} (last:Bool) (_:(n:Int)≤9223372036854775807) (h:k<0∨(n:Int)<k) {V:Tk×Int×Int×Int} (hV:V=({ kind:=0 },0,0,2)) :
   Calls Tryz.prog 44 #[.slice a n cap,.int .i64 k,.bool last] w (zax w V):=by
 have HV:=Lib.hid hV
 have HZ:=Lib.hid (show (w.alloc (.cells #[.int .i64 0,.int .i64 0,.int .i64 0,.int .i64 0,.int .i64 0,.string ⟨#[]⟩,.slice none 0 0,.string ⟨#[]⟩] 91)).heap[w.heap.size]?=some (.cells #[.int .i64 0,.int .i64 0,.int .i64 0,.int .i64 0,.int .i64 0,.string ⟨#[]⟩,.slice none 0 0,.string ⟨#[]⟩] 91 (0,0)) from zac _ rfl)
 have HB0:=Lib.hid (zam w (.cells #[.int .i64 0,.int .i64 0,.int .i64 0,.int .i64 0,.int .i64 0,.string ⟨#[]⟩,.slice none 0 0,.string ⟨#[]⟩] 91))
 clear hV
 by_cases hk0:k<0
 · have hkd:decide (k<0)=true:=decide_eq_true hk0
   clear h
   go_enter Tryz.func44,Tryz.ntmps44
   go_wp2
   refine bodyPost_ret (zaa rfl _ _ w.heap.size 91 _ (0,0) _ rfl (zac _ rfl) Tryz.underlying91 rfl (by exact zaq) _ rfl) rfl ?_
   rw [HV.out]
   exact ⟨rfl,zam _ _⟩
 · have hk1 : (n : Int) < k := by omega
   have hkd:decide (k<0)=false:=decide_eq_false hk0
   have hkd2:decide ((n:Int)<k)=true:=decide_eq_true hk1
   clear h hk0 hk1
   go_enter Tryz.func44,Tryz.ntmps44
   go_wp2
   refine bodyPost_ret (zaa rfl _ _ w.heap.size 91 _ (0,0) _ rfl (zac _ rfl) Tryz.underlying91 rfl (by exact zaq) _ rfl) rfl ?_
   rw [HV.out]
   exact ⟨rfl,zam _ _⟩
theorem rnext_end {w:World} {a:Option Addr} {cap:Nat} {bs:List UInt8} (hr:Row w 1 a bs.length cap (bs.map u8C)) (hn:bs.length≤400000) {k:Int} (last:Bool) (hk0:0≤k) (hk1:k≤bs.length) (hf:zaF bs k=bs.length) {V:Tk×Int×Int×Int} (hV:V=zbf bs bs.length last) :
   Calls Tryz.prog 44 #[.slice a bs.length cap,.int .i64 k,.bool last] w (zax w V):=by
 rw [zdv last (by simp)] at hV
 have HV:=Lib.hid hV
 have HRW:=Lib.hid hr
 have hcm:=hr.i64c
 have hkd:decide (k<0)=false:=decide_eq_false (by omega)
 have hkd2:decide ((bs.length:Int)<k)=false:=decide_eq_false (by omega)
 have HS:=Lib.hid (fun (W:World) (h:Below w.heap.size w W)=>rskip_any (HRW.out.mono h) hn k)
 rw [hf] at HS
 obtain ⟨r,hrr⟩:∃r,r=w.heap.size:=⟨_,rfl⟩
 have HRE:=Lib.hid hrr
 have HZ:=Lib.hid (show (w.alloc (.cells #[.int .i64 0,.int .i64 0,.int .i64 0,.int .i64 0,.int .i64 0,.string ⟨#[]⟩,.slice none 0 0,.string ⟨#[]⟩] 91)).heap[r]?=some (.cells #[.int .i64 0,.int .i64 0,.int .i64 0,.int .i64 0,.int .i64 0,.string ⟨#[]⟩,.slice none 0 0,.string ⟨#[]⟩] 91 (0,0)) from zac _ hrr)
 have HB0:=Lib.hid (zam w (.cells #[.int .i64 0,.int .i64 0,.int .i64 0,.int .i64 0,.int .i64 0,.string ⟨#[]⟩,.slice none 0 0,.string ⟨#[]⟩] 91))
 clear hr hf hrr hk0 hk1 hV
 generalize bs.length=f at *
 go_enter Tryz.func44,Tryz.ntmps44
 go_wp2_with fail
 refine (HS.out _ HB0.out).mono ?_
 rintro e w' ⟨rfl,rfl⟩
 rw [←HRE.out]
 generalize w.alloc _=W1 at *
 have HX:=Lib.hid (show Rx w r W1.heap.size f (W1.alloc (.cells #[.int .i64 0,.int .i64 f,.int .i64 f,.int .i64 0,.int .i64 0,.string ⟨#[]⟩,.slice none 0 0,.string ⟨#[]⟩] 91)) from ⟨zao _ HZ.out,zac _ rfl,HB0.out.alloc HB0.out.size _,by rw [HRE.out];exact Nat.le_refl _⟩)
 obtain ⟨⟨k0,k1,k2,k3,k4,k5,k6,k7⟩,m0,m1,m2,m3,m4,m5,m6,m7⟩:=zaf HX.out.blk
 obtain ⟨⟨n0,n1,n2,n3,n4,n5,n6,n7⟩,-⟩:=zaf HX.out.no
 cases last
 · go_wp2
   refine bodyPost_ret (zaa rfl _ _ r 91 _ (0,0) _ rfl (set8 HX.out.blk _ _ _ _ _ _ _ _) Tryz.underlying91 rfl zaq _ rfl) rfl ?_
   exact zar (x:={ kind:=0 }) HX.out.bel HX.out.wr HV.out _ _ _ _ _ _ _ _
 · go_wp2
   refine bodyPost_ret (zaa rfl _ _ r 91 _ (0,0) _ rfl (set8 HX.out.blk _ _ _ _ _ _ _ _) Tryz.underlying91 rfl zaq _ rfl) rfl ?_
   exact zar (x:={ kind:=0 }) HX.out.bel HX.out.wr HV.out _ _ _ _ _ _ _ _
theorem zbR {w:World} {a:Option Addr} {cap:Nat} {bs:List UInt8} (hr:Row w 1 a bs.length cap (bs.map u8C)) (hn:bs.length≤400000) (k:Int) (last:Bool) :
   Calls Tryz.prog 44 #[.slice a bs.length cap,.int .i64 k,.bool last] w (zax w (zai bs k last)):=by
 by_cases hk:k<0∨(bs.length:Int)<k
 · exact rnext_out last hr.i64 hk (by unfold zai;rw [if_pos hk])
 have hk0:0≤k:=by omega
 have hk1:k≤bs.length:=by omega
 have hV:=zc2 (bs:=bs) last hk0 hk1
 have hfle:=(zew hk0 hk1).2
 have hsh:=fun f hf hl=>skip_here (bs:=bs) (f:=f) hk0 hk1 hf hl
 rw [hV]
 obtain ⟨f,hf⟩:∃f,zaF bs k=f:=⟨_,rfl⟩
 by_cases hfe:f=bs.length
 · subst hfe
   exact rnext_end hr hn last hk0 hk1 hf (by rw [hf])
 have hfl:f<bs.length:=by omega
 obtain ⟨h37,hsp⟩:=hsh f hf hfl
 have hV2:zbf bs (zaF bs k) last=zbf bs f last:=by rw [hf]
 clear hV hsh
 by_cases hrg:isRg (bs.getD f 0)=true
 · by_cases he:f+runN (bs.drop f)=bs.length
   · cases last with
     | false=>exact zgt hr hn false hk0 hk1 hf hfl hV2 hrg he rfl
     | true =>
       by_cases h43:bs.getD f 0=43
       · exact rnext_43_end hr hn true hk0 hk1 hf hfl hV2 hrg he rfl h43
       by_cases h45:bs.getD f 0=45
       · exact rnext_45_end hr hn true hk0 hk1 hf hfl hV2 hrg he rfl h45
       by_cases h46:bs.getD f 0=46
       · exact rnext_46_end hr hn true hk0 hk1 hf hfl hV2 hrg he rfl h46
       by_cases hlo:(bs.getD f 0).toNat<48
       · exact zgs hr hn true hk0 hk1 hf hfl hV2 hrg he rfl ⟨hlo,h43,h45,h46⟩
       by_cases hhi:57<(bs.getD f 0).toNat
       · exact zfq hr hn true hk0 hk1 hf hfl hV2 hrg he rfl hhi
       exact zeD hr hn true hk0 hk1 hf hfl hV2 hrg he rfl ⟨by omega,by omega⟩
   · by_cases h43:bs.getD f 0=43
     · exact rnext_43_in hr hn last hk0 hk1 hf hfl hV2 hrg he h43
     by_cases h45:bs.getD f 0=45
     · exact rnext_45_in hr hn last hk0 hk1 hf hfl hV2 hrg he h45
     by_cases h46:bs.getD f 0=46
     · exact rnext_46_in hr hn last hk0 hk1 hf hfl hV2 hrg he h46
     by_cases hlo:(bs.getD f 0).toNat<48
     · exact rnext_low_in hr hn last hk0 hk1 hf hfl hV2 hrg he ⟨hlo,h43,h45,h46⟩
     by_cases hhi:57<(bs.getD f 0).toNat
     · exact zgk hr hn last hk0 hk1 hf hfl hV2 hrg he hhi
     exact zft hr hn last hk0 hk1 hf hfl hV2 hrg he ⟨by omega,by omega⟩
 have hdl:isDl (bs.getD f 0)=true:=by
   unfold isRg at hrg
   rw [hsp] at hrg
   simpa using hrg
 by_cases h91:bs.getD f 0=91
 · exact rnext_91 hr hn last hk0 hk1 hf hfl hV2 h91
 by_cases h93:bs.getD f 0=93
 · exact rnext_93 hr hn last hk0 hk1 hf hfl hV2 h93
 by_cases h60:bs.getD f 0=60
 · by_cases h1:f+1<bs.length
   · by_cases h2:bs.getD (f+1) 0=60
     · exact rnext_6060 hr hn last hk0 hk1 hf hfl hV2 h60 h1 h2
     · exact rnext_hex hr hn last hk0 hk1 hf hfl hV2 h60 h1 h2
   · exact rnext_hexend hr hn last hk0 hk1 hf hfl hV2 h60 h1
 by_cases h62:bs.getD f 0=62
 · by_cases h1:f+1<bs.length
   · by_cases h2:bs.getD (f+1) 0=62
     · exact rnext_6262 hr hn last hk0 hk1 hf hfl hV2 h62 h1 h2
     · exact rnext_62form hr hn last hk0 hk1 hf hfl hV2 h62 h1 h2
   · cases last with
     | false=>exact rnext_62more hr hn false hk0 hk1 hf hfl hV2 h62 (by omega) rfl
     | true=>exact rnext_62last hr hn true hk0 hk1 hf hfl hV2 h62 (by omega) rfl
 by_cases h40:bs.getD f 0=40
 · exact rnext_text hr hn last hk0 hk1 hf hfl hV2 h40
 by_cases h47:bs.getD f 0=47
 · by_cases h1:f+1+runN (bs.drop (f+1))=bs.length
   · cases last with
     | false=>exact zfr hr hn false hk0 hk1 hf hfl hV2 h47 h1 rfl
     | true =>
       by_cases hcap:cap=f+1
       · exact zgb hr hn true hk0 hk1 hf hfl hV2 h47 rfl hcap
       · exact zfo hr hn true hk0 hk1 hf hfl hV2 h47 (fun _ h=>by cases h) h1 rfl hcap
   · by_cases hcap:cap=f+1
     · exfalso
       have h2:=hr.2.1
       apply h1
       rw [za9 (by omega)]
       show f+1+0=_
       omega
     · exact rnext_name hr hn last hk0 hk1 hf hfl hV2 h47 (fun h _=>h1 h) h1 hcap
 exact rnext_dl hr hn last hk0 hk1 hf hfl hV2 hdl h91 h93 h60 h62 h40 h47
theorem zfm (x : Tk) (f t : Int) (w : World) : Calls Tryz.prog 66 #[.agg (tokN x f t)] w fun e w' => e = .returned (.bool (zaC x)) ∧ Below w.heap.size w w' := by
 unfold tokN zaC
 generalize x.kind=a0 at *
 generalize x.vk=a1 at *
 generalize x.vn=a2 at *
 generalize mkB x.vs=s1 at *
 generalize mkB x.s=s2 at *
 cases h0:(a0==1)
 · go_enter Tryz.func66,Tryz.ntmps66
   go_wp2
   go_ret
   exact ⟨rfl,zam w _⟩
 · go_enter Tryz.func66,Tryz.ntmps66
   go_wp2
   go_ret
   exact ⟨rfl,zam w _⟩
theorem rref_any {w:World} {a:Option Addr} {cap:Nat} {bs:List UInt8} (hr:Row w 1 a bs.length cap (bs.map u8C)) (hn:bs.length≤400000) (k:Int) (last:Bool) (n:Int) :
   Calls Tryz.prog 111 #[.slice a bs.length cap,.int .i64 k,.bool last,.int .i64 n] w fun e w' =>
     e=.returned (.tuple #[.bool (refD bs last k n).1,.int .i64 (refD bs last k n).2.1,.int .i64 (refD bs last k n).2.2])∧Below w.heap.size w w':=by
 have HN:=Lib.hid (zbR hr hn k last)
 have HN2:=Lib.hid (fun (W:World) (h:Below w.heap.size w W)=>zbR (hr.mono h) hn (zai bs k last).2.2.1 last)
 have HWH:=Lib.hid (fun (W:World)=>zfm (zai bs k last).1 (zai bs k last).2.1 (zai bs k last).2.2.1 W)
 obtain ⟨R,hR⟩:∃R,R=refD bs last k n:=⟨_,rfl⟩
 rw [←hR]
 unfold refD at hR
 simp only at hR
 clear hr hn
 generalize zai bs (zai bs k last).2.2.1 last=V2 at *
 generalize zai bs k last=V at *
 obtain ⟨x,f,t,er⟩:=V
 obtain ⟨y,f2,t2,er2⟩:=V2
 simp only at hR HN2 HWH
 unfold zax tokN at HN HN2
 unfold tokN at HWH
 simp only at HN HN2
 have HYS:=zbI y.s [82]
 have HR:=Lib.hid hR
 have HYQ:=Lib.hid HYS
 clear hR HYS
 generalize x.kind=a0 at *
 generalize x.vk=a1 at *
 generalize x.vn=a2 at *
 generalize mkB x.vs=s1 at *
 generalize mkB x.s=s2 at *
 generalize zaC x=wh at *
 generalize y.kind=b0 at *
 generalize y.vk=b1 at *
 generalize y.vn=b2 at *
 generalize mkB y.vs=u1 at *
 generalize mkB y.s=u2 at *
 generalize y.s=ys at *
 generalize bs.length=L at *
 go_enter Tryz.func111,Tryz.ntmps111
 go_wp2_with fail
 refine HN.out.mono ?_
 rintro e w1 ⟨rfl,hb1⟩
 have HB:=Lib.hid (hb1.alloc hb1.size (.cells #[.int .i64 a0,.int .i64 f,.int .i64 t,.int .i64 a1,.int .i64 a2,.string s1,.slice none 0 0,.string s2] 91))
 have HK:=Lib.hid (zac (w:=w1) (b:=w1.heap.size) (.cells #[.int .i64 a0,.int .i64 f,.int .i64 t,.int .i64 a1,.int .i64 a2,.string s1,.slice none 0 0,.string s2] 91) rfl)
 clear hb1 HN
 by_cases h6:er=6
 · subst h6
   have hR:=HR.out
   rw [if_pos rfl] at hR
   subst hR
   clear HR HK HN2 HWH HYQ
   go_wp2
   go_ret3
   exact ⟨rfl,HB.out⟩
 have e6:(er==6)=false:=by rw [beq_eq_false_iff_ne];exact h6
 by_cases h0:er=0
 case neg =>
   have e0:(er==0)=false:=by rw [beq_eq_false_iff_ne];exact h0
   have e1:(er != 0)=true:=by simp only [bne,e0,Bool.not_false]
   have hR:=HR.out
   rw [if_neg h6,if_pos (.inl h0)] at hR
   subst hR
   clear HR HK HN2 HWH HYQ h6 h0
   go_wp2
   go_ret3
   exact ⟨rfl,HB.out⟩
 subst h0
 obtain ⟨r1,hr1⟩:∃r1,r1=w1.heap.size:=⟨_,rfl⟩
 rw [←hr1] at HK
 obtain ⟨W1,hW1⟩:∃W1,W1=w1.alloc (.cells #[.int .i64 a0,.int .i64 f,.int .i64 t,.int .i64 a1,.int .i64 a2,.string s1,.slice none 0 0,.string s2] 91):=⟨_,rfl⟩
 rw [←hW1] at HK HB
 clear h6
 have HW1:=Lib.hid hW1
 have HR1:=Lib.hid hr1
 clear hW1 hr1
 cases wh with
 | false =>
   have hR:=HR.out
   rw [if_neg (by decide),if_pos (.inr rfl)] at hR
   subst hR
   clear HR HN2 HYQ
   go_upto_region 2 with fail
   rw [←HW1.out,←HR1.out]
   obtain ⟨⟨k0,k1,k2,k3,k4,k5,k6,k7⟩,-⟩:=zaf HK.out
   go_wp2_with fail
   refine (HWH.out _).mono ?_
   rintro e w2 ⟨rfl,hb2⟩
   have HB2:=Lib.hid (HB.out.trans (hb2.mono HB.out.size))
   clear hb2 k0 k1 k2 k3 k4 k5 k6 k7
   go_wp2
   go_ret3
   exact ⟨rfl,HB2.out⟩
 | true =>
   have hR:=HR.out
   rw [if_neg (by decide),if_neg (by simp)] at hR
   have HR:=Lib.hid hR
   clear hR
   go_upto_region 2 with fail
   rw [←HW1.out,←HR1.out]
   obtain ⟨⟨k0,k1,k2,k3,k4,k5,k6,k7⟩,-⟩:=zaf HK.out
   go_wp2_with fail
   refine (HWH.out _).mono ?_
   rintro e w2 ⟨rfl,hb2⟩
   have HB2:=Lib.hid (HB.out.trans (hb2.mono HB.out.size))
   have HK2:=Lib.hid (zab hb2 HK.out)
   clear hb2 k0 k1 k2 k3 k4 k5 k6 k7 HK HW1 HR1 HB HWH
   obtain ⟨⟨k0,k1,k2,k3,k4,k5,k6,k7⟩,-⟩:=zaf HK2.out
   go_wp2_with fail
   refine (HN2.out _ HB2.out).mono ?_
   rintro e w3 ⟨rfl,hb3⟩
   have hb3a:=hb3.alloc hb3.size (.cells #[.int .i64 b0,.int .i64 f2,.int .i64 t2,.int .i64 b1,.int .i64 b2,.string u1,.slice none 0 0,.string u2] 91)
   have HB3:=Lib.hid (HB2.out.trans (hb3a.mono HB2.out.size))
   have HK3:=Lib.hid (zab hb3a HK2.out)
   have HKN:=Lib.hid (zac (w:=w3) (b:=w3.heap.size) (.cells #[.int .i64 b0,.int .i64 f2,.int .i64 t2,.int .i64 b1,.int .i64 b2,.string u1,.slice none 0 0,.string u2] 91) rfl)
   clear hb3 hb3a k0 k1 k2 k3 k4 k5 k6 k7 HK2 HB2 HN2
   by_cases h6:er2=6
   · subst h6
     have hR:=HR.out
     rw [if_pos rfl] at hR
     subst hR
     clear HR HK3 HKN HYQ
     go_wp2
     go_ret3
     exact ⟨rfl,HB3.out⟩
   have e6:(er2==6)=false:=by rw [beq_eq_false_iff_ne];exact h6
   by_cases h0:er2=0
   case neg =>
     have e0:(er2==0)=false:=by rw [beq_eq_false_iff_ne];exact h0
     have e1:(er2 != 0)=true:=by simp only [bne,e0,Bool.not_false]
     have hR:=HR.out
     rw [if_neg h6,if_pos (.inl h0)] at hR
     subst hR
     clear HR HK3 HKN HYQ h6 h0
     go_wp2
     go_ret3
     exact ⟨rfl,HB3.out⟩
   subst h0
   obtain ⟨r3,hr3⟩:∃r3,r3=w3.heap.size:=⟨_,rfl⟩
   rw [←hr3] at HKN
   obtain ⟨W3,hW3⟩:∃W3,W3=w3.alloc (.cells #[.int .i64 b0,.int .i64 f2,.int .i64 t2,.int .i64 b1,.int .i64 b2,.string u1,.slice none 0 0,.string u2] 91):=⟨_,rfl⟩
   rw [←hW3] at HK3 HKN HB3
   have HW3:=Lib.hid hW3
   have HR3:=Lib.hid hr3
   clear h6 hW3 hr3
   by_cases hc:b0=6
   case neg =>
     have c1:(b0==6)=false:=by rw [beq_eq_false_iff_ne];exact hc
     have c2:(b0 != 6)=true:=by simp only [bne,c1,Bool.not_false]
     have hR:=HR.out
     rw [if_neg (by decide),if_pos (.inr (.inl hc))] at hR
     subst hR
     clear HR hc HYQ HK3
     go_upto_region 7 with fail
     rw [←HW3.out,←HR3.out]
     obtain ⟨⟨k0,k1,k2,k3,k4,k5,k6,k7⟩,-⟩:=zaf HKN.out
     go_wp2
     go_ret3
     exact ⟨rfl,HB3.out⟩
   subst hc
   have hyq:=HYQ.out
   by_cases hs:ys=[82]
   case neg =>
     rw [decide_eq_false hs] at hyq
     have c2:(u2.toList != [82])=true:=by simp only [bne,hyq,Bool.not_false]
     have hR:=HR.out
     rw [if_neg (by decide),if_pos (.inr (.inr hs))] at hR
     subst hR
     clear HR hs HYQ HK3
     go_upto_region 7 with fail
     rw [←HW3.out,←HR3.out]
     obtain ⟨⟨k0,k1,k2,k3,k4,k5,k6,k7⟩,-⟩:=zaf HKN.out
     go_wp2
     go_ret3
     exact ⟨rfl,HB3.out⟩
   rw [decide_eq_true hs] at hyq
   have c2:(u2.toList != [82])=false:=by simp only [bne,hyq,Bool.not_true]
   have hR:=HR.out
   rw [if_neg (by decide),if_neg (by rintro (h|h|h);exact h rfl;exact h rfl;exact h hs)] at hR
   have HR:=Lib.hid hR
   clear hR hs HYQ
   go_upto_region 7 with fail
   rw [←HW3.out,←HR3.out]
   obtain ⟨⟨k0,k1,k2,k3,k4,k5,k6,k7⟩,-⟩:=zaf HKN.out
   obtain ⟨⟨m0,m1,m2,m3,m4,m5,m6,m7⟩,-⟩:=zaf HK3.out
   have hR:=HR.out
   by_cases q1:n<1
   · have d1:decide (n<1)=true:=decide_eq_true q1
     rw [if_pos (.inl q1)] at hR
     subst hR
     clear HR q1
     go_wp2
     go_ret3
     exact ⟨rfl,HB3.out⟩
   have d1:decide (n<1)=false:=decide_eq_false q1
   by_cases q2:4096<n
   · have d2:decide (4096<n)=true:=decide_eq_true q2
     rw [if_pos (.inr (.inl q2))] at hR
     subst hR
     clear HR q1 q2
     go_wp2
     go_ret3
     exact ⟨rfl,HB3.out⟩
   have d2:decide (4096<n)=false:=decide_eq_false q2
   by_cases q3:a2=0
   case neg =>
     have d3:(a2==0)=false:=by rw [beq_eq_false_iff_ne];exact q3
     have d4:(a2 != 0)=true:=by simp only [bne,d3,Bool.not_false]
     rw [if_pos (.inr (.inr q3))] at hR
     subst hR
     clear HR q1 q2 q3
     go_wp2
     go_ret3
     exact ⟨rfl,HB3.out⟩
   subst q3
   rw [if_neg (by rintro (h|h|h);exact q1 h;exact q2 h;exact h rfl)] at hR
   subst hR
   clear HR q1 q2
   go_wp2
   go_quiet (fail)
   go_wp2
   go_ret3
   exact ⟨rfl,zag HB3.out _⟩
end Go.Proofs.YtkhcjoomijkfbaaGreatDoor
namespace Go.Proofs.YtkhcjoomijkfbaaGreatDoor
open Go.RowKit
def ptrs (gs:List Nat):List Value:=gs.reverse.map fun g=>.pointer (some ⟨g,0,none⟩)
def Lvs (w:World) (B:Nat) (F:Nat→Prop):(Nat→Prop)→List Lv→List Nat→Prop
 | _,[],gs=>gs=[]
 | G, v :: st, gs => ∃ g t sl cs, gs = g :: t ∧ B ≤ g ∧ ¬ G g ∧ w.heap[g]? = some (.cells #[.bool v.dict, sl] 168 (0, 0)) ∧ w.ownsRow B 48 4 sl v.l.length cs ∧ IsVs w F v.l cs ∧
     (∀b,sl.ownBlock=some b→¬F b∧¬G b)∧Lvs w B F (fun b=>G b∨b=g∨sl.ownBlock=some b) st t
theorem zby {w w':World} {base e sz:Nat} {v:Value} {n:Nat} {xs:List Value} (h:w.ownsRow base e sz v n xs) (hk:∀b,v.ownBlock=some b→w'.heap[b]?=w.heap[b]?):w'.ownsRow base e sz v n xs:=by
 obtain ⟨h1,h2⟩:=h
 refine ⟨h1,?_⟩
 rcases h2 with h2|⟨g,cap,cur,hv,hg,hh,r⟩
 · exact .inl h2
 · exact .inr ⟨g,cap,cur,hv,hg,by rw [hk g (by rw [hv];rfl)];exact hh,r⟩
theorem zaT {w:World} {base e sz:Nat} {v:Value} {n:Nat} {xs:List Value} (h:w.ownsRow base e sz v n xs) {b:Nat} (hb:v.ownBlock=some b):∃cs,w.heap[b]?=some (.cells cs e (0,0)):=by
 rcases h.2 with ⟨rfl,_⟩|⟨g,cap,cur,rfl,hg,hh,r⟩
 · cases hb
 · cases hb;exact ⟨cur,hh⟩
theorem zbi {w:World} {base e sz:Nat} {v:Value} {n:Nat} {xs:List Value} (h:w.ownsRow base e sz v n xs):∃a cap,v=.slice a n cap∧n≤cap∧cap≤maxLen:=by
 obtain ⟨a,cap,rfl,hr,_⟩:=Row.of_owns h
 exact ⟨a,cap,rfl,hr.2.1,hr.2.2.1⟩
theorem zaj {w:World} {b:Nat} {o:Obj} (h:w.heap[b]?=some o):b<w.heap.size:=(Array.getElem?_eq_some_iff.1 h).1
theorem zbj {w:World} {b c:Nat} {x y:Array Value} {t u:TypeId} {f1 f2:Nat×Nat} (hb:w.heap[b]?=some (.cells x t f1)) (hc:w.heap[c]?=some (.cells y u f2)) (h:t≠u):b≠c:=by
 rintro rfl
 rw [hb] at hc
 injection hc with hc
 injection hc with _ h2 _
 exact h h2
def IsLV (w:World) (b:Nat):Prop:=(∃cs,w.heap[b]?=some (.cells cs 168 (0,0)))∨∃cs,w.heap[b]?=some (.cells cs 48 (0,0))
theorem Lvs.keep' {w w':World} {B:Nat} {F F':Nat→Prop} (hF:za4 F w w') (hFF:∀b,F b→F' b):∀ {st:List Lv} {G G':Nat→Prop} {gs:List Nat},Lvs w B F G st gs →
   (∀b,b<w.heap.size→¬G b→IsLV w b→w'.heap[b]?=w.heap[b]?)→(∀b,F' b→F b∨G b∨w.heap.size≤b)→(∀b,G' b→G b∨w.heap.size≤b)→Lvs w' B F' G' st gs
 | [],_,_,_,h,_,_,_=>h
 | v :: st, G, G', _, ⟨g, t, sl, cs, h1, h2, h3, h4, h5, h6, h7, h8⟩, hg, hF', hG' => by
   have hgl:=zaj h4
   have hbl:∀b,sl.ownBlock=some b→b<w.heap.size:=fun b hb=>(h5.lt b hb).2
   refine ⟨g,t,sl,cs,h1,h2,fun h=>?_,?_,zby h5 fun b hb=>hg b (hbl b hb) (h7 b hb).2 (.inr (zaT h5 hb)),IsVs.keep hF hFF _ h6,fun b hb=>⟨fun h=>?_,fun h=>?_⟩,?_⟩
   · rcases hG' g h with h|h
     · exact h3 h
     · omega
   · rw [hg g hgl h3 (.inl ⟨_,h4⟩)];exact h4
   · rcases hF' b h with h|h|h
     · exact (h7 b hb).1 h
     · exact (h7 b hb).2 h
     · have:=hbl b hb;omega
   · rcases hG' b h with h|h
     · exact (h7 b hb).2 h
     · have:=hbl b hb;omega
   · refine Lvs.keep' hF hFF h8 (fun b hb hn => hg b hb fun h => hn (.inl h)) (fun b h => ?_) (fun b h => ?_)
     · rcases hF' b h with h|h|h
       · exact .inl h
       · exact .inr (.inl (.inl h))
       · exact .inr (.inr h)
     · rcases h with h|h|h
       · rcases hG' b h with h|h
         · exact .inl (.inl h)
         · exact .inr h
       · exact .inl (.inr (.inl h))
       · exact .inl (.inr (.inr h))
theorem Lvs.keep {w w':World} {B:Nat} {F F':Nat→Prop} (hF:za4 F w w') (hFF:∀b,F b→F' b) {st:List Lv} {G G':Nat→Prop} {gs:List Nat} (h:Lvs w B F G st gs)
   (hg:∀b,b<w.heap.size→¬G b→w'.heap[b]?=w.heap[b]?) (hF':∀b,F' b→F b∨G b∨w.heap.size≤b) (hG':∀b,G' b→G b∨w.heap.size≤b):Lvs w' B F' G' st gs :=
 h.keep' hF hFF (fun b h1 h2 _=>hg b h1 h2) hF' hG'
theorem Lvs.len {w:World} {B:Nat} {F:Nat→Prop}:∀ {st:List Lv} {G:Nat→Prop} {gs:List Nat},Lvs w B F G st gs→gs.length=st.length
 | [],_,_,h=>by cases h;rfl
 | _::_,_,_,⟨_,_,_,_,h1,_,_,_,_,_,_,h8⟩=>by subst h1;simp [h8.len]
structure zav (w0 w:World) (F G:Nat→Prop) (p:Nat) (a:Option Addr) (cap:Nat) (bs:List UInt8) (last:Bool) (st:List Lv) (at_:Int) (gs:List Nat) (osl:Value):Prop where
 blk:w.heap[p]?=some (.cells #[.slice a bs.length cap,.int .i64 at_,.bool last,osl] 161 (0,0))
 base:w0.heap.size≤p
 gp:¬G p
 own:w.ownsRow w0.heap.size 165 1 osl st.length (ptrs gs)
 go:∀b,osl.ownBlock=some b→¬G b
 lvs:Lvs w w0.heap.size F G st gs
 fb:∀b,F b→w0.heap.size≤b∧¬G b∧∃cs,w.heap[b]?=some (.cells cs 48 (0,0))
 gb:∀b,G b→w0.heap.size≤b∧b<w.heap.size
 bel:Below w0.heap.size w0 w
 row:Row w0 1 a bs.length cap (bs.map u8C)
 small:bs.length≤400000
 deep:st.length≤64
section
variable {w0 w w' : World} {F F' G G' : Nat → Prop} {p : Nat} {a : Option Addr} {cap : Nat} {bs : List UInt8} {last : Bool} {st : List Lv} {at_ : Int} {gs : List Nat} {osl : Value}
theorem zav.lt (h:zav w0 w F G p a cap bs last st at_ gs osl):p<w.heap.size:=zaj h.blk
theorem zav.frame' (h:zav w0 w F G p a cap bs last st at_ gs osl) (hk:zak G w w') (hG':∀b,G' b→G b∨(w.heap.size≤b∧b<w'.heap.size)) (hFF:∀b,F b→F' b) (hF':∀b,F' b→F b∨(w.heap.size≤b∧¬G' b∧∃cs,w'.heap[b]?=some (.cells cs 48 (0,0)))) :
   zav w0 w' F' G' p a cap bs last st at_ gs osl:=by
 have hsz:=h.bel.size
 have hp:=h.lt
 have hFl:∀b,F b→b<w.heap.size:=fun b hb=>by obtain ⟨_,_,cs,hc⟩:=h.fb b hb;exact zaj hc
 have hol:∀b,osl.ownBlock=some b→b<w.heap.size:=fun b hb=>(h.own.lt b hb).2
 refine ⟨by rw [hk.block p hp h.gp];exact h.blk,h.base,fun h1=>?_,zby h.own fun b hb=>hk.block b (hol b hb) (h.go b hb),fun b hb h1=>?_,?_,fun b hb=>?_,fun b hb=>?_,?_,h.row,h.small,h.deep⟩
 · rcases hG' p h1 with h1|h1
   · exact h.gp h1
   · omega
 · rcases hG' b h1 with h1|h1
   · exact h.go b hb h1
   · have:=hol b hb;omega
 · refine h.lvs.keep ⟨hk.size, fun b hb hf => hk.block b hb (h.fb b hf).2.1⟩ hFF (fun b hb hn => hk.block b hb hn) (fun b hb => ?_) (fun b hb => ?_)
   · rcases hF' b hb with h1|h1
     · exact .inl h1
     · exact .inr (.inr h1.1)
   · exact (hG' b hb).imp id fun h=>h.1
 · rcases hF' b hb with h1|⟨h1,h2,h3⟩
   · obtain ⟨h2,h3,cs,h4⟩:=h.fb b h1
     refine ⟨h2,fun h5=>?_,cs,by rw [hk.block b (hFl b h1) h3];exact h4⟩
     rcases hG' b h5 with h5|h5
     · exact h3 h5
     · have:=hFl b h1;omega
   · exact ⟨by omega,h2,h3⟩
 · have:=hk.size
   rcases hG' b hb with h1|h1
   · have:=h.gb b h1;omega
   · omega
 · exact h.bel.trans ⟨hk.os,hk.tape,hk.output,hk.size,fun b hb=>hk.block b (by omega) (fun h1=>by have:=h.gb b h1;omega)⟩
theorem zav.frame (h:zav w0 w F G p a cap bs last st at_ gs osl) (hk:zak G w w') (hG':∀b,G' b→G b∨(w.heap.size≤b∧b<w'.heap.size)):zav w0 w' F G' p a cap bs last st at_ gs osl :=
 h.frame' hk hG' (fun _ h=>h) (fun _ h=>.inl h)
theorem zav.mono (h:zav w0 w F G p a cap bs last st at_ gs osl) (hb:Below w.heap.size w w'):zav w0 w' F G p a cap bs last st at_ gs osl :=
 h.frame ⟨hb.os,hb.tape,hb.output,hb.size,fun b h1 _=>hb.block b h1⟩ (fun _ h=>.inl h)
theorem zav.cells (h:zav w0 w F G p a cap bs last st at_ gs osl):(w.cell? ⟨p,0,none⟩=some (.slice a bs.length cap)∧w.cell? ⟨p,1,none⟩=some (.int .i64 at_)∧w.cell? ⟨p,2,none⟩=some (.bool last)∧w.cell? ⟨p,3,none⟩=some osl) ∧
   (w.frozen? ⟨p,0,none⟩=false∧w.frozen? ⟨p,1,none⟩=false∧w.frozen? ⟨p,2,none⟩=false∧w.frozen? ⟨p,3,none⟩=false):=zae h.blk
theorem zav.notF (h:zav w0 w F G p a cap bs last st at_ gs osl) {b:Nat} (hb:F b):b≠p:=by obtain ⟨_,_,cs,hc⟩:=h.fb b hb;exact zbj hc h.blk (by decide)
theorem zav.setAt (h:zav w0 w F G p a cap bs last st at_ gs osl) (at2:Int):zav w0 (w.setCell ⟨p,1,none⟩ (.int .i64 at2)) F G p a cap bs last st at2 gs osl:=by
 have hk:∀b,b≠p→(w.setCell ⟨p,1,none⟩ (.int .i64 at2)).heap[b]?=w.heap[b]?:=fun b hb=>heap_setCell_other _ _ _ _ hb
 have hs:(w.setCell ⟨p,1,none⟩ (.int .i64 at2)).heap.size=w.heap.size:=by simp [World.setCell]
 have hl:∀ {st:List Lv} {G:Nat→Prop} {gs:List Nat},Lvs w w0.heap.size F G st gs→Lvs (w.setCell ⟨p,1,none⟩ (.int .i64 at2)) w0.heap.size F G st gs:=by
   intro st
   induction st with
   | nil=>exact fun h=>h
   | cons v st ih =>
     rintro G gs ⟨g,t,sl,cs,h1,h2,h3,h4,h5,h6,h7,h8⟩
     exact ⟨g, t, sl, cs, h1, h2, h3, by rw [hk g (zbj h4 h.blk (by decide))]; exact h4, zby h5 fun b hb => hk b (by obtain ⟨cs, hc⟩ := zaT h5 hb; exact zbj hc h.blk (by decide)),
       IsVs.keep ⟨by omega,fun b _ hb=>hk b (h.notF hb)⟩ (fun _ h=>h) _ h6,h7,ih h8⟩
 exact ⟨heap_setCell_same w p 1 _ _ _ h.blk, h.base, h.gp, zby h.own fun b hb => hk b (by obtain ⟨cs, hc⟩ := zaT h.own hb; exact zbj hc h.blk (by decide)), h.go, hl h.lvs, fun b hb => by
   obtain ⟨h1,h2,cs,h3⟩:=h.fb b hb
   exact ⟨h1,h2,cs,by rw [hk b (h.notF hb)];exact h3⟩,fun b hb=>by rw [hs];exact h.gb b hb,h.bel.trans ((Below.refl _ _).setCell h.base _),h.row,h.small,h.deep⟩
theorem zav.drewN (h:zav w0 w F G p a cap bs last st at_ gs osl) (q:Nat):zav w0 (w.drewN q) F G p a cap bs last st at_ gs osl:=h.mono (zag (Below.refl _ _) q)
theorem zav.alloc (h:zav w0 w F G p a cap bs last st at_ gs osl) (o:Obj):zav w0 (w.alloc o) F G p a cap bs last st at_ gs osl:=h.mono (zam w o)
theorem zav.bytes (h:zav w0 w F G p a cap bs last st at_ gs osl):Row w 1 a bs.length cap (bs.map u8C):=h.row.mono h.bel
theorem zav.res (h:zav w0 w F G p a cap bs last st at_ gs osl) (hb:Below w.heap.size w w') (hG':∀b,G' b→G b∨(w.heap.size≤b∧b<w'.heap.size)):zav w0 w' F G' p a cap bs last st at_ gs osl :=
 h.frame ⟨hb.os,hb.tape,hb.output,hb.size,fun b h1 _=>hb.block b h1⟩ hG'
theorem zav.set (h:zav w0 w F G p a cap bs last st at_ gs osl) {r:Nat} (hr:G r) (i:Nat) (v:Value):zav w0 (w.setCell ⟨r,i,none⟩ v) F G p a cap bs last st at_ gs osl :=
 h.frame ((zak.refl G w).setCell (a:=⟨r,i,none⟩) (.inl hr) v) (fun _ h=>.inl h)
theorem zav.set8 (h:zav w0 w F G p a cap bs last st at_ gs osl) {r:Nat} (hr:G r) (y0 y1 y2 y3 y4 y5 y6 y7:Value) :
   zav w0 ((((((((w.setCell ⟨r,0,none⟩ y0).setCell ⟨r,1,none⟩ y1).setCell ⟨r,2,none⟩ y2).setCell ⟨r,3,none⟩ y3).setCell ⟨r,4,none⟩ y4).setCell ⟨r,5,none⟩ y5).setCell ⟨r,6,none⟩ y6).setCell ⟨r,7,none⟩ y7) F G p a cap bs last st at_ gs osl :=
 (((((((h.set hr _ _).set hr _ _).set hr _ _).set hr _ _).set hr _ _).set hr _ _).set hr _ _).set hr _ _
theorem zav.set4 (h:zav w0 w F G p a cap bs last st at_ gs osl) {r:Nat} (hr:G r) (y0 y1 y2 y3:Value) :
   zav w0 ((((w.setCell ⟨r,0,none⟩ y0).setCell ⟨r,1,none⟩ y1).setCell ⟨r,2,none⟩ y2).setCell ⟨r,3,none⟩ y3) F G p a cap bs last st at_ gs osl :=
 (((h.set hr _ _).set hr _ _).set hr _ _).set hr _ _
theorem zav.give (h:zav w0 w F G p a cap bs last st at_ gs osl) (hG:∀b,G' b→G b):zav w0 w F G' p a cap bs last st at_ gs osl:=h.frame (zak.refl G w) fun b hb=>.inl (hG b hb)
end
theorem zaZ {w w':World} {S:Nat→Prop} (h:Below w.heap.size w w'):zak S w w':=⟨h.os,h.tape,h.output,h.size,fun b hb _=>h.block b hb⟩
section
variable {w0 w w' : World} {F G : Nat → Prop} {p : Nat} {a : Option Addr} {cap : Nat} {bs : List UInt8} {last : Bool} {st : List Lv} {at_ : Int}
def Stk (w0 w:World) (F G:Nat→Prop) (p:Nat) (a:Option Addr) (cap:Nat) (bs:List UInt8) (last:Bool) (st:List Lv) (at_:Int):Prop:=∃gs osl,zav w0 w F G p a cap bs last st at_ gs osl
structure Nxt (w0 w:World) (F G:Nat→Prop) (p:Nat) (a:Option Addr) (cap:Nat) (bs:List UInt8) (last:Bool) (st:List Lv) (at_:Int) (F':Nat→Prop) (w':World):Prop where
 stk:Stk w0 w' F' G p a cap bs last st at_
 sg:za4 G w w'
 sf:za4 F w w'
 ff:∀b,F b→F' b
end
end Go.Proofs.YtkhcjoomijkfbaaGreatDoor
namespace Go.Proofs.YtkhcjoomijkfbaaGreatDoor
open Go.RowKit
section
variable {w w' : World} {p q u o0 o1 o2 r : Nat} {x0 x1 x2 : Value}
def S3 (w:World) (p o0:Nat) (x0:Value) (q o1:Nat) (x1:Value) (u o2:Nat) (x2:Value):Prop:=w.cell? ⟨p,o0,none⟩=some x0∧w.cell? ⟨q,o1,none⟩=some x1∧w.cell? ⟨u,o2,none⟩=some x2
theorem S3.below (h:S3 w p o0 x0 q o1 x1 u o2 x2) (hb:Below w.heap.size w w'):S3 w' p o0 x0 q o1 x1 u o2 x2:=⟨cell?_keep hb h.1,cell?_keep hb h.2.1,cell?_keep hb h.2.2⟩
theorem S3.alloc (h:S3 w p o0 x0 q o1 x1 u o2 x2) (o:Obj):S3 (w.alloc o) p o0 x0 q o1 x1 u o2 x2:=h.below (zam w o)
theorem S3.drew (h:S3 w p o0 x0 q o1 x1 u o2 x2):S3 w.drew p o0 x0 q o1 x1 u o2 x2:=h
theorem S3.set8 (h:S3 w p o0 x0 q o1 x1 u o2 x2) (hp:p≠r) (hq:q≠r) (hu:u≠r) (y0 y1 y2 y3 y4 y5 y6 y7:Value) :
   S3 ((((((((w.setCell ⟨r,0,none⟩ y0).setCell ⟨r,1,none⟩ y1).setCell ⟨r,2,none⟩ y2).setCell ⟨r,3,none⟩ y3).setCell ⟨r,4,none⟩ y4).setCell ⟨r,5,none⟩ y5).setCell ⟨r,6,none⟩ y6).setCell ⟨r,7,none⟩ y7) p o0 x0 q o1 x1 u o2 x2 :=
 ⟨(zcv hp _ _ _ _ _ _ _ _ _).trans h.1,(zcv hq _ _ _ _ _ _ _ _ _).trans h.2.1,(zcv hu _ _ _ _ _ _ _ _ _).trans h.2.2⟩
end
structure TkM (w W:World) (r:Nat) (cs:Array Value):Prop where
 bel:Below w.heap.size w W
 blk:W.heap[r]?=some (.cells cs 112 (0,0))
 new:w.heap.size≤r
section
variable {w0 w w' : World} {F F' G : Nat → Prop} {p : Nat} {a : Option Addr} {cap : Nat} {bs : List UInt8} {last : Bool} {st : List Lv} {at_ : Int} {gs : List Nat} {osl : Value}
theorem pnext_any (h:zav w0 w F G p a cap bs last st at_ gs osl):Calls Tryz.prog 95 #[.pointer (some ⟨p,0,none⟩)] w fun e w' =>
   e=.returned (.tuple #[.agg (tokN (zai bs at_ last).1 (zai bs at_ last).2.1 (zai bs at_ last).2.2.1),.int .i64 (zai bs at_ last).2.2.2]) ∧
   zav w0 w' F G p a cap bs last st (if (zai bs at_ last).2.2.2=0 then (zai bs at_ last).2.2.1 else at_) gs osl∧zak (fun b=>b=p) w w':=by
 have HN:=Lib.hid (fun (W:World) (hb:Below w.heap.size w W)=>zdq (h.bytes.mono hb) h.small at_ last)
 generalize zai bs at_ last=V at *
 unfold zax tokN at HN
 obtain ⟨x,f,t,er⟩:=V
 simp only at HN ⊢
 unfold tokN
 generalize x.kind=a0 at *
 generalize x.vk=a1 at *
 generalize x.vn=a2 at *
 generalize mkB x.vs=s1 at *
 generalize mkB x.s=s2 at *
 have HS:=Lib.hid h
 have hpw:=h.lt
 clear h
 go_enter Tryz.func95,Tryz.ntmps95
 go_wp2
 have HB1:=Lib.hid (zam w (.cells #[.int .i64 0,.int .i64 0,.int .i64 0,.int .i64 0,.int .i64 0,.string ⟨#[]⟩,.slice none 0 0,.string ⟨#[]⟩] 112))
 have HS1:=Lib.hid (HS.out.mono HB1.out)
 have HR1:=Lib.hid (zac (w:=w) (b:=w.heap.size) (.cells #[.int .i64 0,.int .i64 0,.int .i64 0,.int .i64 0,.int .i64 0,.string ⟨#[]⟩,.slice none 0 0,.string ⟨#[]⟩] 112) rfl)
 generalize w.alloc _=W1 at *
 obtain ⟨r,hr⟩:∃r,r=w.heap.size:=⟨_,rfl⟩
 have hpr0:p≠r:=by omega
 rw [←hr] at HR1 ⊢
 have HRR:=Lib.hid hr
 clear hr hpw
 obtain ⟨⟨c0,c1,c2,c3⟩,f0,f1,f2,f3⟩:=HS1.out.cells
 have HA1:=Lib.hid (fun o:Obj=>(zam W1 o).drew)
 have HA2:=Lib.hid (fun o:Obj=>HB1.out.trans ((HA1.out o).mono (show w.heap.size≤W1.heap.size from HB1.out.size)))
 have HC0:Hid (S3 W1 p 0 (.slice a bs.length cap) p 1 (.int .i64 at_) p 2 (.bool last)):=Lib.hid ⟨c0,c1,c2⟩
 have hpr:p≠W1.heap.size:=Nat.ne_of_lt HS1.out.lt
 have HR1L:=Lib.hid (show r<W1.heap.size from zaj HR1.out)
 go_region_held3 (fun w' => w'.cell? ⟨p, 0, none⟩ = some (.slice a bs.length cap) ∧ w'.cell? ⟨p, 1, none⟩ = some (.int .i64 at_) ∧ w'.cell? ⟨p, 2, none⟩ = some (.bool last))
   ((show S3 _ p 0 (.slice a bs.length cap) p 1 (.int .i64 at_) p 2 (.bool last);(first
     | (with_reducible exact HC0.out.drew)
     | (with_reducible exact HC0.out)
     | (with_reducible exact (HC0.out.alloc _).drew)
     | (with_reducible exact Hid.out (by assumption))
     | (with_reducible exact S3.alloc (Hid.out (by assumption)) _)
     | (with_reducible exact S3.set8 (Hid.out (by assumption)) hpr hpr hpr _ _ _ _ _ _ _ _))))
   ((go_at_call 56;first
     | ((with_reducible refine (HN.out _ HB1.out.drew).mono ?_);rintro e wN ⟨rfl,hbN⟩;have hbM:Below W1.heap.size W1 wN:=(Below.refl _ _).drew.trans hbN;have HSN:=Lib.hid (HC0.out.below hbM))
     | ((with_reducible refine (HN.out _ (HA2.out _)).mono ?_);rintro e wN ⟨rfl,hbN⟩;have hbM:Below W1.heap.size W1 wN:=(HA1.out _).trans (hbN.mono (HA1.out _).size);have HSN:=Lib.hid (HC0.out.below hbM);have HZ:=Lib.hid (zab hbN (zac (w:=W1) (b:=W1.heap.size) (.cells #[.int .i64 0,.int .i64 0,.int .i64 0,.int .i64 0,.int .i64 0,.string ⟨#[]⟩,.slice none 0 0,.string ⟨#[]⟩] 112) rfl));obtain ⟨⟨z0,z1,z2,z3,z4,z5,z6,z7⟩,y0,y1,y2,y3,y4,y5,y6,y7⟩:=zaf HZ.out)))
 all_goals
   first
     | (obtain ⟨W2,hW2⟩:∃W2,W2=wN.alloc (.cells #[.int .i64 a0,.int .i64 f,.int .i64 t,.int .i64 a1,.int .i64 a2,.string s1,.slice none 0 0,.string s2] 112):=⟨_,rfl⟩
        rw [←hW2]
        have HT:=Lib.hid (show TkM W1 W2 wN.heap.size #[.int .i64 a0,.int .i64 f,.int .i64 t,.int .i64 a1,.int .i64 a2,.string s1,.slice none 0 0,.string s2] from ⟨by rw [hW2];exact hbM.alloc hbM.size _,by rw [hW2];exact zac _ rfl,hbM.size⟩)
        obtain ⟨r2,hr2⟩:∃r2,r2=wN.heap.size:=⟨_,rfl⟩
        rw [←hr2] at HT ⊢)
     | (obtain ⟨W2,hW2⟩:∃W2,W2=((((((((wN.setCell ⟨W1.heap.size,0,none⟩ (.int .i64 a0)).setCell ⟨W1.heap.size,1,none⟩ (.int .i64 f)).setCell ⟨W1.heap.size,2,none⟩ (.int .i64 t)).setCell ⟨W1.heap.size,3,none⟩ (.int .i64 a1)).setCell ⟨W1.heap.size,4,none⟩ (.int .i64 a2)).setCell ⟨W1.heap.size,5,none⟩ (.string s1)).setCell ⟨W1.heap.size,6,none⟩ (.slice none 0 0)).setCell ⟨W1.heap.size,7,none⟩ (.string s2)):=⟨_,rfl⟩
        rw [←hW2]
        have HT:=Lib.hid (show TkM W1 W2 W1.heap.size #[.int .i64 a0,.int .i64 f,.int .i64 t,.int .i64 a1,.int .i64 a2,.string s1,.slice none 0 0,.string s2] from ⟨by rw [hW2];exact zbk hbM (Nat.le_refl _) _ _ _ _ _ _ _ _,by rw [hW2];exact set8 HZ.out _ _ _ _ _ _ _ _,Nat.le_refl _⟩)
        clear z0 z1 z2 z3 z4 z5 z6 z7 y0 y1 y2 y3 y4 y5 y6 y7 HZ
        obtain ⟨r2,hr2⟩:∃r2,r2=W1.heap.size:=⟨_,rfl⟩
        rw [←hr2] at HT ⊢)
   clear hW2 hr2 hbN hbM HSN
   have HS2:=Lib.hid (HS1.out.mono HT.out.bel)
   have HR2:=Lib.hid (zab HT.out.bel HR1.out)
   have hp2:p≠r2:=by have:=HT.out.new;have:=HS1.out.lt;omega
   have hr22:r≠r2:=by have:=HT.out.new;have:=HR1L.out;omega
   have HB2:=Lib.hid (HB1.out.trans (HT.out.bel.mono HB1.out.size))
   clear c0 c1 c2 c3 f0 f1 f2 f3 hpr
   obtain ⟨⟨c0,c1,c2,c3⟩,f0,f1,f2,f3⟩:=HS2.out.cells
   obtain ⟨⟨k0,k1,k2,k3,k4,k5,k6,k7⟩,m0,m1,m2,m3,m4,m5,m6,m7⟩:=zaf HT.out.blk
   obtain ⟨⟨g0,g1,g2,g3,g4,g5,g6,g7⟩,l0,l1,l2,l3,l4,l5,l6,l7⟩:=zaf HR2.out
   by_cases her:er=0
   · subst her
     go_wp2
     refine bodyPost_ret (zaa rfl _ _ r 112 _ (0,0) _ rfl (set8 ((heap_setCell_other _ _ _ _ (Ne.symm hpr0)).trans HR2.out) _ _ _ _ _ _ _ _) Tryz.underlying112 rfl zaI _ rfl) rfl ?_
     refine ⟨rfl,?_,?_⟩
     · exact (((HS.out.res (G':=fun b=>G b∨b=r) HB2.out (fun b hb=>hb.imp id fun e=>by rw [e];exact ⟨Nat.le_of_eq HRR.out.symm,zaj HR2.out⟩)).setAt t).set8 (.inr rfl) _ _ _ _ _ _ _ _).give fun b hb=>.inl hb
     · exact zbK (zak.setCell (S:=fun b=>b=p) (a:=⟨p,1,none⟩) (zaZ HB2.out) (.inl rfl) _) (Nat.le_of_eq HRR.out.symm) _ _ _ _ _ _ _ _
   · have e1 : (er == 0) = false := by rw [beq_eq_false_iff_ne]; exact her
     go_wp2
     refine bodyPost_ret (zaa rfl _ _ r 112 _ (0,0) _ rfl (set8 HR2.out _ _ _ _ _ _ _ _) Tryz.underlying112 rfl zaI _ rfl) rfl ?_
     refine ⟨rfl,?_,?_⟩
     · exact ((HS.out.res (G':=fun b=>G b∨b=r) HB2.out (fun b hb=>hb.imp id fun e=>by rw [e];exact ⟨Nat.le_of_eq HRR.out.symm,zaj HR2.out⟩)).set8 (.inr rfl) _ _ _ _ _ _ _ _).give fun b hb=>.inl hb
     · exact zbK (zaZ HB2.out) (Nat.le_of_eq HRR.out.symm) _ _ _ _ _ _ _ _
def topP:List Nat→Option Addr
 | []=>none
 | g::_=>some ⟨g,0,none⟩
theorem zgF (h : zav w0 w F G p a cap bs last st at_ gs osl) : Calls Tryz.prog 97 #[.pointer (some ⟨p, 0, none⟩)] w fun e w' => e = .returned (.pointer (topP gs)) ∧ ∃ q, w' = w.drewN q := by
 have hl:=h.lvs.len
 have hd:=h.deep
 obtain ⟨ao,oc,rfl,hro,-⟩:=Row.of_owns h.own
 obtain ⟨⟨c0,c1,c2,c3⟩,f0,f1,f2,f3⟩:=h.cells
 cases gs with
 | nil =>
   have h0:st.length=0:=by simpa using hl.symm
   rw [h0] at c3
   clear hl hro h h0 hd
   go_enter Tryz.func97,Tryz.ntmps97
   go_wp2
   go_ret
   exact ⟨rfl,0,rfl⟩
 | cons g t =>
   have h0:st.length=t.length+1:=by simpa using hl.symm
   rw [h0] at hro c3 hd
   obtain ⟨b,off,rfl,hb,hc⟩:=hro.2.2.2.2 (by omega)
   have hcell:=hc t.length (.pointer (some ⟨g,0,none⟩)) (by simp [ptrs])
   have hce:decide (t.length+1=0)=false:=by simp
   have hci:((t.length:Int)+1==0)=false:=by rw [beq_eq_false_iff_ne];omega
   have h1:(0:Int)≤(t.length:Int)+1-1:=by omega
   have h2:((t.length:Int)+1-1).toNat=t.length:=by omega
   have h3:IntKind.i64.wrap ((t.length:Int)+1-1)=(t.length:Int):=by rw [IntWalk.i64_in _ (by omega)];omega
   have h4:(t.length:Int)<(t.length:Int)+1:=by omega
   have h5:(0:Int)≤(t.length:Int):=by omega
   have h6:((t.length:Int)).toNat=t.length:=by omega
   clear hc hro hl h h0
   unfold topP
   generalize t.length=n at *
   go_enter Tryz.func97,Tryz.ntmps97
   go_wp2
   go_quiet (fail)
   go_wp2
   go_ret
   exact ⟨rfl,_,rfl⟩
end
end Go.Proofs.YtkhcjoomijkfbaaGreatDoor
namespace Go.Proofs.YtkhcjoomijkfbaaGreatDoor
open Go.RowKit
theorem ze2 {w:World} {g n cap:Nat} {d:Bool} {a:Option Addr} (h:w.heap[g]?=some (.cells #[.bool d,.slice a n cap] 168 (0,0))) (hn:n≤maxLen) :
   Calls Tryz.prog 162 #[.pointer (some ⟨g,0,none⟩)] w fun e w'=>e=.returned (.bool (d&&n % 2==0))∧w=w':=by
 have c0:w.cell? ⟨g,0,none⟩=some (.bool d):=by rw [cell_of_row w g 0 _ _ _ h];rfl
 have c1:w.cell? ⟨g,1,none⟩=some (.slice a n cap):=by rw [cell_of_row w g 1 _ _ _ h];rfl
 have hi:(n:Int)≤9223372036854775807:=by unfold maxLen at hn;omega
 have he:((n:Int) % 2==0)=(n % 2==0):=by rw [Bool.eq_iff_iff];simp;omega
 have HE:=Lib.hid he
 clear h hn he
 cases d
 · go_enter Tryz.func162,Tryz.ntmps162
   go_wp2
   go_ret
   exact ⟨rfl,rfl⟩
 · go_enter Tryz.func162,Tryz.ntmps162
   go_wp2
   go_ret
   exact ⟨zbm (by rw [Bool.true_and];exact HE.out),rfl⟩
section
variable {w0 w w' : World} {F F' G : Nat → Prop} {p : Nat} {a : Option Addr} {cap : Nat} {bs : List UInt8} {last : Bool} {st : List Lv} {at_ : Int} {gs : List Nat} {osl : Value}
def RefEnd (w0 w:World) (F G:Nat→Prop) (p:Nat) (a:Option Addr) (cap:Nat) (bs:List UInt8) (last:Bool) (st:List Lv) (gs:List Nat) (osl:Value) (R:PV×Int×Int) (e:Ending) (w':World):Prop :=
 e=.returned (.tuple #[pvA R.1 (.slice none 0 0),.int .i64 R.2.2])∧zav w0 w' F G p a cap bs last st R.2.1 gs osl∧zak (fun b=>b=p) w w'
theorem fin4 (h:zav w0 w F G p a cap bs last st at_ gs osl) {W:World} (hb:Below w.heap.size w W) {q:Nat} (hq:w.heap.size≤q) (hl:q<W.heap.size) (y0 y1 y2 y3:Value) :
   zav w0 ((((W.setCell ⟨q,0,none⟩ y0).setCell ⟨q,1,none⟩ y1).setCell ⟨q,2,none⟩ y2).setCell ⟨q,3,none⟩ y3) F G p a cap bs last st at_ gs osl ∧
     zak (fun b=>b=p) w ((((W.setCell ⟨q,0,none⟩ y0).setCell ⟨q,1,none⟩ y1).setCell ⟨q,2,none⟩ y2).setCell ⟨q,3,none⟩ y3) :=
 ⟨((h.res (G':=fun b=>G b∨b=q) hb (fun b hb=>hb.imp id fun e=>by rw [e];exact ⟨hq,hl⟩)).set4 (.inr rfl) _ _ _ _).give fun b hb=>.inl hb,za6 (zaZ hb) hq _ _ _ _⟩
theorem fin4a (h:zav w0 w F G p a cap bs last st at_ gs osl) {W:World} (hb:Below w.heap.size w W) {q:Nat} (hq:w.heap.size≤q) (hl:q<W.heap.size) (at2:Int) (y0 y1 y2 y3:Value) :
   zav w0 (((((W.setCell ⟨p,1,none⟩ (.int .i64 at2)).setCell ⟨q,0,none⟩ y0).setCell ⟨q,1,none⟩ y1).setCell ⟨q,2,none⟩ y2).setCell ⟨q,3,none⟩ y3) F G p a cap bs last st at2 gs osl ∧
     zak (fun b=>b=p) w (((((W.setCell ⟨p,1,none⟩ (.int .i64 at2)).setCell ⟨q,0,none⟩ y0).setCell ⟨q,1,none⟩ y1).setCell ⟨q,2,none⟩ y2).setCell ⟨q,3,none⟩ y3) :=
 ⟨(((h.res (G' := fun b => G b ∨ b = q) hb (fun b hb => hb.imp id fun e => by rw [e]; exact ⟨hq, hl⟩)).setAt at2).set4 (.inr rfl) _ _ _ _).give fun b hb => .inl hb,
   za6 (zak.setCell (S:=fun b=>b=p) (a:=⟨p,1,none⟩) (zaZ hb) (.inl rfl) _) hq _ _ _ _⟩
theorem drew4 {W:World} {S:Nat→Prop} (h:zav w0 W F G p a cap bs last st at_ gs osl∧zak S w W):zav w0 W.drew F G p a cap bs last st at_ gs osl∧zak S w W.drew:=⟨h.1.drewN 1,h.2.drewN 1⟩
theorem ref_any (h:zav w0 w F G p a cap bs last st at_ gs osl) (v:PV):Calls Tryz.prog 165 #[.pointer (some ⟨p,0,none⟩),pvA v (.slice none 0 0)] w (RefEnd w0 w F G p a cap bs last st gs osl (refV bs last at_ v)):=by
 have HN:=Lib.hid (fun (W:World) (hb:Below w.heap.size w W)=>zdq (h.bytes.mono hb) h.small at_ last)
 obtain ⟨R,hR⟩:∃R,R=refV bs last at_ v:=⟨_,rfl⟩
 rw [←hR]
 unfold refV at hR
 simp only at hR
 have HWH:=Lib.hid (fun (W:World)=>zga (zai bs at_ last).1 (zai bs at_ last).2.1 (zai bs at_ last).2.2.1 W)
 have HN2:=Lib.hid (fun (W:World) (hb:Below w.heap.size w W)=>zdq (h.bytes.mono hb) h.small (zai bs at_ last).2.2.1 last)
 generalize zai bs (zai bs at_ last).2.2.1 last=V2 at *
 generalize zai bs at_ last=V at *
 obtain ⟨x,gf,gt,ger⟩:=V
 obtain ⟨y,rf,rt,rer⟩:=V2
 simp only at hR HN2 HWH
 unfold zax tokN at HN HN2
 unfold tokN at HWH
 simp only at HN HN2
 unfold pvA
 have HR:=Lib.hid hR
 have HYS:=Lib.hid (zbI y.s [82])
 clear hR
 generalize x.kind=ga0 at *
 generalize x.vk=ga1 at *
 generalize x.vn=ga2 at *
 generalize mkB x.vs=gs1 at *
 generalize mkB x.s=gs2 at *
 generalize y.kind=ra0 at *
 generalize y.vk=ra1 at *
 generalize y.vn=ra2 at *
 generalize mkB y.vs=rs1 at *
 generalize mkB y.s=rs2 at *
 generalize zaC x=wh at *
 obtain ⟨vk,vn,vs,vl⟩:=v
 simp only [PV.kind,PV.n,PV.s] at HR ⊢
 have HS:=Lib.hid h
 have hpw:=h.lt
 clear h
 go_enter Tryz.func165,Tryz.ntmps165
 go_wp2
 have HB1:=Lib.hid (zcn w (.cells #[.int .i64 vk,.int .i64 vn,.string (mkB vs),.slice none 0 0] 48) (.cells #[.int .i64 0,.int .i64 0,.string ⟨#[]⟩,.slice none 0 0] 48))
 have HS1:=Lib.hid (HS.out.mono HB1.out)
 have HK3:=Lib.hid (zao (.cells #[.int .i64 0,.int .i64 0,.string ⟨#[]⟩,.slice none 0 0] 48) (zac (w:=w) (b:=w.heap.size) (.cells #[.int .i64 vk,.int .i64 vn,.string (mkB vs),.slice none 0 0] 48) rfl))
 have HK4:=Lib.hid (zac (w:=w.alloc (.cells #[.int .i64 vk,.int .i64 vn,.string (mkB vs),.slice none 0 0] 48)) (b:=w.heap.size+1) (.cells #[.int .i64 0,.int .i64 0,.string ⟨#[]⟩,.slice none 0 0] 48) (by rw [zas]))
 generalize (w.alloc _).alloc _=W1 at *
 obtain ⟨r,hr⟩:∃r,r=w.heap.size:=⟨_,rfl⟩
 have hpr0:p≠r:=by omega
 have hpr1:p≠r+1:=by omega
 rw [←hr] at HK3 HK4 ⊢
 have HRR:=Lib.hid hr
 clear hr hpw
 obtain ⟨⟨c0,c1,c2,c3⟩,f0,f1,f2,f3⟩:=HS1.out.cells
 go_upto_region 1 with fail
 go_cut [6,7] from 9 (fun v6 v7 wx=>∃r2,v6=.pointer (some ⟨r2,0,none⟩)∧v7=.int .i64 ger∧Hid (TkM W1 wx r2 #[.int .i64 ga0,.int .i64 gf,.int .i64 gt,.int .i64 ga1,.int .i64 ga2,.string gs1,.slice none 0 0,.string gs2]))
 case first =>
   have HA1:=Lib.hid (fun o:Obj=>(zam W1 o).drew)
   have HA2:=Lib.hid (fun o:Obj=>HB1.out.trans ((HA1.out o).mono (show w.heap.size≤W1.heap.size from HB1.out.size)))
   have HC0:Hid (S3 W1 p 0 (.slice a bs.length cap) p 1 (.int .i64 at_) p 2 (.bool last)):=Lib.hid ⟨c0,c1,c2⟩
   have HPR:Hid (p≠W1.heap.size∧p≠W1.heap.size∧p≠W1.heap.size):=Lib.hid ⟨Nat.ne_of_lt (World.block_lt_of_cell? W1 _ c0),Nat.ne_of_lt (World.block_lt_of_cell? W1 _ c1),Nat.ne_of_lt (World.block_lt_of_cell? W1 _ c2)⟩
   go_region_held3 (fun w' => w'.cell? ⟨p, 0, none⟩ = some (.slice a bs.length cap) ∧ w'.cell? ⟨p, 1, none⟩ = some (.int .i64 at_) ∧ w'.cell? ⟨p, 2, none⟩ = some (.bool last))
     ((show S3 _ p 0 (.slice a bs.length cap) p 1 (.int .i64 at_) p 2 (.bool last);(first
       | (with_reducible exact HC0.out.drew)
       | (with_reducible exact HC0.out)
       | (with_reducible exact (HC0.out.alloc _).drew)
       | (with_reducible exact Hid.out (by assumption))
       | (with_reducible exact S3.alloc (Hid.out (by assumption)) _)
       | (with_reducible exact S3.set8 (Hid.out (by assumption)) HPR.out.1 HPR.out.2.1 HPR.out.2.2 _ _ _ _ _ _ _ _))))
     ((go_at_call 56;first
       | ((with_reducible refine (HN.out _ HB1.out.drew).mono ?_);rintro e wN ⟨rfl,hbN⟩;have hbM:Below W1.heap.size W1 wN:=(Below.refl _ _).drew.trans hbN;have HSN:=Lib.hid (HC0.out.below hbM))
       | ((with_reducible refine (HN.out _ (HA2.out _)).mono ?_);rintro e wN ⟨rfl,hbN⟩;have hbM:Below W1.heap.size W1 wN:=(HA1.out _).trans (hbN.mono (HA1.out _).size);have HSN:=Lib.hid (HC0.out.below hbM);have HZ:=Lib.hid (zab hbN (zac (w:=W1) (b:=W1.heap.size) (.cells #[.int .i64 0,.int .i64 0,.int .i64 0,.int .i64 0,.int .i64 0,.string ⟨#[]⟩,.slice none 0 0,.string ⟨#[]⟩] 112) rfl));obtain ⟨⟨z0,z1,z2,z3,z4,z5,z6,z7⟩,y0,y1,y2,y3,y4,y5,y6,y7⟩:=zaf HZ.out)))
   all_goals
     first
       | (obtain ⟨W2,hW2⟩:∃W2,W2=wN.alloc (.cells #[.int .i64 ga0,.int .i64 gf,.int .i64 gt,.int .i64 ga1,.int .i64 ga2,.string gs1,.slice none 0 0,.string gs2] 112):=⟨_,rfl⟩
          rw [←hW2]
          have HT:=Lib.hid (show TkM W1 W2 wN.heap.size #[.int .i64 ga0,.int .i64 gf,.int .i64 gt,.int .i64 ga1,.int .i64 ga2,.string gs1,.slice none 0 0,.string gs2] from ⟨by rw [hW2];exact hbM.alloc hbM.size _,by rw [hW2];exact zac _ rfl,hbM.size⟩)
          obtain ⟨r2,hr2⟩:∃r2,r2=wN.heap.size:=⟨_,rfl⟩
          rw [←hr2] at HT ⊢)
       | (obtain ⟨W2,hW2⟩:∃W2,W2=((((((((wN.setCell ⟨W1.heap.size,0,none⟩ (.int .i64 ga0)).setCell ⟨W1.heap.size,1,none⟩ (.int .i64 gf)).setCell ⟨W1.heap.size,2,none⟩ (.int .i64 gt)).setCell ⟨W1.heap.size,3,none⟩ (.int .i64 ga1)).setCell ⟨W1.heap.size,4,none⟩ (.int .i64 ga2)).setCell ⟨W1.heap.size,5,none⟩ (.string gs1)).setCell ⟨W1.heap.size,6,none⟩ (.slice none 0 0)).setCell ⟨W1.heap.size,7,none⟩ (.string gs2)):=⟨_,rfl⟩
          rw [←hW2]
          have HT:=Lib.hid (show TkM W1 W2 W1.heap.size #[.int .i64 ga0,.int .i64 gf,.int .i64 gt,.int .i64 ga1,.int .i64 ga2,.string gs1,.slice none 0 0,.string gs2] from ⟨by rw [hW2];exact zbk hbM (Nat.le_refl _) _ _ _ _ _ _ _ _,by rw [hW2];exact set8 HZ.out _ _ _ _ _ _ _ _,Nat.le_refl _⟩)
          clear z0 z1 z2 z3 z4 z5 z6 z7 y0 y1 y2 y3 y4 y5 y6 y7 HZ
          obtain ⟨r2,hr2⟩:∃r2,r2=W1.heap.size:=⟨_,rfl⟩
          rw [←hr2] at HT ⊢)
     clear hW2 hr2 hbN hbM HSN
   all_goals
     go_wp2
     go_meet
     exact ⟨r2,rfl,rfl,HT⟩
 case rest =>
   obtain ⟨r2,rfl,rfl,HT⟩:=hcut
   have HS2:=Lib.hid (HS1.out.mono HT.out.bel)
   have HB2:=Lib.hid (HB1.out.trans (HT.out.bel.mono HB1.out.size))
   have HL3:=Lib.hid (zab HT.out.bel HK3.out)
   have HL4:=Lib.hid (zab HT.out.bel HK4.out)
   have HTK:=Lib.hid HT.out.blk
   clear c0 c1 c2 c3 f0 f1 f2 f3 HT HK3 HK4 HS1 HB1 HN
   have hmv:=Lib.hid (fun e w=>more_any e w)
   by_cases hg:ger=0
   case neg =>
     have e1:(ger==0)=false:=by rw [beq_eq_false_iff_ne];exact hg
     have e2:(ger != 0)=true:=by simp only [bne,e1,Bool.not_false]
     have hr2:=HR.out
     rw [if_pos (.inl hg)] at hr2
     have HR2:=Lib.hid hr2
     obtain ⟨⟨k0,k1,k2,k3⟩,m0,m1,m2,m3⟩:=zae HL3.out
     obtain ⟨⟨q0,q1,q2,q3⟩,n0,n1,n2,n3⟩:=zae HL4.out
     clear hr2 hg HR HN2
     go_wp2
     go_region_with ((go_at_call 200;refine (hmv.out _ _).mono ?_;rintro e w' ⟨rfl,rfl⟩))
     all_goals
       go_wp2
       refine bodyPost_ret (zaa rfl _ _ (r+1) 48 _ (0,0) _ rfl (by exact set4 HL4.out _ _ _ _) Tryz.underlying48 rfl (by exact zap) _ rfl) rfl ?_
       rw [HR2.out]
       exact ⟨rfl,drew4 (fin4 HS.out HB2.out (by rw [HRR.out];exact Nat.le_succ _) (zaj HL4.out) _ _ _ _)⟩
   subst hg
   cases wh with
   | false =>
     have hr2:=HR.out
     rw [if_pos (.inr rfl)] at hr2
     have HR2:=Lib.hid hr2
     obtain ⟨⟨k0,k1,k2,k3,k4,k5,k6,k7⟩,-⟩:=zaf HTK.out
     clear hr2 HR HN2
     go_wp2_with fail
     refine (HWH.out _).mono ?_
     rintro e w' ⟨rfl,hb⟩
     have HL3b:=Lib.hid (zab hb HL3.out)
     have HL4b:=Lib.hid (zab hb HL4.out)
     have HB3:=Lib.hid (HB2.out.trans (hb.mono HB2.out.size))
     obtain ⟨⟨k0,k1,k2,k3⟩,m0,m1,m2,m3⟩:=zae HL3b.out
     obtain ⟨⟨q0,q1,q2,q3⟩,n0,n1,n2,n3⟩:=zae HL4b.out
     clear hb
     go_wp2
     go_region_with ((go_at_call 200;refine (hmv.out _ _).mono ?_;rintro e w' ⟨rfl,rfl⟩))
     all_goals
       go_wp2
       refine bodyPost_ret (zaa rfl _ _ (r+1) 48 _ (0,0) _ rfl (by exact set4 HL4b.out _ _ _ _) Tryz.underlying48 rfl (by exact zap) _ rfl) rfl ?_
       rw [HR2.out]
       exact ⟨rfl,drew4 (fin4 HS.out HB3.out (by rw [HRR.out];exact Nat.le_succ _) (zaj HL4b.out) _ _ _ _)⟩
   | true =>
     have hr1:=HR.out
     rw [if_neg (by simp)] at hr1
     have HRX:=Lib.hid hr1
     obtain ⟨⟨k0,k1,k2,k3,k4,k5,k6,k7⟩,-⟩:=zaf HTK.out
     clear hr1 HR
     go_upto_region 4 with (go_at_call 93;refine (HWH.out _).mono ?_;rintro e W3 ⟨rfl,hb3⟩)
     have HB3:=Lib.hid (HB2.out.trans (hb3.mono HB2.out.size))
     have HS3:=Lib.hid (HS2.out.mono hb3)
     have HL3b:=Lib.hid (zab hb3 HL3.out)
     have HL4b:=Lib.hid (zab hb3 HL4.out)
     have HTKb:=Lib.hid (zab hb3 HTK.out)
     clear hb3 k0 k1 k2 k3 k4 k5 k6 k7
     go_cut [7,8] from 9 (fun v7 v8 wx=>∃r3,v7=.int .i64 rer∧v8=.pointer (some ⟨r3,0,none⟩)∧Hid (TkM W3 wx r3 #[.int .i64 ra0,.int .i64 rf,.int .i64 rt,.int .i64 ra1,.int .i64 ra2,.string rs1,.slice none 0 0,.string rs2]))
     case first =>
       obtain ⟨⟨k0,k1,k2,k3,k4,k5,k6,k7⟩,-⟩:=zaf HTKb.out
       obtain ⟨⟨c0,c1,c2,c3⟩,-⟩:=HS3.out.cells
       clear k0 k1 k3 k4 k5 k6 k7 c1 c3
       have HA1:=Lib.hid (fun o:Obj=>(zam W3 o).drew)
       have HA2:=Lib.hid (fun o:Obj=>HB3.out.trans ((HA1.out o).mono (show w.heap.size≤W3.heap.size from HB3.out.size)))
       have HC0:Hid (S3 W3 p 0 (.slice a bs.length cap) r2 2 (.int .i64 gt) p 2 (.bool last)):=Lib.hid ⟨c0,k2,c2⟩
       have HPR:Hid (p≠W3.heap.size∧r2≠W3.heap.size∧p≠W3.heap.size):=Lib.hid ⟨Nat.ne_of_lt (World.block_lt_of_cell? W3 _ c0),Nat.ne_of_lt (World.block_lt_of_cell? W3 _ k2),Nat.ne_of_lt (World.block_lt_of_cell? W3 _ c2)⟩
       go_region_held3 (fun w' => w'.cell? ⟨p, 0, none⟩ = some (.slice a bs.length cap) ∧ w'.cell? ⟨r2, 2, none⟩ = some (.int .i64 gt) ∧ w'.cell? ⟨p, 2, none⟩ = some (.bool last))
         ((show S3 _ p 0 (.slice a bs.length cap) r2 2 (.int .i64 gt) p 2 (.bool last);(first
           | (with_reducible exact HC0.out.drew)
           | (with_reducible exact HC0.out)
           | (with_reducible exact (HC0.out.alloc _).drew)
           | (with_reducible exact Hid.out (by assumption))
           | (with_reducible exact S3.alloc (Hid.out (by assumption)) _)
           | (with_reducible exact S3.set8 (Hid.out (by assumption)) HPR.out.1 HPR.out.2.1 HPR.out.2.2 _ _ _ _ _ _ _ _))))
         ((go_at_call 56;first
           | ((with_reducible refine (HN2.out _ HB3.out.drew).mono ?_);rintro e wN ⟨rfl,hbN⟩;have hbM:Below W3.heap.size W3 wN:=(Below.refl _ _).drew.trans hbN;have HSN:=Lib.hid (HC0.out.below hbM))
           | ((with_reducible refine (HN2.out _ (HA2.out _)).mono ?_);rintro e wN ⟨rfl,hbN⟩;have hbM:Below W3.heap.size W3 wN:=(HA1.out _).trans (hbN.mono (HA1.out _).size);have HSN:=Lib.hid (HC0.out.below hbM);have HZ:=Lib.hid (zab hbN (zac (w:=W3) (b:=W3.heap.size) (.cells #[.int .i64 0,.int .i64 0,.int .i64 0,.int .i64 0,.int .i64 0,.string ⟨#[]⟩,.slice none 0 0,.string ⟨#[]⟩] 112) rfl));obtain ⟨⟨z0,z1,z2,z3,z4,z5,z6,z7⟩,y0,y1,y2,y3,y4,y5,y6,y7⟩:=zaf HZ.out)))
       all_goals
         first
           | (obtain ⟨W2,hW2⟩:∃W2,W2=wN.alloc (.cells #[.int .i64 ra0,.int .i64 rf,.int .i64 rt,.int .i64 ra1,.int .i64 ra2,.string rs1,.slice none 0 0,.string rs2] 112):=⟨_,rfl⟩
              rw [←hW2]
              have HT:=Lib.hid (show TkM W3 W2 wN.heap.size #[.int .i64 ra0,.int .i64 rf,.int .i64 rt,.int .i64 ra1,.int .i64 ra2,.string rs1,.slice none 0 0,.string rs2] from ⟨by rw [hW2];exact hbM.alloc hbM.size _,by rw [hW2];exact zac _ rfl,hbM.size⟩)
              obtain ⟨r2_1,hr2⟩:∃r2_1,r2_1=wN.heap.size:=⟨_,rfl⟩
              rw [←hr2] at HT ⊢)
           | (obtain ⟨W2,hW2⟩:∃W2,W2=((((((((wN.setCell ⟨W3.heap.size,0,none⟩ (.int .i64 ra0)).setCell ⟨W3.heap.size,1,none⟩ (.int .i64 rf)).setCell ⟨W3.heap.size,2,none⟩ (.int .i64 rt)).setCell ⟨W3.heap.size,3,none⟩ (.int .i64 ra1)).setCell ⟨W3.heap.size,4,none⟩ (.int .i64 ra2)).setCell ⟨W3.heap.size,5,none⟩ (.string rs1)).setCell ⟨W3.heap.size,6,none⟩ (.slice none 0 0)).setCell ⟨W3.heap.size,7,none⟩ (.string rs2)):=⟨_,rfl⟩
              rw [←hW2]
              have HT:=Lib.hid (show TkM W3 W2 W3.heap.size #[.int .i64 ra0,.int .i64 rf,.int .i64 rt,.int .i64 ra1,.int .i64 ra2,.string rs1,.slice none 0 0,.string rs2] from ⟨by rw [hW2];exact zbk hbM (Nat.le_refl _) _ _ _ _ _ _ _ _,by rw [hW2];exact set8 HZ.out _ _ _ _ _ _ _ _,Nat.le_refl _⟩)
              clear z0 z1 z2 z3 z4 z5 z6 z7 y0 y1 y2 y3 y4 y5 y6 y7 HZ
              obtain ⟨r2_1,hr2⟩:∃r2_1,r2_1=W3.heap.size:=⟨_,rfl⟩
              rw [←hr2] at HT ⊢)
         clear hW2 hr2 hbN hbM HSN
       all_goals
         go_wp2
         go_meet
         exact ⟨r2_1,rfl,rfl,HT⟩
     case rest =>
       obtain ⟨r3,rfl,rfl,HT⟩:=hcut
       have HS4:=Lib.hid (HS3.out.mono HT.out.bel)
       have HB4:=Lib.hid (HB3.out.trans (HT.out.bel.mono HB3.out.size))
       have HM3:=Lib.hid (zab HT.out.bel HL3b.out)
       have HM4:=Lib.hid (zab HT.out.bel HL4b.out)
       have HU1:=Lib.hid (zab HT.out.bel HTKb.out)
       have HU2:=Lib.hid HT.out.blk
       clear HT
       obtain ⟨⟨k0,k1,k2,k3⟩,m0,m1,m2,m3⟩:=zae HM3.out
       obtain ⟨⟨q0,q1,q2,q3⟩,n0,n1,n2,n3⟩:=zae HM4.out
       obtain ⟨⟨t0,t1,t2,t3,t4,t5,t6,t7⟩,-⟩:=zaf HU2.out
       obtain ⟨⟨d0,d1,d2,d3,d4,d5,d6,d7⟩,-⟩:=zaf HU1.out
       obtain ⟨⟨c0,c1,c2,c3⟩,f0,f1,f2,f3⟩:=HS4.out.cells
       have hys:=HYS.out
       by_cases h0:rer=0
       case neg =>
         have e1:(rer==0)=false:=by rw [beq_eq_false_iff_ne];exact h0
         have e2:(rer != 0)=true:=by simp only [bne,e1,Bool.not_false]
         have hr2:=HRX.out
         rw [if_pos (.inl h0)] at hr2
         have HR2:=Lib.hid hr2
         clear hr2 h0 hys
         go_wp2
         go_region_with ((go_at_call 200;refine (hmv.out _ _).mono ?_;rintro e w' ⟨rfl,rfl⟩))
         all_goals
           go_wp2
           refine bodyPost_ret (zaa rfl _ _ (r+1) 48 _ (0,0) _ rfl (by exact set4 HM4.out _ _ _ _) Tryz.underlying48 rfl (by exact zap) _ rfl) rfl ?_
           rw [HR2.out]
           exact ⟨rfl,drew4 (fin4 HS.out HB4.out (by rw [HRR.out];exact Nat.le_succ _) (zaj HM4.out) _ _ _ _)⟩
       subst h0
       by_cases h6:ra0=6
       case neg =>
         have e1:(ra0==6)=false:=by rw [beq_eq_false_iff_ne];exact h6
         have e2:(ra0 != 6)=true:=by simp only [bne,e1,Bool.not_false]
         have hr2:=HRX.out
         rw [if_pos (.inr (.inl h6))] at hr2
         have HR2:=Lib.hid hr2
         clear hr2 h6 hys
         go_wp2
         go_region_with ((go_at_call 200;refine (hmv.out _ _).mono ?_;rintro e w' ⟨rfl,rfl⟩))
         all_goals
           go_wp2
           refine bodyPost_ret (zaa rfl _ _ (r+1) 48 _ (0,0) _ rfl (by exact set4 HM4.out _ _ _ _) Tryz.underlying48 rfl (by exact zap) _ rfl) rfl ?_
           rw [HR2.out]
           exact ⟨rfl,drew4 (fin4 HS.out HB4.out (by rw [HRR.out];exact Nat.le_succ _) (zaj HM4.out) _ _ _ _)⟩
       subst h6
       by_cases hs:y.s=[82]
       case neg =>
         rw [decide_eq_false hs] at hys
         have hr2:=HRX.out
         rw [if_pos (.inr (.inr hs))] at hr2
         have HR2:=Lib.hid hr2
         clear hr2 hs
         go_wp2
         go_region_with ((go_at_call 200;refine (hmv.out _ _).mono ?_;rintro e w' ⟨rfl,rfl⟩))
         all_goals
           go_wp2
           refine bodyPost_ret (zaa rfl _ _ (r+1) 48 _ (0,0) _ rfl (by exact set4 HM4.out _ _ _ _) Tryz.underlying48 rfl (by exact zap) _ rfl) rfl ?_
           rw [HR2.out]
           exact ⟨rfl,drew4 (fin4 HS.out HB4.out (by rw [HRR.out];exact Nat.le_succ _) (zaj HM4.out) _ _ _ _)⟩
       rw [decide_eq_true hs] at hys
       have hr2:=HRX.out
       rw [if_neg (by rintro (h|h|h);exact h rfl;exact h rfl;exact h hs)] at hr2
       have HRY:=Lib.hid hr2
       clear hr2 hs
       by_cases hv1:vn<1
       case pos =>
         have hd:decide (vn<1)=true:=decide_eq_true hv1
         have hr2:=HRY.out.trans (if_pos (show vn<1∨4096<vn∨ga2≠0 from .inl hv1))
         have HR2:=Lib.hid hr2
         clear hr2 hv1
         go_wp2
         refine bodyPost_ret (zaa rfl _ _ (r+1) 48 _ (0,0) _ rfl (by exact set4 HM4.out _ _ _ _) Tryz.underlying48 rfl (by exact zap) _ rfl) rfl ?_
         rw [HR2.out]
         exact ⟨rfl,fin4 HS.out HB4.out (by rw [HRR.out];exact Nat.le_succ _) (zaj HM4.out) _ _ _ _⟩
       have hd1:decide (vn<1)=false:=decide_eq_false hv1
       by_cases hv2:4096<vn
       case pos =>
         have hd:decide (4096<vn)=true:=decide_eq_true hv2
         have hr2:=HRY.out.trans (if_pos (show vn<1∨4096<vn∨ga2≠0 from .inr (.inl hv2)))
         have HR2:=Lib.hid hr2
         clear hr2 hv2 hv1
         go_wp2
         refine bodyPost_ret (zaa rfl _ _ (r+1) 48 _ (0,0) _ rfl (by exact set4 HM4.out _ _ _ _) Tryz.underlying48 rfl (by exact zap) _ rfl) rfl ?_
         rw [HR2.out]
         exact ⟨rfl,fin4 HS.out HB4.out (by rw [HRR.out];exact Nat.le_succ _) (zaj HM4.out) _ _ _ _⟩
       have hd2:decide (4096<vn)=false:=decide_eq_false hv2
       by_cases hg2:ga2=0
       case neg =>
         have e1:(ga2==0)=false:=by rw [beq_eq_false_iff_ne];exact hg2
         have e2:(ga2 != 0)=true:=by simp only [bne,e1,Bool.not_false]
         have hr2:=HRY.out.trans (if_pos (show vn<1∨4096<vn∨ga2≠0 from .inr (.inr hg2)))
         have HR2:=Lib.hid hr2
         clear hr2 hv2 hv1 hg2
         go_wp2
         refine bodyPost_ret (zaa rfl _ _ (r+1) 48 _ (0,0) _ rfl (by exact set4 HM4.out _ _ _ _) Tryz.underlying48 rfl (by exact zap) _ rfl) rfl ?_
         rw [HR2.out]
         exact ⟨rfl,fin4 HS.out HB4.out (by rw [HRR.out];exact Nat.le_succ _) (zaj HM4.out) _ _ _ _⟩
       subst hg2
       have hr2:=HRY.out.trans (if_neg (show ¬(vn<1∨4096<vn∨(0:Int)≠0) by rintro (h|h|h);exact hv1 h;exact hv2 h;exact h rfl))
       have HR2:=Lib.hid hr2
       clear hr2 hv2 hv1
       go_wp2
       refine bodyPost_ret (zaa rfl _ _ (r+1) 48 _ (0,0) _ rfl (by exact set4 ((heap_setCell_other _ _ _ _ (Ne.symm hpr1)).trans HM4.out) _ _ _ _) Tryz.underlying48 rfl (by exact zap) _ rfl) rfl ?_
       rw [HR2.out]
       exact ⟨rfl,fin4a HS.out HB4.out (by rw [HRR.out];exact Nat.le_succ _) (zaj HM4.out) _ _ _ _ _⟩
end
end Go.Proofs.YtkhcjoomijkfbaaGreatDoor
namespace Go.Proofs.YtkhcjoomijkfbaaGreatDoor
open Go.RowKit
section
variable {w0 w w' : World} {F F' G : Nat → Prop} {p : Nat} {a : Option Addr} {cap : Nat} {bs : List UInt8} {last : Bool} {st : List Lv} {at_ : Int} {gs : List Nat} {osl : Value}
theorem zav.top (h:zav w0 w F G p a cap bs last st at_ gs osl):(st=[]∧gs=[])∨∃v st' g t sa sc,st=v::st'∧gs=g::t∧v.l.length≤sc∧sc≤maxLen∧w.heap[g]?=some (.cells #[.bool v.dict,.slice sa v.l.length sc] 168 (0,0)):=by
 cases st with
 | nil=>exact .inl ⟨rfl,List.eq_nil_of_length_eq_zero (by rw [h.lvs.len];rfl)⟩
 | cons v st' =>
   obtain ⟨g,t,sl,cs,h1,h2,h3,h4,h5,h6,h7,h8⟩:=h.lvs
   obtain ⟨sa,sc,rfl,h9,h10⟩:=zbi h5
   exact .inr ⟨v,st',g,t,sa,sc,rfl,h1,h9,h10,h4⟩
theorem single_any (h:zav w0 w F G p a cap bs last st at_ gs osl) (x:Tk) (f t:Int):Calls Tryz.prog 133 #[.pointer (some ⟨p,0,none⟩),.agg (tokN x f t)] w (RefEnd w0 w F G p a cap bs last st gs osl (zaK bs last st at_ x)):=by
 obtain ⟨R,hR⟩:∃R,R=zaK bs last st at_ x:=⟨_,rfl⟩
 rw [←hR]
 unfold zaK at hR
 have HR:=Lib.hid hR
 have HTOP:=Lib.hid (fun (W:World) (hb:Below w.heap.size w W)=>zgF (h.mono hb))
 have HTP:=Lib.hid (fun (W:World) (hb:Below w.heap.size w W)=>(h.mono hb).top)
 have HREF:=Lib.hid (fun (W:World) (hb:Below w.heap.size w W) (hl:w.heap.size+1<W.heap.size)=>ref_any (h.res (G':=fun b=>G b∨b=w.heap.size+1) hb (fun b h=>h.imp id fun e=>by rw [e];exact ⟨Nat.le_succ _,hl⟩)) (tkV x))
 have HWD:=Lib.hid (fun (W:World)=>pword_any x.s W)
 have HWH:=Lib.hid (fun (W:World)=>zga x f t W)
 have HTK:=Lib.hid (show tkV x=.mk x.vk x.vn x.vs [] from rfl)
 generalize tkV x=TV at *
 unfold tokN at *
 generalize zaC x=wh at *
 generalize x.kind=a0 at *
 generalize x.vk=a1 at *
 generalize x.vn=a2 at *
 generalize hxs:x.vs=xs at *
 generalize x.s=ys at *
 have HS:=Lib.hid h
 have hpw:=h.lt
 clear h hR hxs
 go_enter Tryz.func133,Tryz.ntmps133
 go_wp2_with fail
 have HB1:=Lib.hid (zcn w (.cells #[.int .i64 a0,.int .i64 f,.int .i64 t,.int .i64 a1,.int .i64 a2,.string (mkB xs),.slice none 0 0,.string (mkB ys)] 112) (.cells #[.int .i64 0,.int .i64 0,.string ⟨#[]⟩,.slice none 0 0] 48))
 have HK3:=Lib.hid (zao (.cells #[.int .i64 0,.int .i64 0,.string ⟨#[]⟩,.slice none 0 0] 48) (zac (w:=w) (b:=w.heap.size) (.cells #[.int .i64 a0,.int .i64 f,.int .i64 t,.int .i64 a1,.int .i64 a2,.string (mkB xs),.slice none 0 0,.string (mkB ys)] 112) rfl))
 have HK4:=Lib.hid (zac (w:=w.alloc (.cells #[.int .i64 a0,.int .i64 f,.int .i64 t,.int .i64 a1,.int .i64 a2,.string (mkB xs),.slice none 0 0,.string (mkB ys)] 112)) (b:=w.heap.size+1) (.cells #[.int .i64 0,.int .i64 0,.string ⟨#[]⟩,.slice none 0 0] 48) (by rw [zas]))
 refine (HTOP.out _ HB1.out).mono ?_
 rintro e w1 ⟨rfl,q,rfl⟩
 generalize (w.alloc _).alloc _=W1 at *
 have HB2:=Lib.hid (zag HB1.out q)
 have HL3:=Lib.hid (show (W1.drewN q).heap[w.heap.size]?=_ from HK3.out)
 have HL4:=Lib.hid (show (W1.drewN q).heap[w.heap.size+1]?=_ from HK4.out)
 clear HK3 HK4 HB1
 generalize W1.drewN q=W2 at *
 obtain ⟨r,hr⟩:∃r,r=w.heap.size:=⟨_,rfl⟩
 have hpr0:p≠r:=by omega
 have hpr1:p≠r+1:=by omega
 rw [←hr] at HL3 HL4 ⊢
 have HRR:=Lib.hid hr
 clear hr hpw
 go_upto_region 2 with fail
 go_cut [25] from 7 (fun v25 wx=>∃c:Bool,v25=.bool c∧Hid (c=true↔(topW st=true∧(a0≠1∨a1≠5)))∧W2=wx)
 case first =>
   obtain ⟨⟨k0,k1,k2,k3,k4,k5,k6,k7⟩,-⟩:=zaf HL3.out
   rcases HTP.out _ HB2.out with ⟨rfl,rfl⟩|⟨v,st',g,t',sa,sc,rfl,rfl,h1,h2,h3⟩
   · unfold topP
     go_wp2
     go_meet
     exact ⟨false,rfl,Lib.hid (by simp [topW]),rfl⟩
   · have HWT := Lib.hid (ze2 h3 (by omega))
     have HTW:=Lib.hid (show topW (v::st')=(v.dict&&v.l.length % 2==0) from rfl)
     unfold topP
     generalize (v.dict&&v.l.length % 2==0)=tw at *
     clear h1 h2 h3
     cases tw
     · go_wp2_with (go_at_call 162;refine HWT.out.mono ?_;rintro e w' ⟨rfl,rfl⟩)
       go_meet
       exact ⟨false,rfl,Lib.hid (by rw [HTW.out];simp),rfl⟩
     · by_cases h1:a0=1
       · subst h1
         by_cases h5:a1=5
         · subst h5
           go_wp2_with (go_at_call 162;refine HWT.out.mono ?_;rintro e w' ⟨rfl,rfl⟩)
           go_meet
           exact ⟨false,rfl,Lib.hid (by simp),rfl⟩
         · have e1 : (a1 == 5) = false := by rw [beq_eq_false_iff_ne]; exact h5
           have e2:(a1 != 5)=true:=by simp only [bne,e1,Bool.not_false]
           go_wp2_with (go_at_call 162;refine HWT.out.mono ?_;rintro e w' ⟨rfl,rfl⟩)
           go_meet
           exact ⟨true,rfl,Lib.hid (by rw [HTW.out];simp [h5]),rfl⟩
       · have e1 : (a0 == 1) = false := by rw [beq_eq_false_iff_ne]; exact h1
         have e2:(a0 != 1)=true:=by simp only [bne,e1,Bool.not_false]
         go_wp2_with (go_at_call 162;refine HWT.out.mono ?_;rintro e w' ⟨rfl,rfl⟩)
         go_meet
         exact ⟨true,rfl,Lib.hid (by rw [HTW.out];simp [h1]),rfl⟩
 case rest =>
   obtain ⟨c,rfl,HC,rfl⟩:=hcut
   have hr1:w.heap.size≤r+1:=by rw [HRR.out];exact Nat.le_succ _
   have HR1:=Lib.hid hr1
   clear hr1
   cases c with
   | true =>
     have hr2:=HR.out
     rw [if_pos (HC.out.1 rfl)] at hr2
     have HR2:=Lib.hid hr2
     obtain ⟨⟨q0,q1,q2,q3⟩,n0,n1,n2,n3⟩:=zae HL4.out
     clear hr2 HR HREF HWD HWH
     go_wp2
     refine bodyPost_ret (zaa rfl _ _ (r+1) 48 _ (0,0) _ rfl (by exact set4 HL4.out _ _ _ _) Tryz.underlying48 rfl (by exact zap) _ rfl) rfl ?_
     rw [HR2.out]
     exact ⟨rfl,fin4 HS.out HB2.out HR1.out (zaj HL4.out) _ _ _ _⟩
   | false =>
     have hr2:=HR.out
     rw [if_neg (fun h=>absurd (HC.out.2 h) (by decide))] at hr2
     have HRX:=Lib.hid hr2
     obtain ⟨⟨k0,k1,k2,k3,k4,k5,k6,k7⟩,-⟩:=zaf HL3.out
     clear hr2 HR HC
     by_cases h6:a0=6
     · have hr2:=HRX.out
       rw [if_pos h6] at hr2
       subst h6
       have hr3:R=((wordE ys).1,at_,(wordE ys).2):=by
         rw [hr2];unfold wordE;cases zdb ys<;>rfl
       have HR2:=Lib.hid hr3
       unfold pvA at HWD
       clear hr2 hr3 HRX
       go_wp2_with fail
       refine (HWD.out _).mono ?_
       rintro e w3 ⟨rfl,hb3⟩
       have HL4b:=Lib.hid (zab hb3 HL4.out)
       have HB3:=Lib.hid (HB2.out.trans (hb3.mono HB2.out.size))
       obtain ⟨⟨q0,q1,q2,q3⟩,n0,n1,n2,n3⟩:=zae HL4b.out
       clear hb3
       go_wp2
       refine bodyPost_ret (zaa rfl _ _ (r+1) 48 _ (0,0) _ rfl (by exact set4 HL4b.out _ _ _ _) Tryz.underlying48 rfl (by exact zap) _ rfl) rfl ?_
       rw [HR2.out]
       exact ⟨rfl,fin4 HS.out HB3.out HR1.out (zaj HL4b.out) _ _ _ _⟩
     · have hr2:=HRX.out
       rw [if_neg h6] at hr2
       have HRY:=Lib.hid hr2
       have e1:(a0==6)=false:=by rw [beq_eq_false_iff_ne];exact h6
       clear hr2 h6 HRX
       go_wp2_with fail
       refine (HWH.out _).mono ?_
       rintro e w3 ⟨rfl,hb3⟩
       have HL3b:=Lib.hid (zab hb3 HL3.out)
       have HL4b:=Lib.hid (zab hb3 HL4.out)
       have HB3:=Lib.hid (HB2.out.trans (hb3.mono HB2.out.size))
       clear k0 k1 k2 k3 k4 k5 k6 k7 hb3
       obtain ⟨⟨k0,k1,k2,k3,k4,k5,k6,k7⟩,-⟩:=zaf HL3b.out
       cases wh with
       | true =>
         have hr2:=HRY.out
         rw [if_pos rfl] at hr2
         have HR2:=Lib.hid hr2
         have HC2:=Lib.hid (HREF.out _ HB3.out (by rw [←HRR.out];exact zaj HL4b.out))
         rw [HTK.out] at HC2
         unfold pvA at HC2
         simp only [PV.kind,PV.n,PV.s] at HC2
         clear hr2 HRY HREF
         go_wp2_with fail
         refine HC2.out.mono ?_
         rintro e w4 ⟨he,hs4,hk4⟩
         unfold pvA at he
         subst he
         have HL4c:=Lib.hid (hk4.obj HL4b.out (fun e=>hpr1 e.symm))
         have HS4:=Lib.hid hs4
         have HK4:=Lib.hid ((zaZ HB3.out).trans hk4 (fun b hb=>.inl hb))
         obtain ⟨⟨q0,q1,q2,q3⟩,n0,n1,n2,n3⟩:=zae HL4c.out
         clear hs4 hk4 HC2
         go_wp2
         refine bodyPost_ret (zaa rfl _ _ (r+1) 48 _ (0,0) _ rfl (by exact set4 HL4c.out _ _ _ _) Tryz.underlying48 rfl (by exact zap) _ rfl) rfl ?_
         rw [HR2.out]
         rw [HTK.out]
         exact ⟨rfl,(HS4.out.set4 (.inr (by rw [HRR.out])) _ _ _ _).give fun b hb=>.inl hb,za6 HK4.out HR1.out _ _ _ _⟩
       | false =>
         have hr2:=HRY.out
         rw [if_neg (by decide)] at hr2
         have HR2:=Lib.hid hr2
         obtain ⟨⟨q0,q1,q2,q3⟩,n0,n1,n2,n3⟩:=zae HL4b.out
         clear hr2 HRY HREF
         go_wp2
         refine bodyPost_ret (zaa rfl _ _ (r+1) 48 _ (0,0) _ rfl (by exact set4 HL4b.out _ _ _ _) Tryz.underlying48 rfl (by exact zap) _ rfl) rfl ?_
         rw [HR2.out,HTK.out]
         exact ⟨rfl,fin4 HS.out HB3.out HR1.out (zaj HL4b.out) _ _ _ _⟩
end
end Go.Proofs.YtkhcjoomijkfbaaGreatDoor
