/-
  Our texts LexV2 to Ps4, in one.
-/
import Derived.Test.YtfafdeemfeaedaaGreatPkV6
import Derived.Deep.DeepCutAuto
import Derived.Test.YtfafdeemfeaedaaGreatProg
set_option maxRecDepth 8000
set_option maxHeartbeats 8000000
open Go
variable {A A0 B N c2 e f g i j k kc m mb n' off p r tot u:Nat} {F G S U X:Nat->Prop} {L R T T':List (Int×Int)} {P at2 er gap tto x:Int} {W W' W0 W1 W2 W8 w' w0 w1 w2:World} {ad gv sl sv sx v' x0 x1 x2 x3 x4 y0 y1 y2 y3 z:Value} {c:UInt8} {cs xs:List Value} {ds rd:List Int} {ka sa:Option Addr} {key:List UInt8} {ov yq:Bool} {t ty:TypeId}
namespace Go.Proofs.YtfafdeemfeaedaaGreat
open Go.RowKit
theorem zfX {w:World} {a:Option Addr} {cap:Nat} {bs:List UInt8} (hr:Row w 1 a bs.length cap (bs.map u8C)) (hn:bs.length<=400000) {k:Int} (yq:Bool) (hk0:0<=k) (hk1:k<=bs.length) (hf:zaM bs k=f) (hfl:f<bs.length) {V:Tk×Int×Int×Int} (hV:V=zbi bs f yq) (hreg:isRg (bs.getD f 0)=true) (h1:f+runN (bs.drop f)≠bs.length) (hd:48<=(bs.getD f 0).toNat/\(bs.getD f 0).toNat<=57) :
  Calls Tryz.prog 84 #[.slice a bs.length cap,.int .i64 k,.bool yq] w (zaB w V):=by
 have HT:=yb (show tokV yq (bs.getD f 0) (bs.drop (f+1))=_ from zbr (X:=⟨none,0,bs,yq⟩) (k:=f) hfl hreg)
 have hnl:¬(runN ((⟨none,0,bs,yq⟩:Src).bs.drop f)=((⟨none,0,bs,yq⟩:Src).bs.drop f).length/\(⟨none,0,bs,yq⟩:Src).yq=false):=by
  show ¬(runN (bs.drop f)=(bs.drop f).length/\yq=false)
  rw [ym]
  intro h;exact h1 (by omega)
 have hnum:(isDg (bs.getD f 0)=true\/bs.getD f 0=43\/bs.getD f 0=45\/bs.getD f 0=46):=by
  exact .inl (by unfold isDg;simp;exact hd)
 have ht:=HT.out
 unfold rgV at ht
 rw [yh hnl,yg hnum] at ht
 rw [List.drop_drop] at ht
 clear HT hnl hnum
 obtain ⟨P,hP⟩:∃P,zaQ (regs (bs.drop f))=P:=⟨_,rfl⟩
 have ht2:tokV yq (bs.getD f 0) (bs.drop (f+1))=(P.2.2,{ kind:=1,vk:=P.1,vn:=P.2.1 },bs.drop (f+runN (bs.drop f))):=by rw [<-hP];exact ht
 have HP:=yb hP
 have HT:=yb ht2
 clear ht ht2 hP
 have HVV:=yb hV
 have HFL:=yb hfl
 have hdl:isDl (bs.getD f 0)=false:=by
  have h:=hreg
  unfold isRg at h
  cases hh:isDl (bs.getD f 0) with
  | false=>rfl
  | true=>rw [hh] at h;simp at h
 have n91:bs.getD f 0≠91:=fun e=>by rw [e] at hreg;exact absurd hreg (by decide)
 have n93:bs.getD f 0≠93:=fun e=>by rw [e] at hreg;exact absurd hreg (by decide)
 have n60:bs.getD f 0≠60:=fun e=>by rw [e] at hreg;exact absurd hreg (by decide)
 have n62:bs.getD f 0≠62:=fun e=>by rw [e] at hreg;exact absurd hreg (by decide)
 have n40:bs.getD f 0≠40:=fun e=>by rw [e] at hreg;exact absurd hreg (by decide)
 have n47:bs.getD f 0≠47:=fun e=>by rw [e] at hreg;exact absurd hreg (by decide)
 have e91:=zau n91 91 rfl
 have e93:=zau n93 93 rfl
 have e60:=zau n60 60 rfl
 have e62:=zau n62 62 rfl
 have e40:=zau n40 40 rfl
 have e47:=zau n47 47 rfl
 obtain ⟨b,off,R,r,x,rfl,hbW,hx,hR,hRL,hrr,hcap,hcm,hkd,hkd2,hff,hffn,hfi,hf9,hrl,hS,hRN,hc,hcf,hZ,hB0⟩:=zaD hr hn hk0 hk1 hf hfl
 have HRW:=yb hr
 have HC:=yb hc
 have HS:=yb hS
 have HRN:=yb hRN
 have HRR:=yb hR
 have HRL:=yb hRL
 have HRE:=yb hrr
 have HZ:=yb hZ
 have HB0:=yb hB0
 clear hS hRN hRL hZ hB0
 have HDL:=yb (fun W=>zaT (bs.getD f 0).toNat W)
 rw [<-zbY,hdl] at HDL
 rw [hx] at HDL e91 e93 e60 e62 e40 e47
 clear n91 n93 n60 n62 n40 n47 hdl hreg
 rw [<-hR] at HT
 have hRt:(bs.drop f).take (R-f)=regs (bs.drop f):=by rw [zba,hR,Nat.add_sub_cancel_left]
 have HRT:=yb hRt
 have hrt:=zbk (bs.drop f)
 have hRf:f<=R:=by omega
 have hRl2:R<=bs.length:=HRL.out
 have hcf1:¬cap=f:=by omega
 have HRlen:=yb (show (regs (bs.drop f)).length<=400000 by show runN _<=_;omega)
 clear hRt hrt
 rw [hx] at hd
 have d1:decide ((48:Int)<=x)=true:=yd (by omega)
 have d2:decide ((x:Int)<=57)=true:=yd (by omega)
 clear hd
 have q1:((R:Int)==(bs.length:Int))=false:=by rw [yf];omega
 have q2:decide (R=bs.length)=false:=ye (by omega)
 clear h1
 clear hr hf hR hrr hrl hk0 hk1 hc hV hx
 go_enter Tryz.func84,Tryz.ntmps84
 go_wp2_with fail
 refine (HS.out _ HB0.out).mono ?_
 rintro e w' ⟨rfl,rfl⟩
 rw [<-HRE.out]
 generalize w.alloc _=W1 at *
 obtain ⟨hcj1,hcj,hbn,hbl,hX⟩:=zaw hbW HRE.out HB0.out hcf HZ.out
 have HX:=yb hX
 clear hcf hX
 go_wp2_with fail
 refine (HRN.out _ HX.out.bel).mono ?_
 rintro e w' ⟨rfl,rfl⟩
 clear hcj1 hcj hbn hbl
 generalize W1.alloc _=W2 at *
 generalize W1.heap.size=p at *
 clear HZ HB0
 have hcv:(convert 22 9 (.slice (some ⟨b,off+f,none⟩) (R-f) (cap-f))).run Tryz.prog W2=.ok (.string (mkB ((bs.drop f).take (R-f)))) W2:=zaW (X:=⟨none,0,bs,true⟩) HC.out f (R-f) (by have:=HRL.out;show f+_<=bs.length;omega) W2 HX.out.bel
 rw [HRT.out] at hcv
 obtain ⟨s,hs⟩:∃s,mkB (regs (bs.drop f))=s:=⟨_,rfl⟩
 have hsb:bl s=regs (bs.drop f):=by rw [<-hs];rfl
 have HPA:=yb (zbD s W2 (by rw [<-zaG,hsb];exact HRlen.out))
 rw [hsb,HP.out] at HPA
 rw [hs] at hcv
 unfold zbs valC zbc at HPA
 clear hs hsb
 go_wp2_with (go_at_call 126;refine (HDL.out _).mono ?_;rintro e w' ⟨rfl,rfl⟩)
 refine HPA.out.mono ?_
 rintro e w3 ⟨rfl,hb3⟩
 have HX3:=yb ((HX.out.on hb3).alloc (.cells #[.int .i64 P.1,.int .i64 P.2.1,.string ⟨#[]⟩,.slice none 0 0] 27))
 clear hb3 hcv HPA
 by_cases her:P.2.2=0
 ·have HV:=yb (HVV.out.trans (za7 HFL.out rfl (x:={ kind:=1,vk:=P.1,vn:=P.2.1 }) (j:=R) (by rw [HT.out,her]) HRL.out))
  rw [her]
  clear her
  obtain ⟨⟨k0,k1,k2,k3,k4,k5,k6,k7⟩,m0,m1,m2,m3,m4,m5,m6,m7⟩:=zag HX3.out.blk
  obtain ⟨⟨n0,n1,n2,n3,n4,n5,n6,n7⟩,-⟩:=zag HX3.out.no
  go_wp2
  refine yi (zaa rfl _ _ r 111 _ (0,0) _ rfl (set8 HX3.out.blk _ _ _ _ _ _ _ _) Tryz.underlying111 rfl zaq _ rfl) rfl ?_
  exact zat (x:={ kind:=1,vk:=P.1,vn:=P.2.1 }) HX3.out.bel HX3.out.wr HV.out _ _ _ _ _ _ _ _
 ·have HV:=yb (HVV.out.trans (zaZ (e:=P.2.2) HFL.out rfl (by rw [HT.out]) her))
  have er1:(P.2.2==0)=false:=by rw [yf];exact her
  have er2:(P.2.2 != 0)=true:=by simp only [bne,er1,yj]
  clear her
  obtain ⟨⟨k0,k1,k2,k3,k4,k5,k6,k7⟩,m0,m1,m2,m3,m4,m5,m6,m7⟩:=zag HX3.out.blk
  obtain ⟨⟨n0,n1,n2,n3,n4,n5,n6,n7⟩,-⟩:=zag HX3.out.no
  go_wp2
  refine yi (zaa rfl _ _ r 111 _ (0,0) _ rfl (set8 HX3.out.blk _ _ _ _ _ _ _ _) Tryz.underlying111 rfl zaq _ rfl) rfl ?_
  exact zat (x:={ kind:=0 }) HX3.out.bel HX3.out.wr HV.out _ _ _ _ _ _ _ _
theorem rnext_43_in {w:World} {a:Option Addr} {cap:Nat} {bs:List UInt8} (hr:Row w 1 a bs.length cap (bs.map u8C)) (hn:bs.length<=400000) {k:Int} (yq:Bool) (hk0:0<=k) (hk1:k<=bs.length) (hf:zaM bs k=f) (hfl:f<bs.length) {V:Tk×Int×Int×Int} (hV:V=zbi bs f yq) (hreg:isRg (bs.getD f 0)=true) (h1:f+runN (bs.drop f)≠bs.length) (hc0:bs.getD f 0=43) :
  Calls Tryz.prog 84 #[.slice a bs.length cap,.int .i64 k,.bool yq] w (zaB w V):=by
 have HT:=yb (show tokV yq (bs.getD f 0) (bs.drop (f+1))=_ from zbr (X:=⟨none,0,bs,yq⟩) (k:=f) hfl hreg)
 have hnl:¬(runN ((⟨none,0,bs,yq⟩:Src).bs.drop f)=((⟨none,0,bs,yq⟩:Src).bs.drop f).length/\(⟨none,0,bs,yq⟩:Src).yq=false):=by
  show ¬(runN (bs.drop f)=(bs.drop f).length/\yq=false)
  rw [ym]
  intro h;exact h1 (by omega)
 have hnum:(isDg (bs.getD f 0)=true\/bs.getD f 0=43\/bs.getD f 0=45\/bs.getD f 0=46):=by
  exact .inr (.inl hc0)
 have ht:=HT.out
 unfold rgV at ht
 rw [yh hnl,yg hnum] at ht
 rw [List.drop_drop] at ht
 clear HT hnl hnum
 obtain ⟨P,hP⟩:∃P,zaQ (regs (bs.drop f))=P:=⟨_,rfl⟩
 have ht2:tokV yq (bs.getD f 0) (bs.drop (f+1))=(P.2.2,{ kind:=1,vk:=P.1,vn:=P.2.1 },bs.drop (f+runN (bs.drop f))):=by rw [<-hP];exact ht
 have HP:=yb hP
 have HT:=yb ht2
 clear ht ht2 hP
 have HVV:=yb hV
 have HFL:=yb hfl
 have hdl:isDl (bs.getD f 0)=false:=by
  have h:=hreg
  unfold isRg at h
  cases hh:isDl (bs.getD f 0) with
  | false=>rfl
  | true=>rw [hh] at h;simp at h
 have n91:bs.getD f 0≠91:=fun e=>by rw [e] at hreg;exact absurd hreg (by decide)
 have n93:bs.getD f 0≠93:=fun e=>by rw [e] at hreg;exact absurd hreg (by decide)
 have n60:bs.getD f 0≠60:=fun e=>by rw [e] at hreg;exact absurd hreg (by decide)
 have n62:bs.getD f 0≠62:=fun e=>by rw [e] at hreg;exact absurd hreg (by decide)
 have n40:bs.getD f 0≠40:=fun e=>by rw [e] at hreg;exact absurd hreg (by decide)
 have n47:bs.getD f 0≠47:=fun e=>by rw [e] at hreg;exact absurd hreg (by decide)
 have e91:=zau n91 91 rfl
 have e93:=zau n93 93 rfl
 have e60:=zau n60 60 rfl
 have e62:=zau n62 62 rfl
 have e40:=zau n40 40 rfl
 have e47:=zau n47 47 rfl
 obtain ⟨b,off,R,r,x,rfl,hbW,hx,hR,hRL,hrr,hcap,hcm,hkd,hkd2,hff,hffn,hfi,hf9,hrl,hS,hRN,hc,hcf,hZ,hB0⟩:=zaD hr hn hk0 hk1 hf hfl
 have HRW:=yb hr
 have HC:=yb hc
 have HS:=yb hS
 have HRN:=yb hRN
 have HRR:=yb hR
 have HRL:=yb hRL
 have HRE:=yb hrr
 have HZ:=yb hZ
 have HB0:=yb hB0
 clear hS hRN hRL hZ hB0
 have HDL:=yb (fun W=>zaT (bs.getD f 0).toNat W)
 rw [<-zbY,hdl] at HDL
 rw [hx] at HDL e91 e93 e60 e62 e40 e47
 clear n91 n93 n60 n62 n40 n47 hdl hreg
 rw [<-hR] at HT
 have hRt:(bs.drop f).take (R-f)=regs (bs.drop f):=by rw [zba,hR,Nat.add_sub_cancel_left]
 have HRT:=yb hRt
 have hrt:=zbk (bs.drop f)
 have hRf:f<=R:=by omega
 have hRl2:R<=bs.length:=HRL.out
 have hcf1:¬cap=f:=by omega
 have HRlen:=yb (show (regs (bs.drop f)).length<=400000 by show runN _<=_;omega)
 clear hRt hrt
 obtain rfl:x=43:=by rw [<-hx,hc0];rfl
 clear hc0
 have q1:((R:Int)==(bs.length:Int))=false:=by rw [yf];omega
 have q2:decide (R=bs.length)=false:=ye (by omega)
 clear h1
 clear hr hf hR hrr hrl hk0 hk1 hc hV hx
 go_enter Tryz.func84,Tryz.ntmps84
 go_wp2_with fail
 refine (HS.out _ HB0.out).mono ?_
 rintro e w' ⟨rfl,rfl⟩
 rw [<-HRE.out]
 generalize w.alloc _=W1 at *
 obtain ⟨hcj1,hcj,hbn,hbl,hX⟩:=zaw hbW HRE.out HB0.out hcf HZ.out
 have HX:=yb hX
 clear hcf hX
 go_wp2_with fail
 refine (HRN.out _ HX.out.bel).mono ?_
 rintro e w' ⟨rfl,rfl⟩
 clear hcj1 hcj hbn hbl
 generalize W1.alloc _=W2 at *
 generalize W1.heap.size=p at *
 clear HZ HB0
 have hcv:(convert 22 9 (.slice (some ⟨b,off+f,none⟩) (R-f) (cap-f))).run Tryz.prog W2=.ok (.string (mkB ((bs.drop f).take (R-f)))) W2:=zaW (X:=⟨none,0,bs,true⟩) HC.out f (R-f) (by have:=HRL.out;show f+_<=bs.length;omega) W2 HX.out.bel
 rw [HRT.out] at hcv
 obtain ⟨s,hs⟩:∃s,mkB (regs (bs.drop f))=s:=⟨_,rfl⟩
 have hsb:bl s=regs (bs.drop f):=by rw [<-hs];rfl
 have HPA:=yb (zbD s W2 (by rw [<-zaG,hsb];exact HRlen.out))
 rw [hsb,HP.out] at HPA
 rw [hs] at hcv
 unfold zbs valC zbc at HPA
 clear hs hsb
 go_wp2_with (go_at_call 126;refine (HDL.out _).mono ?_;rintro e w' ⟨rfl,rfl⟩)
 refine HPA.out.mono ?_
 rintro e w3 ⟨rfl,hb3⟩
 have HX3:=yb ((HX.out.on hb3).alloc (.cells #[.int .i64 P.1,.int .i64 P.2.1,.string ⟨#[]⟩,.slice none 0 0] 27))
 clear hb3 hcv HPA
 by_cases her:P.2.2=0
 ·have HV:=yb (HVV.out.trans (za7 HFL.out rfl (x:={ kind:=1,vk:=P.1,vn:=P.2.1 }) (j:=R) (by rw [HT.out,her]) HRL.out))
  rw [her]
  clear her
  obtain ⟨⟨k0,k1,k2,k3,k4,k5,k6,k7⟩,m0,m1,m2,m3,m4,m5,m6,m7⟩:=zag HX3.out.blk
  obtain ⟨⟨n0,n1,n2,n3,n4,n5,n6,n7⟩,-⟩:=zag HX3.out.no
  go_wp2
  refine yi (zaa rfl _ _ r 111 _ (0,0) _ rfl (set8 HX3.out.blk _ _ _ _ _ _ _ _) Tryz.underlying111 rfl zaq _ rfl) rfl ?_
  exact zat (x:={ kind:=1,vk:=P.1,vn:=P.2.1 }) HX3.out.bel HX3.out.wr HV.out _ _ _ _ _ _ _ _
 ·have HV:=yb (HVV.out.trans (zaZ (e:=P.2.2) HFL.out rfl (by rw [HT.out]) her))
  have er1:(P.2.2==0)=false:=by rw [yf];exact her
  have er2:(P.2.2 != 0)=true:=by simp only [bne,er1,yj]
  clear her
  obtain ⟨⟨k0,k1,k2,k3,k4,k5,k6,k7⟩,m0,m1,m2,m3,m4,m5,m6,m7⟩:=zag HX3.out.blk
  obtain ⟨⟨n0,n1,n2,n3,n4,n5,n6,n7⟩,-⟩:=zag HX3.out.no
  go_wp2
  refine yi (zaa rfl _ _ r 111 _ (0,0) _ rfl (set8 HX3.out.blk _ _ _ _ _ _ _ _) Tryz.underlying111 rfl zaq _ rfl) rfl ?_
  exact zat (x:={ kind:=0 }) HX3.out.bel HX3.out.wr HV.out _ _ _ _ _ _ _ _
theorem rnext_45_in {w:World} {a:Option Addr} {cap:Nat} {bs:List UInt8} (hr:Row w 1 a bs.length cap (bs.map u8C)) (hn:bs.length<=400000) {k:Int} (yq:Bool) (hk0:0<=k) (hk1:k<=bs.length) (hf:zaM bs k=f) (hfl:f<bs.length) {V:Tk×Int×Int×Int} (hV:V=zbi bs f yq) (hreg:isRg (bs.getD f 0)=true) (h1:f+runN (bs.drop f)≠bs.length) (hc0:bs.getD f 0=45) :
  Calls Tryz.prog 84 #[.slice a bs.length cap,.int .i64 k,.bool yq] w (zaB w V):=by
 have HT:=yb (show tokV yq (bs.getD f 0) (bs.drop (f+1))=_ from zbr (X:=⟨none,0,bs,yq⟩) (k:=f) hfl hreg)
 have hnl:¬(runN ((⟨none,0,bs,yq⟩:Src).bs.drop f)=((⟨none,0,bs,yq⟩:Src).bs.drop f).length/\(⟨none,0,bs,yq⟩:Src).yq=false):=by
  show ¬(runN (bs.drop f)=(bs.drop f).length/\yq=false)
  rw [ym]
  intro h;exact h1 (by omega)
 have hnum:(isDg (bs.getD f 0)=true\/bs.getD f 0=43\/bs.getD f 0=45\/bs.getD f 0=46):=by
  exact .inr (.inr (.inl hc0))
 have ht:=HT.out
 unfold rgV at ht
 rw [yh hnl,yg hnum] at ht
 rw [List.drop_drop] at ht
 clear HT hnl hnum
 obtain ⟨P,hP⟩:∃P,zaQ (regs (bs.drop f))=P:=⟨_,rfl⟩
 have ht2:tokV yq (bs.getD f 0) (bs.drop (f+1))=(P.2.2,{ kind:=1,vk:=P.1,vn:=P.2.1 },bs.drop (f+runN (bs.drop f))):=by rw [<-hP];exact ht
 have HP:=yb hP
 have HT:=yb ht2
 clear ht ht2 hP
 have HVV:=yb hV
 have HFL:=yb hfl
 have hdl:isDl (bs.getD f 0)=false:=by
  have h:=hreg
  unfold isRg at h
  cases hh:isDl (bs.getD f 0) with
  | false=>rfl
  | true=>rw [hh] at h;simp at h
 have n91:bs.getD f 0≠91:=fun e=>by rw [e] at hreg;exact absurd hreg (by decide)
 have n93:bs.getD f 0≠93:=fun e=>by rw [e] at hreg;exact absurd hreg (by decide)
 have n60:bs.getD f 0≠60:=fun e=>by rw [e] at hreg;exact absurd hreg (by decide)
 have n62:bs.getD f 0≠62:=fun e=>by rw [e] at hreg;exact absurd hreg (by decide)
 have n40:bs.getD f 0≠40:=fun e=>by rw [e] at hreg;exact absurd hreg (by decide)
 have n47:bs.getD f 0≠47:=fun e=>by rw [e] at hreg;exact absurd hreg (by decide)
 have e91:=zau n91 91 rfl
 have e93:=zau n93 93 rfl
 have e60:=zau n60 60 rfl
 have e62:=zau n62 62 rfl
 have e40:=zau n40 40 rfl
 have e47:=zau n47 47 rfl
 obtain ⟨b,off,R,r,x,rfl,hbW,hx,hR,hRL,hrr,hcap,hcm,hkd,hkd2,hff,hffn,hfi,hf9,hrl,hS,hRN,hc,hcf,hZ,hB0⟩:=zaD hr hn hk0 hk1 hf hfl
 have HRW:=yb hr
 have HC:=yb hc
 have HS:=yb hS
 have HRN:=yb hRN
 have HRR:=yb hR
 have HRL:=yb hRL
 have HRE:=yb hrr
 have HZ:=yb hZ
 have HB0:=yb hB0
 clear hS hRN hRL hZ hB0
 have HDL:=yb (fun W=>zaT (bs.getD f 0).toNat W)
 rw [<-zbY,hdl] at HDL
 rw [hx] at HDL e91 e93 e60 e62 e40 e47
 clear n91 n93 n60 n62 n40 n47 hdl hreg
 rw [<-hR] at HT
 have hRt:(bs.drop f).take (R-f)=regs (bs.drop f):=by rw [zba,hR,Nat.add_sub_cancel_left]
 have HRT:=yb hRt
 have hrt:=zbk (bs.drop f)
 have hRf:f<=R:=by omega
 have hRl2:R<=bs.length:=HRL.out
 have hcf1:¬cap=f:=by omega
 have HRlen:=yb (show (regs (bs.drop f)).length<=400000 by show runN _<=_;omega)
 clear hRt hrt
 obtain rfl:x=45:=by rw [<-hx,hc0];rfl
 clear hc0
 have q1:((R:Int)==(bs.length:Int))=false:=by rw [yf];omega
 have q2:decide (R=bs.length)=false:=ye (by omega)
 clear h1
 clear hr hf hR hrr hrl hk0 hk1 hc hV hx
 go_enter Tryz.func84,Tryz.ntmps84
 go_wp2_with fail
 refine (HS.out _ HB0.out).mono ?_
 rintro e w' ⟨rfl,rfl⟩
 rw [<-HRE.out]
 generalize w.alloc _=W1 at *
 obtain ⟨hcj1,hcj,hbn,hbl,hX⟩:=zaw hbW HRE.out HB0.out hcf HZ.out
 have HX:=yb hX
 clear hcf hX
 go_wp2_with fail
 refine (HRN.out _ HX.out.bel).mono ?_
 rintro e w' ⟨rfl,rfl⟩
 clear hcj1 hcj hbn hbl
 generalize W1.alloc _=W2 at *
 generalize W1.heap.size=p at *
 clear HZ HB0
 have hcv:(convert 22 9 (.slice (some ⟨b,off+f,none⟩) (R-f) (cap-f))).run Tryz.prog W2=.ok (.string (mkB ((bs.drop f).take (R-f)))) W2:=zaW (X:=⟨none,0,bs,true⟩) HC.out f (R-f) (by have:=HRL.out;show f+_<=bs.length;omega) W2 HX.out.bel
 rw [HRT.out] at hcv
 obtain ⟨s,hs⟩:∃s,mkB (regs (bs.drop f))=s:=⟨_,rfl⟩
 have hsb:bl s=regs (bs.drop f):=by rw [<-hs];rfl
 have HPA:=yb (zbD s W2 (by rw [<-zaG,hsb];exact HRlen.out))
 rw [hsb,HP.out] at HPA
 rw [hs] at hcv
 unfold zbs valC zbc at HPA
 clear hs hsb
 go_wp2_with (go_at_call 126;refine (HDL.out _).mono ?_;rintro e w' ⟨rfl,rfl⟩)
 refine HPA.out.mono ?_
 rintro e w3 ⟨rfl,hb3⟩
 have HX3:=yb ((HX.out.on hb3).alloc (.cells #[.int .i64 P.1,.int .i64 P.2.1,.string ⟨#[]⟩,.slice none 0 0] 27))
 clear hb3 hcv HPA
 by_cases her:P.2.2=0
 ·have HV:=yb (HVV.out.trans (za7 HFL.out rfl (x:={ kind:=1,vk:=P.1,vn:=P.2.1 }) (j:=R) (by rw [HT.out,her]) HRL.out))
  rw [her]
  clear her
  obtain ⟨⟨k0,k1,k2,k3,k4,k5,k6,k7⟩,m0,m1,m2,m3,m4,m5,m6,m7⟩:=zag HX3.out.blk
  obtain ⟨⟨n0,n1,n2,n3,n4,n5,n6,n7⟩,-⟩:=zag HX3.out.no
  go_wp2
  refine yi (zaa rfl _ _ r 111 _ (0,0) _ rfl (set8 HX3.out.blk _ _ _ _ _ _ _ _) Tryz.underlying111 rfl zaq _ rfl) rfl ?_
  exact zat (x:={ kind:=1,vk:=P.1,vn:=P.2.1 }) HX3.out.bel HX3.out.wr HV.out _ _ _ _ _ _ _ _
 ·have HV:=yb (HVV.out.trans (zaZ (e:=P.2.2) HFL.out rfl (by rw [HT.out]) her))
  have er1:(P.2.2==0)=false:=by rw [yf];exact her
  have er2:(P.2.2 != 0)=true:=by simp only [bne,er1,yj]
  clear her
  obtain ⟨⟨k0,k1,k2,k3,k4,k5,k6,k7⟩,m0,m1,m2,m3,m4,m5,m6,m7⟩:=zag HX3.out.blk
  obtain ⟨⟨n0,n1,n2,n3,n4,n5,n6,n7⟩,-⟩:=zag HX3.out.no
  go_wp2
  refine yi (zaa rfl _ _ r 111 _ (0,0) _ rfl (set8 HX3.out.blk _ _ _ _ _ _ _ _) Tryz.underlying111 rfl zaq _ rfl) rfl ?_
  exact zat (x:={ kind:=0 }) HX3.out.bel HX3.out.wr HV.out _ _ _ _ _ _ _ _
theorem rnext_46_in {w:World} {a:Option Addr} {cap:Nat} {bs:List UInt8} (hr:Row w 1 a bs.length cap (bs.map u8C)) (hn:bs.length<=400000) {k:Int} (yq:Bool) (hk0:0<=k) (hk1:k<=bs.length) (hf:zaM bs k=f) (hfl:f<bs.length) {V:Tk×Int×Int×Int} (hV:V=zbi bs f yq) (hreg:isRg (bs.getD f 0)=true) (h1:f+runN (bs.drop f)≠bs.length) (hc0:bs.getD f 0=46) :
  Calls Tryz.prog 84 #[.slice a bs.length cap,.int .i64 k,.bool yq] w (zaB w V):=by
 have HT:=yb (show tokV yq (bs.getD f 0) (bs.drop (f+1))=_ from zbr (X:=⟨none,0,bs,yq⟩) (k:=f) hfl hreg)
 have hnl:¬(runN ((⟨none,0,bs,yq⟩:Src).bs.drop f)=((⟨none,0,bs,yq⟩:Src).bs.drop f).length/\(⟨none,0,bs,yq⟩:Src).yq=false):=by
  show ¬(runN (bs.drop f)=(bs.drop f).length/\yq=false)
  rw [ym]
  intro h;exact h1 (by omega)
 have hnum:(isDg (bs.getD f 0)=true\/bs.getD f 0=43\/bs.getD f 0=45\/bs.getD f 0=46):=by
  exact .inr (.inr (.inr hc0))
 have ht:=HT.out
 unfold rgV at ht
 rw [yh hnl,yg hnum] at ht
 rw [List.drop_drop] at ht
 clear HT hnl hnum
 obtain ⟨P,hP⟩:∃P,zaQ (regs (bs.drop f))=P:=⟨_,rfl⟩
 have ht2:tokV yq (bs.getD f 0) (bs.drop (f+1))=(P.2.2,{ kind:=1,vk:=P.1,vn:=P.2.1 },bs.drop (f+runN (bs.drop f))):=by rw [<-hP];exact ht
 have HP:=yb hP
 have HT:=yb ht2
 clear ht ht2 hP
 have HVV:=yb hV
 have HFL:=yb hfl
 have hdl:isDl (bs.getD f 0)=false:=by
  have h:=hreg
  unfold isRg at h
  cases hh:isDl (bs.getD f 0) with
  | false=>rfl
  | true=>rw [hh] at h;simp at h
 have n91:bs.getD f 0≠91:=fun e=>by rw [e] at hreg;exact absurd hreg (by decide)
 have n93:bs.getD f 0≠93:=fun e=>by rw [e] at hreg;exact absurd hreg (by decide)
 have n60:bs.getD f 0≠60:=fun e=>by rw [e] at hreg;exact absurd hreg (by decide)
 have n62:bs.getD f 0≠62:=fun e=>by rw [e] at hreg;exact absurd hreg (by decide)
 have n40:bs.getD f 0≠40:=fun e=>by rw [e] at hreg;exact absurd hreg (by decide)
 have n47:bs.getD f 0≠47:=fun e=>by rw [e] at hreg;exact absurd hreg (by decide)
 have e91:=zau n91 91 rfl
 have e93:=zau n93 93 rfl
 have e60:=zau n60 60 rfl
 have e62:=zau n62 62 rfl
 have e40:=zau n40 40 rfl
 have e47:=zau n47 47 rfl
 obtain ⟨b,off,R,r,x,rfl,hbW,hx,hR,hRL,hrr,hcap,hcm,hkd,hkd2,hff,hffn,hfi,hf9,hrl,hS,hRN,hc,hcf,hZ,hB0⟩:=zaD hr hn hk0 hk1 hf hfl
 have HRW:=yb hr
 have HC:=yb hc
 have HS:=yb hS
 have HRN:=yb hRN
 have HRR:=yb hR
 have HRL:=yb hRL
 have HRE:=yb hrr
 have HZ:=yb hZ
 have HB0:=yb hB0
 clear hS hRN hRL hZ hB0
 have HDL:=yb (fun W=>zaT (bs.getD f 0).toNat W)
 rw [<-zbY,hdl] at HDL
 rw [hx] at HDL e91 e93 e60 e62 e40 e47
 clear n91 n93 n60 n62 n40 n47 hdl hreg
 rw [<-hR] at HT
 have hRt:(bs.drop f).take (R-f)=regs (bs.drop f):=by rw [zba,hR,Nat.add_sub_cancel_left]
 have HRT:=yb hRt
 have hrt:=zbk (bs.drop f)
 have hRf:f<=R:=by omega
 have hRl2:R<=bs.length:=HRL.out
 have hcf1:¬cap=f:=by omega
 have HRlen:=yb (show (regs (bs.drop f)).length<=400000 by show runN _<=_;omega)
 clear hRt hrt
 obtain rfl:x=46:=by rw [<-hx,hc0];rfl
 clear hc0
 have q1:((R:Int)==(bs.length:Int))=false:=by rw [yf];omega
 have q2:decide (R=bs.length)=false:=ye (by omega)
 clear h1
 clear hr hf hR hrr hrl hk0 hk1 hc hV hx
 go_enter Tryz.func84,Tryz.ntmps84
 go_wp2_with fail
 refine (HS.out _ HB0.out).mono ?_
 rintro e w' ⟨rfl,rfl⟩
 rw [<-HRE.out]
 generalize w.alloc _=W1 at *
 obtain ⟨hcj1,hcj,hbn,hbl,hX⟩:=zaw hbW HRE.out HB0.out hcf HZ.out
 have HX:=yb hX
 clear hcf hX
 go_wp2_with fail
 refine (HRN.out _ HX.out.bel).mono ?_
 rintro e w' ⟨rfl,rfl⟩
 clear hcj1 hcj hbn hbl
 generalize W1.alloc _=W2 at *
 generalize W1.heap.size=p at *
 clear HZ HB0
 have hcv:(convert 22 9 (.slice (some ⟨b,off+f,none⟩) (R-f) (cap-f))).run Tryz.prog W2=.ok (.string (mkB ((bs.drop f).take (R-f)))) W2:=zaW (X:=⟨none,0,bs,true⟩) HC.out f (R-f) (by have:=HRL.out;show f+_<=bs.length;omega) W2 HX.out.bel
 rw [HRT.out] at hcv
 obtain ⟨s,hs⟩:∃s,mkB (regs (bs.drop f))=s:=⟨_,rfl⟩
 have hsb:bl s=regs (bs.drop f):=by rw [<-hs];rfl
 have HPA:=yb (zbD s W2 (by rw [<-zaG,hsb];exact HRlen.out))
 rw [hsb,HP.out] at HPA
 rw [hs] at hcv
 unfold zbs valC zbc at HPA
 clear hs hsb
 go_wp2_with (go_at_call 126;refine (HDL.out _).mono ?_;rintro e w' ⟨rfl,rfl⟩)
 refine HPA.out.mono ?_
 rintro e w3 ⟨rfl,hb3⟩
 have HX3:=yb ((HX.out.on hb3).alloc (.cells #[.int .i64 P.1,.int .i64 P.2.1,.string ⟨#[]⟩,.slice none 0 0] 27))
 clear hb3 hcv HPA
 by_cases her:P.2.2=0
 ·have HV:=yb (HVV.out.trans (za7 HFL.out rfl (x:={ kind:=1,vk:=P.1,vn:=P.2.1 }) (j:=R) (by rw [HT.out,her]) HRL.out))
  rw [her]
  clear her
  obtain ⟨⟨k0,k1,k2,k3,k4,k5,k6,k7⟩,m0,m1,m2,m3,m4,m5,m6,m7⟩:=zag HX3.out.blk
  obtain ⟨⟨n0,n1,n2,n3,n4,n5,n6,n7⟩,-⟩:=zag HX3.out.no
  go_wp2
  refine yi (zaa rfl _ _ r 111 _ (0,0) _ rfl (set8 HX3.out.blk _ _ _ _ _ _ _ _) Tryz.underlying111 rfl zaq _ rfl) rfl ?_
  exact zat (x:={ kind:=1,vk:=P.1,vn:=P.2.1 }) HX3.out.bel HX3.out.wr HV.out _ _ _ _ _ _ _ _
 ·have HV:=yb (HVV.out.trans (zaZ (e:=P.2.2) HFL.out rfl (by rw [HT.out]) her))
  have er1:(P.2.2==0)=false:=by rw [yf];exact her
  have er2:(P.2.2 != 0)=true:=by simp only [bne,er1,yj]
  clear her
  obtain ⟨⟨k0,k1,k2,k3,k4,k5,k6,k7⟩,m0,m1,m2,m3,m4,m5,m6,m7⟩:=zag HX3.out.blk
  obtain ⟨⟨n0,n1,n2,n3,n4,n5,n6,n7⟩,-⟩:=zag HX3.out.no
  go_wp2
  refine yi (zaa rfl _ _ r 111 _ (0,0) _ rfl (set8 HX3.out.blk _ _ _ _ _ _ _ _) Tryz.underlying111 rfl zaq _ rfl) rfl ?_
  exact zat (x:={ kind:=0 }) HX3.out.bel HX3.out.wr HV.out _ _ _ _ _ _ _ _
theorem rnext_low_in {w:World} {a:Option Addr} {cap:Nat} {bs:List UInt8} (hr:Row w 1 a bs.length cap (bs.map u8C)) (hn:bs.length<=400000) {k:Int} (yq:Bool) (hk0:0<=k) (hk1:k<=bs.length) (hf:zaM bs k=f) (hfl:f<bs.length) {V:Tk×Int×Int×Int} (hV:V=zbi bs f yq) (hreg:isRg (bs.getD f 0)=true) (h1:f+runN (bs.drop f)≠bs.length) (hd:(bs.getD f 0).toNat<48/\bs.getD f 0≠43/\bs.getD f 0≠45/\bs.getD f 0≠46) :
  Calls Tryz.prog 84 #[.slice a bs.length cap,.int .i64 k,.bool yq] w (zaB w V):=by
 have HT:=yb (show tokV yq (bs.getD f 0) (bs.drop (f+1))=_ from zbr (X:=⟨none,0,bs,yq⟩) (k:=f) hfl hreg)
 have hnl:¬(runN ((⟨none,0,bs,yq⟩:Src).bs.drop f)=((⟨none,0,bs,yq⟩:Src).bs.drop f).length/\(⟨none,0,bs,yq⟩:Src).yq=false):=by
  show ¬(runN (bs.drop f)=(bs.drop f).length/\yq=false)
  rw [ym]
  intro h;exact h1 (by omega)
 have hnum:¬(isDg (bs.getD f 0)=true\/bs.getD f 0=43\/bs.getD f 0=45\/bs.getD f 0=46):=by
  rintro (h|h|h|h)
  ·have h2:=za6.1 h;have:=hd.1;omega
  ·exact hd.2.1 h
  ·exact hd.2.2.1 h
  ·exact hd.2.2.2 h
 have ht:=HT.out
 unfold rgV at ht
 rw [yh hnl,yh hnum] at ht
 rw [List.drop_drop] at ht
 clear HT hnl hnum
 have HT:=yb (show tokV yq (bs.getD f 0) (bs.drop (f+1))=(0,{ kind:=6,s:=regs (bs.drop f) },bs.drop (f+runN (bs.drop f))) from ht)
 clear ht
 have HVV:=yb hV
 have HFL:=yb hfl
 have hdl:isDl (bs.getD f 0)=false:=by
  have h:=hreg
  unfold isRg at h
  cases hh:isDl (bs.getD f 0) with
  | false=>rfl
  | true=>rw [hh] at h;simp at h
 have n91:bs.getD f 0≠91:=fun e=>by rw [e] at hreg;exact absurd hreg (by decide)
 have n93:bs.getD f 0≠93:=fun e=>by rw [e] at hreg;exact absurd hreg (by decide)
 have n60:bs.getD f 0≠60:=fun e=>by rw [e] at hreg;exact absurd hreg (by decide)
 have n62:bs.getD f 0≠62:=fun e=>by rw [e] at hreg;exact absurd hreg (by decide)
 have n40:bs.getD f 0≠40:=fun e=>by rw [e] at hreg;exact absurd hreg (by decide)
 have n47:bs.getD f 0≠47:=fun e=>by rw [e] at hreg;exact absurd hreg (by decide)
 have e91:=zau n91 91 rfl
 have e93:=zau n93 93 rfl
 have e60:=zau n60 60 rfl
 have e62:=zau n62 62 rfl
 have e40:=zau n40 40 rfl
 have e47:=zau n47 47 rfl
 have e43:=zau hd.2.1 43 rfl
 have e45:=zau hd.2.2.1 45 rfl
 have e46:=zau hd.2.2.2 46 rfl
 have hd0:=hd.1
 clear hd
 obtain ⟨b,off,R,r,x,rfl,hbW,hx,hR,hRL,hrr,hcap,hcm,hkd,hkd2,hff,hffn,hfi,hf9,hrl,hS,hRN,hc,hcf,hZ,hB0⟩:=zaD hr hn hk0 hk1 hf hfl
 have HRW:=yb hr
 have HC:=yb hc
 have HS:=yb hS
 have HRN:=yb hRN
 have HRR:=yb hR
 have HRL:=yb hRL
 have HRE:=yb hrr
 have HZ:=yb hZ
 have HB0:=yb hB0
 clear hS hRN hRL hZ hB0
 have HDL:=yb (fun W=>zaT (bs.getD f 0).toNat W)
 rw [<-zbY,hdl] at HDL
 rw [hx] at HDL e91 e93 e60 e62 e40 e47
 clear n91 n93 n60 n62 n40 n47 hdl hreg
 rw [<-hR] at HT
 have hRt:(bs.drop f).take (R-f)=regs (bs.drop f):=by rw [zba,hR,Nat.add_sub_cancel_left]
 have HRT:=yb hRt
 have hrt:=zbk (bs.drop f)
 have hRf:f<=R:=by omega
 have hRl2:R<=bs.length:=HRL.out
 have hcf1:¬cap=f:=by omega
 have HRlen:=yb (show (regs (bs.drop f)).length<=400000 by show runN _<=_;omega)
 clear hRt hrt
 rw [hx] at hd0 e43 e45 e46
 have d1:decide ((48:Int)<=x)=false:=ye (by omega)
 clear hd0
 have q1:((R:Int)==(bs.length:Int))=false:=by rw [yf];omega
 have q2:decide (R=bs.length)=false:=ye (by omega)
 clear h1
 clear hr hf hR hrr hrl hk0 hk1 hc hV hx
 go_enter Tryz.func84,Tryz.ntmps84
 go_wp2_with fail
 refine (HS.out _ HB0.out).mono ?_
 rintro e w' ⟨rfl,rfl⟩
 rw [<-HRE.out]
 generalize w.alloc _=W1 at *
 obtain ⟨hcj1,hcj,hbn,hbl,hX⟩:=zaw hbW HRE.out HB0.out hcf HZ.out
 have HX:=yb hX
 clear hcf hX
 go_wp2_with fail
 refine (HRN.out _ HX.out.bel).mono ?_
 rintro e w' ⟨rfl,rfl⟩
 clear hcj1 hcj hbn hbl
 generalize W1.alloc _=W2 at *
 generalize W1.heap.size=p at *
 clear HZ HB0
 have hcv:(convert 22 9 (.slice (some ⟨b,off+f,none⟩) (R-f) (cap-f))).run Tryz.prog W2=.ok (.string (mkB ((bs.drop f).take (R-f)))) W2:=zaW (X:=⟨none,0,bs,true⟩) HC.out f (R-f) (by have:=HRL.out;show f+_<=bs.length;omega) W2 HX.out.bel
 rw [HRT.out] at hcv
 have HV:=yb (HVV.out.trans (za7 HFL.out rfl (x:={ kind:=6,s:=regs (bs.drop f) }) (j:=R) HT.out HRL.out))
 obtain ⟨⟨k0,k1,k2,k3,k4,k5,k6,k7⟩,m0,m1,m2,m3,m4,m5,m6,m7⟩:=zag HX.out.blk
 obtain ⟨⟨n0,n1,n2,n3,n4,n5,n6,n7⟩,-⟩:=zag HX.out.no
 go_wp2_with (go_at_call 126;refine (HDL.out _).mono ?_;rintro e w' ⟨rfl,rfl⟩)
 refine yi (zaa rfl _ _ r 111 _ (0,0) _ rfl (set8 HX.out.blk _ _ _ _ _ _ _ _) Tryz.underlying111 rfl zaq _ rfl) rfl ?_
 exact zat (x:={ kind:=6,s:=regs (bs.drop f) }) HX.out.bel HX.out.wr HV.out _ _ _ _ _ _ _ _
theorem zgJ {w:World} {a:Option Addr} {cap:Nat} {bs:List UInt8} (hr:Row w 1 a bs.length cap (bs.map u8C)) (hn:bs.length<=400000) {k:Int} (yq:Bool) (hk0:0<=k) (hk1:k<=bs.length) (hf:zaM bs k=f) (hfl:f<bs.length) {V:Tk×Int×Int×Int} (hV:V=zbi bs f yq) (hreg:isRg (bs.getD f 0)=true) (h1:f+runN (bs.drop f)≠bs.length) (hd:57<(bs.getD f 0).toNat) :
  Calls Tryz.prog 84 #[.slice a bs.length cap,.int .i64 k,.bool yq] w (zaB w V):=by
 have HT:=yb (show tokV yq (bs.getD f 0) (bs.drop (f+1))=_ from zbr (X:=⟨none,0,bs,yq⟩) (k:=f) hfl hreg)
 have hnl:¬(runN ((⟨none,0,bs,yq⟩:Src).bs.drop f)=((⟨none,0,bs,yq⟩:Src).bs.drop f).length/\(⟨none,0,bs,yq⟩:Src).yq=false):=by
  show ¬(runN (bs.drop f)=(bs.drop f).length/\yq=false)
  rw [ym]
  intro h;exact h1 (by omega)
 have hnum:¬(isDg (bs.getD f 0)=true\/bs.getD f 0=43\/bs.getD f 0=45\/bs.getD f 0=46):=by
  rintro (h|h|h|h)
  ·have h2:=za6.1 h;omega
  ·rw [h] at hd;exact absurd hd (by decide)
  ·rw [h] at hd;exact absurd hd (by decide)
  ·rw [h] at hd;exact absurd hd (by decide)
 have ht:=HT.out
 unfold rgV at ht
 rw [yh hnl,yh hnum] at ht
 rw [List.drop_drop] at ht
 clear HT hnl hnum
 have HT:=yb (show tokV yq (bs.getD f 0) (bs.drop (f+1))=(0,{ kind:=6,s:=regs (bs.drop f) },bs.drop (f+runN (bs.drop f))) from ht)
 clear ht
 have HVV:=yb hV
 have HFL:=yb hfl
 have hdl:isDl (bs.getD f 0)=false:=by
  have h:=hreg
  unfold isRg at h
  cases hh:isDl (bs.getD f 0) with
  | false=>rfl
  | true=>rw [hh] at h;simp at h
 have n91:bs.getD f 0≠91:=fun e=>by rw [e] at hreg;exact absurd hreg (by decide)
 have n93:bs.getD f 0≠93:=fun e=>by rw [e] at hreg;exact absurd hreg (by decide)
 have n60:bs.getD f 0≠60:=fun e=>by rw [e] at hreg;exact absurd hreg (by decide)
 have n62:bs.getD f 0≠62:=fun e=>by rw [e] at hreg;exact absurd hreg (by decide)
 have n40:bs.getD f 0≠40:=fun e=>by rw [e] at hreg;exact absurd hreg (by decide)
 have n47:bs.getD f 0≠47:=fun e=>by rw [e] at hreg;exact absurd hreg (by decide)
 have e91:=zau n91 91 rfl
 have e93:=zau n93 93 rfl
 have e60:=zau n60 60 rfl
 have e62:=zau n62 62 rfl
 have e40:=zau n40 40 rfl
 have e47:=zau n47 47 rfl
 obtain ⟨b,off,R,r,x,rfl,hbW,hx,hR,hRL,hrr,hcap,hcm,hkd,hkd2,hff,hffn,hfi,hf9,hrl,hS,hRN,hc,hcf,hZ,hB0⟩:=zaD hr hn hk0 hk1 hf hfl
 have HRW:=yb hr
 have HC:=yb hc
 have HS:=yb hS
 have HRN:=yb hRN
 have HRR:=yb hR
 have HRL:=yb hRL
 have HRE:=yb hrr
 have HZ:=yb hZ
 have HB0:=yb hB0
 clear hS hRN hRL hZ hB0
 have HDL:=yb (fun W=>zaT (bs.getD f 0).toNat W)
 rw [<-zbY,hdl] at HDL
 rw [hx] at HDL e91 e93 e60 e62 e40 e47
 clear n91 n93 n60 n62 n40 n47 hdl hreg
 rw [<-hR] at HT
 have hRt:(bs.drop f).take (R-f)=regs (bs.drop f):=by rw [zba,hR,Nat.add_sub_cancel_left]
 have HRT:=yb hRt
 have hrt:=zbk (bs.drop f)
 have hRf:f<=R:=by omega
 have hRl2:R<=bs.length:=HRL.out
 have hcf1:¬cap=f:=by omega
 have HRlen:=yb (show (regs (bs.drop f)).length<=400000 by show runN _<=_;omega)
 clear hRt hrt
 rw [hx] at hd
 have d1:decide ((48:Int)<=x)=true:=yd (by omega)
 have d2:decide ((x:Int)<=57)=false:=ye (by omega)
 have e43:((x:Int)==43)=false:=by rw [yf];omega
 have e45:((x:Int)==45)=false:=by rw [yf];omega
 have e46:((x:Int)==46)=false:=by rw [yf];omega
 clear hd
 have q1:((R:Int)==(bs.length:Int))=false:=by rw [yf];omega
 have q2:decide (R=bs.length)=false:=ye (by omega)
 clear h1
 clear hr hf hR hrr hrl hk0 hk1 hc hV hx
 go_enter Tryz.func84,Tryz.ntmps84
 go_wp2_with fail
 refine (HS.out _ HB0.out).mono ?_
 rintro e w' ⟨rfl,rfl⟩
 rw [<-HRE.out]
 generalize w.alloc _=W1 at *
 obtain ⟨hcj1,hcj,hbn,hbl,hX⟩:=zaw hbW HRE.out HB0.out hcf HZ.out
 have HX:=yb hX
 clear hcf hX
 go_wp2_with fail
 refine (HRN.out _ HX.out.bel).mono ?_
 rintro e w' ⟨rfl,rfl⟩
 clear hcj1 hcj hbn hbl
 generalize W1.alloc _=W2 at *
 generalize W1.heap.size=p at *
 clear HZ HB0
 have hcv:(convert 22 9 (.slice (some ⟨b,off+f,none⟩) (R-f) (cap-f))).run Tryz.prog W2=.ok (.string (mkB ((bs.drop f).take (R-f)))) W2:=zaW (X:=⟨none,0,bs,true⟩) HC.out f (R-f) (by have:=HRL.out;show f+_<=bs.length;omega) W2 HX.out.bel
 rw [HRT.out] at hcv
 have HV:=yb (HVV.out.trans (za7 HFL.out rfl (x:={ kind:=6,s:=regs (bs.drop f) }) (j:=R) HT.out HRL.out))
 obtain ⟨⟨k0,k1,k2,k3,k4,k5,k6,k7⟩,m0,m1,m2,m3,m4,m5,m6,m7⟩:=zag HX.out.blk
 obtain ⟨⟨n0,n1,n2,n3,n4,n5,n6,n7⟩,-⟩:=zag HX.out.no
 go_wp2_with (go_at_call 126;refine (HDL.out _).mono ?_;rintro e w' ⟨rfl,rfl⟩)
 refine yi (zaa rfl _ _ r 111 _ (0,0) _ rfl (set8 HX.out.blk _ _ _ _ _ _ _ _) Tryz.underlying111 rfl zaq _ rfl) rfl ?_
 exact zat (x:={ kind:=6,s:=regs (bs.drop f) }) HX.out.bel HX.out.wr HV.out _ _ _ _ _ _ _ _
theorem zfP {w:World} {a:Option Addr} {cap:Nat} {bs:List UInt8} (hr:Row w 1 a bs.length cap (bs.map u8C)) (hn:bs.length<=400000) {k:Int} (yq:Bool) (hk0:0<=k) (hk1:k<=bs.length) (hf:zaM bs k=f) (hfl:f<bs.length) {V:Tk×Int×Int×Int} (hV:V=zbi bs f yq) (hreg:isRg (bs.getD f 0)=true) (h1:f+runN (bs.drop f)=bs.length) (hla:yq=true) (hd:48<=(bs.getD f 0).toNat/\(bs.getD f 0).toNat<=57) :
  Calls Tryz.prog 84 #[.slice a bs.length cap,.int .i64 k,.bool yq] w (zaB w V):=by
 have HT:=yb (show tokV yq (bs.getD f 0) (bs.drop (f+1))=_ from zbr (X:=⟨none,0,bs,yq⟩) (k:=f) hfl hreg)
 have hnl:¬(runN ((⟨none,0,bs,yq⟩:Src).bs.drop f)=((⟨none,0,bs,yq⟩:Src).bs.drop f).length/\(⟨none,0,bs,yq⟩:Src).yq=false):=by
  show ¬(runN (bs.drop f)=(bs.drop f).length/\yq=false)
  rw [ym]
  rw [hla];simp
 have hnum:(isDg (bs.getD f 0)=true\/bs.getD f 0=43\/bs.getD f 0=45\/bs.getD f 0=46):=by
  exact .inl (by unfold isDg;simp;exact hd)
 have ht:=HT.out
 unfold rgV at ht
 rw [yh hnl,yg hnum] at ht
 rw [List.drop_drop] at ht
 clear HT hnl hnum
 obtain ⟨P,hP⟩:∃P,zaQ (regs (bs.drop f))=P:=⟨_,rfl⟩
 have ht2:tokV yq (bs.getD f 0) (bs.drop (f+1))=(P.2.2,{ kind:=1,vk:=P.1,vn:=P.2.1 },bs.drop (f+runN (bs.drop f))):=by rw [<-hP];exact ht
 have HP:=yb hP
 have HT:=yb ht2
 clear ht ht2 hP
 have HVV:=yb hV
 have HFL:=yb hfl
 subst hla
 have hdl:isDl (bs.getD f 0)=false:=by
  have h:=hreg
  unfold isRg at h
  cases hh:isDl (bs.getD f 0) with
  | false=>rfl
  | true=>rw [hh] at h;simp at h
 have n91:bs.getD f 0≠91:=fun e=>by rw [e] at hreg;exact absurd hreg (by decide)
 have n93:bs.getD f 0≠93:=fun e=>by rw [e] at hreg;exact absurd hreg (by decide)
 have n60:bs.getD f 0≠60:=fun e=>by rw [e] at hreg;exact absurd hreg (by decide)
 have n62:bs.getD f 0≠62:=fun e=>by rw [e] at hreg;exact absurd hreg (by decide)
 have n40:bs.getD f 0≠40:=fun e=>by rw [e] at hreg;exact absurd hreg (by decide)
 have n47:bs.getD f 0≠47:=fun e=>by rw [e] at hreg;exact absurd hreg (by decide)
 have e91:=zau n91 91 rfl
 have e93:=zau n93 93 rfl
 have e60:=zau n60 60 rfl
 have e62:=zau n62 62 rfl
 have e40:=zau n40 40 rfl
 have e47:=zau n47 47 rfl
 obtain ⟨b,off,R,r,x,rfl,hbW,hx,hR,hRL,hrr,hcap,hcm,hkd,hkd2,hff,hffn,hfi,hf9,hrl,hS,hRN,hc,hcf,hZ,hB0⟩:=zaD hr hn hk0 hk1 hf hfl
 have HRW:=yb hr
 have HC:=yb hc
 have HS:=yb hS
 have HRN:=yb hRN
 have HRR:=yb hR
 have HRL:=yb hRL
 have HRE:=yb hrr
 have HZ:=yb hZ
 have HB0:=yb hB0
 clear hS hRN hRL hZ hB0
 have HDL:=yb (fun W=>zaT (bs.getD f 0).toNat W)
 rw [<-zbY,hdl] at HDL
 rw [hx] at HDL e91 e93 e60 e62 e40 e47
 clear n91 n93 n60 n62 n40 n47 hdl hreg
 rw [<-hR] at HT
 have hRt:(bs.drop f).take (R-f)=regs (bs.drop f):=by rw [zba,hR,Nat.add_sub_cancel_left]
 have HRT:=yb hRt
 have hrt:=zbk (bs.drop f)
 have hRf:f<=R:=by omega
 have hRl2:R<=bs.length:=HRL.out
 have hcf1:¬cap=f:=by omega
 have HRlen:=yb (show (regs (bs.drop f)).length<=400000 by show runN _<=_;omega)
 clear hRt hrt
 rw [hx] at hd
 have d1:decide ((48:Int)<=x)=true:=yd (by omega)
 have d2:decide ((x:Int)<=57)=true:=yd (by omega)
 clear hd
 obtain rfl:R=bs.length:=hR.trans h1
 clear h1
 clear hr hf hR hrr hrl hk0 hk1 hc hV hx
 go_enter Tryz.func84,Tryz.ntmps84
 go_wp2_with fail
 refine (HS.out _ HB0.out).mono ?_
 rintro e w' ⟨rfl,rfl⟩
 rw [<-HRE.out]
 generalize w.alloc _=W1 at *
 obtain ⟨hcj1,hcj,hbn,hbl,hX⟩:=zaw hbW HRE.out HB0.out hcf HZ.out
 have HX:=yb hX
 clear hcf hX
 go_wp2_with fail
 refine (HRN.out _ HX.out.bel).mono ?_
 rintro e w' ⟨rfl,rfl⟩
 clear hcj1 hcj hbn hbl
 generalize W1.alloc _=W2 at *
 generalize W1.heap.size=p at *
 clear HZ HB0
 have hcv:(convert 22 9 (.slice (some ⟨b,off+f,none⟩) (bs.length-f) (cap-f))).run Tryz.prog W2=.ok (.string (mkB ((bs.drop f).take (bs.length-f)))) W2:=zaW (X:=⟨none,0,bs,true⟩) HC.out f (bs.length-f) (by have:=HRL.out;show f+_<=bs.length;omega) W2 HX.out.bel
 rw [HRT.out] at hcv
 obtain ⟨s,hs⟩:∃s,mkB (regs (bs.drop f))=s:=⟨_,rfl⟩
 have hsb:bl s=regs (bs.drop f):=by rw [<-hs];rfl
 have HPA:=yb (zbD s W2 (by rw [<-zaG,hsb];exact HRlen.out))
 rw [hsb,HP.out] at HPA
 rw [hs] at hcv
 unfold zbs valC zbc at HPA
 clear hs hsb
 go_wp2_with (go_at_call 126;refine (HDL.out _).mono ?_;rintro e w' ⟨rfl,rfl⟩)
 refine HPA.out.mono ?_
 rintro e w3 ⟨rfl,hb3⟩
 have HX3:=yb ((HX.out.on hb3).alloc (.cells #[.int .i64 P.1,.int .i64 P.2.1,.string ⟨#[]⟩,.slice none 0 0] 27))
 clear hb3 hcv HPA
 by_cases her:P.2.2=0
 ·have HV:=yb (HVV.out.trans (za7 HFL.out rfl (x:={ kind:=1,vk:=P.1,vn:=P.2.1 }) (j:=bs.length) (by rw [HT.out,her]) HRL.out))
  rw [her]
  clear her
  obtain ⟨⟨k0,k1,k2,k3,k4,k5,k6,k7⟩,m0,m1,m2,m3,m4,m5,m6,m7⟩:=zag HX3.out.blk
  obtain ⟨⟨n0,n1,n2,n3,n4,n5,n6,n7⟩,-⟩:=zag HX3.out.no
  go_wp2
  refine yi (zaa rfl _ _ r 111 _ (0,0) _ rfl (set8 HX3.out.blk _ _ _ _ _ _ _ _) Tryz.underlying111 rfl zaq _ rfl) rfl ?_
  exact zat (x:={ kind:=1,vk:=P.1,vn:=P.2.1 }) HX3.out.bel HX3.out.wr HV.out _ _ _ _ _ _ _ _
 ·have HV:=yb (HVV.out.trans (zaZ (e:=P.2.2) HFL.out rfl (by rw [HT.out]) her))
  have er1:(P.2.2==0)=false:=by rw [yf];exact her
  have er2:(P.2.2 != 0)=true:=by simp only [bne,er1,yj]
  clear her
  obtain ⟨⟨k0,k1,k2,k3,k4,k5,k6,k7⟩,m0,m1,m2,m3,m4,m5,m6,m7⟩:=zag HX3.out.blk
  obtain ⟨⟨n0,n1,n2,n3,n4,n5,n6,n7⟩,-⟩:=zag HX3.out.no
  go_wp2
  refine yi (zaa rfl _ _ r 111 _ (0,0) _ rfl (set8 HX3.out.blk _ _ _ _ _ _ _ _) Tryz.underlying111 rfl zaq _ rfl) rfl ?_
  exact zat (x:={ kind:=0 }) HX3.out.bel HX3.out.wr HV.out _ _ _ _ _ _ _ _
theorem rnext_43_end {w:World} {a:Option Addr} {cap:Nat} {bs:List UInt8} (hr:Row w 1 a bs.length cap (bs.map u8C)) (hn:bs.length<=400000) {k:Int} (yq:Bool) (hk0:0<=k) (hk1:k<=bs.length) (hf:zaM bs k=f) (hfl:f<bs.length) {V:Tk×Int×Int×Int} (hV:V=zbi bs f yq) (hreg:isRg (bs.getD f 0)=true) (h1:f+runN (bs.drop f)=bs.length) (hla:yq=true) (hc0:bs.getD f 0=43) :
  Calls Tryz.prog 84 #[.slice a bs.length cap,.int .i64 k,.bool yq] w (zaB w V):=by
 have HT:=yb (show tokV yq (bs.getD f 0) (bs.drop (f+1))=_ from zbr (X:=⟨none,0,bs,yq⟩) (k:=f) hfl hreg)
 have hnl:¬(runN ((⟨none,0,bs,yq⟩:Src).bs.drop f)=((⟨none,0,bs,yq⟩:Src).bs.drop f).length/\(⟨none,0,bs,yq⟩:Src).yq=false):=by
  show ¬(runN (bs.drop f)=(bs.drop f).length/\yq=false)
  rw [ym]
  rw [hla];simp
 have hnum:(isDg (bs.getD f 0)=true\/bs.getD f 0=43\/bs.getD f 0=45\/bs.getD f 0=46):=by
  exact .inr (.inl hc0)
 have ht:=HT.out
 unfold rgV at ht
 rw [yh hnl,yg hnum] at ht
 rw [List.drop_drop] at ht
 clear HT hnl hnum
 obtain ⟨P,hP⟩:∃P,zaQ (regs (bs.drop f))=P:=⟨_,rfl⟩
 have ht2:tokV yq (bs.getD f 0) (bs.drop (f+1))=(P.2.2,{ kind:=1,vk:=P.1,vn:=P.2.1 },bs.drop (f+runN (bs.drop f))):=by rw [<-hP];exact ht
 have HP:=yb hP
 have HT:=yb ht2
 clear ht ht2 hP
 have HVV:=yb hV
 have HFL:=yb hfl
 subst hla
 have hdl:isDl (bs.getD f 0)=false:=by
  have h:=hreg
  unfold isRg at h
  cases hh:isDl (bs.getD f 0) with
  | false=>rfl
  | true=>rw [hh] at h;simp at h
 have n91:bs.getD f 0≠91:=fun e=>by rw [e] at hreg;exact absurd hreg (by decide)
 have n93:bs.getD f 0≠93:=fun e=>by rw [e] at hreg;exact absurd hreg (by decide)
 have n60:bs.getD f 0≠60:=fun e=>by rw [e] at hreg;exact absurd hreg (by decide)
 have n62:bs.getD f 0≠62:=fun e=>by rw [e] at hreg;exact absurd hreg (by decide)
 have n40:bs.getD f 0≠40:=fun e=>by rw [e] at hreg;exact absurd hreg (by decide)
 have n47:bs.getD f 0≠47:=fun e=>by rw [e] at hreg;exact absurd hreg (by decide)
 have e91:=zau n91 91 rfl
 have e93:=zau n93 93 rfl
 have e60:=zau n60 60 rfl
 have e62:=zau n62 62 rfl
 have e40:=zau n40 40 rfl
 have e47:=zau n47 47 rfl
 obtain ⟨b,off,R,r,x,rfl,hbW,hx,hR,hRL,hrr,hcap,hcm,hkd,hkd2,hff,hffn,hfi,hf9,hrl,hS,hRN,hc,hcf,hZ,hB0⟩:=zaD hr hn hk0 hk1 hf hfl
 have HRW:=yb hr
 have HC:=yb hc
 have HS:=yb hS
 have HRN:=yb hRN
 have HRR:=yb hR
 have HRL:=yb hRL
 have HRE:=yb hrr
 have HZ:=yb hZ
 have HB0:=yb hB0
 clear hS hRN hRL hZ hB0
 have HDL:=yb (fun W=>zaT (bs.getD f 0).toNat W)
 rw [<-zbY,hdl] at HDL
 rw [hx] at HDL e91 e93 e60 e62 e40 e47
 clear n91 n93 n60 n62 n40 n47 hdl hreg
 rw [<-hR] at HT
 have hRt:(bs.drop f).take (R-f)=regs (bs.drop f):=by rw [zba,hR,Nat.add_sub_cancel_left]
 have HRT:=yb hRt
 have hrt:=zbk (bs.drop f)
 have hRf:f<=R:=by omega
 have hRl2:R<=bs.length:=HRL.out
 have hcf1:¬cap=f:=by omega
 have HRlen:=yb (show (regs (bs.drop f)).length<=400000 by show runN _<=_;omega)
 clear hRt hrt
 obtain rfl:x=43:=by rw [<-hx,hc0];rfl
 clear hc0
 obtain rfl:R=bs.length:=hR.trans h1
 clear h1
 clear hr hf hR hrr hrl hk0 hk1 hc hV hx
 go_enter Tryz.func84,Tryz.ntmps84
 go_wp2_with fail
 refine (HS.out _ HB0.out).mono ?_
 rintro e w' ⟨rfl,rfl⟩
 rw [<-HRE.out]
 generalize w.alloc _=W1 at *
 obtain ⟨hcj1,hcj,hbn,hbl,hX⟩:=zaw hbW HRE.out HB0.out hcf HZ.out
 have HX:=yb hX
 clear hcf hX
 go_wp2_with fail
 refine (HRN.out _ HX.out.bel).mono ?_
 rintro e w' ⟨rfl,rfl⟩
 clear hcj1 hcj hbn hbl
 generalize W1.alloc _=W2 at *
 generalize W1.heap.size=p at *
 clear HZ HB0
 have hcv:(convert 22 9 (.slice (some ⟨b,off+f,none⟩) (bs.length-f) (cap-f))).run Tryz.prog W2=.ok (.string (mkB ((bs.drop f).take (bs.length-f)))) W2:=zaW (X:=⟨none,0,bs,true⟩) HC.out f (bs.length-f) (by have:=HRL.out;show f+_<=bs.length;omega) W2 HX.out.bel
 rw [HRT.out] at hcv
 obtain ⟨s,hs⟩:∃s,mkB (regs (bs.drop f))=s:=⟨_,rfl⟩
 have hsb:bl s=regs (bs.drop f):=by rw [<-hs];rfl
 have HPA:=yb (zbD s W2 (by rw [<-zaG,hsb];exact HRlen.out))
 rw [hsb,HP.out] at HPA
 rw [hs] at hcv
 unfold zbs valC zbc at HPA
 clear hs hsb
 go_wp2_with (go_at_call 126;refine (HDL.out _).mono ?_;rintro e w' ⟨rfl,rfl⟩)
 refine HPA.out.mono ?_
 rintro e w3 ⟨rfl,hb3⟩
 have HX3:=yb ((HX.out.on hb3).alloc (.cells #[.int .i64 P.1,.int .i64 P.2.1,.string ⟨#[]⟩,.slice none 0 0] 27))
 clear hb3 hcv HPA
 by_cases her:P.2.2=0
 ·have HV:=yb (HVV.out.trans (za7 HFL.out rfl (x:={ kind:=1,vk:=P.1,vn:=P.2.1 }) (j:=bs.length) (by rw [HT.out,her]) HRL.out))
  rw [her]
  clear her
  obtain ⟨⟨k0,k1,k2,k3,k4,k5,k6,k7⟩,m0,m1,m2,m3,m4,m5,m6,m7⟩:=zag HX3.out.blk
  obtain ⟨⟨n0,n1,n2,n3,n4,n5,n6,n7⟩,-⟩:=zag HX3.out.no
  go_wp2
  refine yi (zaa rfl _ _ r 111 _ (0,0) _ rfl (set8 HX3.out.blk _ _ _ _ _ _ _ _) Tryz.underlying111 rfl zaq _ rfl) rfl ?_
  exact zat (x:={ kind:=1,vk:=P.1,vn:=P.2.1 }) HX3.out.bel HX3.out.wr HV.out _ _ _ _ _ _ _ _
 ·have HV:=yb (HVV.out.trans (zaZ (e:=P.2.2) HFL.out rfl (by rw [HT.out]) her))
  have er1:(P.2.2==0)=false:=by rw [yf];exact her
  have er2:(P.2.2 != 0)=true:=by simp only [bne,er1,yj]
  clear her
  obtain ⟨⟨k0,k1,k2,k3,k4,k5,k6,k7⟩,m0,m1,m2,m3,m4,m5,m6,m7⟩:=zag HX3.out.blk
  obtain ⟨⟨n0,n1,n2,n3,n4,n5,n6,n7⟩,-⟩:=zag HX3.out.no
  go_wp2
  refine yi (zaa rfl _ _ r 111 _ (0,0) _ rfl (set8 HX3.out.blk _ _ _ _ _ _ _ _) Tryz.underlying111 rfl zaq _ rfl) rfl ?_
  exact zat (x:={ kind:=0 }) HX3.out.bel HX3.out.wr HV.out _ _ _ _ _ _ _ _
theorem rnext_45_end {w:World} {a:Option Addr} {cap:Nat} {bs:List UInt8} (hr:Row w 1 a bs.length cap (bs.map u8C)) (hn:bs.length<=400000) {k:Int} (yq:Bool) (hk0:0<=k) (hk1:k<=bs.length) (hf:zaM bs k=f) (hfl:f<bs.length) {V:Tk×Int×Int×Int} (hV:V=zbi bs f yq) (hreg:isRg (bs.getD f 0)=true) (h1:f+runN (bs.drop f)=bs.length) (hla:yq=true) (hc0:bs.getD f 0=45) :
  Calls Tryz.prog 84 #[.slice a bs.length cap,.int .i64 k,.bool yq] w (zaB w V):=by
 have HT:=yb (show tokV yq (bs.getD f 0) (bs.drop (f+1))=_ from zbr (X:=⟨none,0,bs,yq⟩) (k:=f) hfl hreg)
 have hnl:¬(runN ((⟨none,0,bs,yq⟩:Src).bs.drop f)=((⟨none,0,bs,yq⟩:Src).bs.drop f).length/\(⟨none,0,bs,yq⟩:Src).yq=false):=by
  show ¬(runN (bs.drop f)=(bs.drop f).length/\yq=false)
  rw [ym]
  rw [hla];simp
 have hnum:(isDg (bs.getD f 0)=true\/bs.getD f 0=43\/bs.getD f 0=45\/bs.getD f 0=46):=by
  exact .inr (.inr (.inl hc0))
 have ht:=HT.out
 unfold rgV at ht
 rw [yh hnl,yg hnum] at ht
 rw [List.drop_drop] at ht
 clear HT hnl hnum
 obtain ⟨P,hP⟩:∃P,zaQ (regs (bs.drop f))=P:=⟨_,rfl⟩
 have ht2:tokV yq (bs.getD f 0) (bs.drop (f+1))=(P.2.2,{ kind:=1,vk:=P.1,vn:=P.2.1 },bs.drop (f+runN (bs.drop f))):=by rw [<-hP];exact ht
 have HP:=yb hP
 have HT:=yb ht2
 clear ht ht2 hP
 have HVV:=yb hV
 have HFL:=yb hfl
 subst hla
 have hdl:isDl (bs.getD f 0)=false:=by
  have h:=hreg
  unfold isRg at h
  cases hh:isDl (bs.getD f 0) with
  | false=>rfl
  | true=>rw [hh] at h;simp at h
 have n91:bs.getD f 0≠91:=fun e=>by rw [e] at hreg;exact absurd hreg (by decide)
 have n93:bs.getD f 0≠93:=fun e=>by rw [e] at hreg;exact absurd hreg (by decide)
 have n60:bs.getD f 0≠60:=fun e=>by rw [e] at hreg;exact absurd hreg (by decide)
 have n62:bs.getD f 0≠62:=fun e=>by rw [e] at hreg;exact absurd hreg (by decide)
 have n40:bs.getD f 0≠40:=fun e=>by rw [e] at hreg;exact absurd hreg (by decide)
 have n47:bs.getD f 0≠47:=fun e=>by rw [e] at hreg;exact absurd hreg (by decide)
 have e91:=zau n91 91 rfl
 have e93:=zau n93 93 rfl
 have e60:=zau n60 60 rfl
 have e62:=zau n62 62 rfl
 have e40:=zau n40 40 rfl
 have e47:=zau n47 47 rfl
 obtain ⟨b,off,R,r,x,rfl,hbW,hx,hR,hRL,hrr,hcap,hcm,hkd,hkd2,hff,hffn,hfi,hf9,hrl,hS,hRN,hc,hcf,hZ,hB0⟩:=zaD hr hn hk0 hk1 hf hfl
 have HRW:=yb hr
 have HC:=yb hc
 have HS:=yb hS
 have HRN:=yb hRN
 have HRR:=yb hR
 have HRL:=yb hRL
 have HRE:=yb hrr
 have HZ:=yb hZ
 have HB0:=yb hB0
 clear hS hRN hRL hZ hB0
 have HDL:=yb (fun W=>zaT (bs.getD f 0).toNat W)
 rw [<-zbY,hdl] at HDL
 rw [hx] at HDL e91 e93 e60 e62 e40 e47
 clear n91 n93 n60 n62 n40 n47 hdl hreg
 rw [<-hR] at HT
 have hRt:(bs.drop f).take (R-f)=regs (bs.drop f):=by rw [zba,hR,Nat.add_sub_cancel_left]
 have HRT:=yb hRt
 have hrt:=zbk (bs.drop f)
 have hRf:f<=R:=by omega
 have hRl2:R<=bs.length:=HRL.out
 have hcf1:¬cap=f:=by omega
 have HRlen:=yb (show (regs (bs.drop f)).length<=400000 by show runN _<=_;omega)
 clear hRt hrt
 obtain rfl:x=45:=by rw [<-hx,hc0];rfl
 clear hc0
 obtain rfl:R=bs.length:=hR.trans h1
 clear h1
 clear hr hf hR hrr hrl hk0 hk1 hc hV hx
 go_enter Tryz.func84,Tryz.ntmps84
 go_wp2_with fail
 refine (HS.out _ HB0.out).mono ?_
 rintro e w' ⟨rfl,rfl⟩
 rw [<-HRE.out]
 generalize w.alloc _=W1 at *
 obtain ⟨hcj1,hcj,hbn,hbl,hX⟩:=zaw hbW HRE.out HB0.out hcf HZ.out
 have HX:=yb hX
 clear hcf hX
 go_wp2_with fail
 refine (HRN.out _ HX.out.bel).mono ?_
 rintro e w' ⟨rfl,rfl⟩
 clear hcj1 hcj hbn hbl
 generalize W1.alloc _=W2 at *
 generalize W1.heap.size=p at *
 clear HZ HB0
 have hcv:(convert 22 9 (.slice (some ⟨b,off+f,none⟩) (bs.length-f) (cap-f))).run Tryz.prog W2=.ok (.string (mkB ((bs.drop f).take (bs.length-f)))) W2:=zaW (X:=⟨none,0,bs,true⟩) HC.out f (bs.length-f) (by have:=HRL.out;show f+_<=bs.length;omega) W2 HX.out.bel
 rw [HRT.out] at hcv
 obtain ⟨s,hs⟩:∃s,mkB (regs (bs.drop f))=s:=⟨_,rfl⟩
 have hsb:bl s=regs (bs.drop f):=by rw [<-hs];rfl
 have HPA:=yb (zbD s W2 (by rw [<-zaG,hsb];exact HRlen.out))
 rw [hsb,HP.out] at HPA
 rw [hs] at hcv
 unfold zbs valC zbc at HPA
 clear hs hsb
 go_wp2_with (go_at_call 126;refine (HDL.out _).mono ?_;rintro e w' ⟨rfl,rfl⟩)
 refine HPA.out.mono ?_
 rintro e w3 ⟨rfl,hb3⟩
 have HX3:=yb ((HX.out.on hb3).alloc (.cells #[.int .i64 P.1,.int .i64 P.2.1,.string ⟨#[]⟩,.slice none 0 0] 27))
 clear hb3 hcv HPA
 by_cases her:P.2.2=0
 ·have HV:=yb (HVV.out.trans (za7 HFL.out rfl (x:={ kind:=1,vk:=P.1,vn:=P.2.1 }) (j:=bs.length) (by rw [HT.out,her]) HRL.out))
  rw [her]
  clear her
  obtain ⟨⟨k0,k1,k2,k3,k4,k5,k6,k7⟩,m0,m1,m2,m3,m4,m5,m6,m7⟩:=zag HX3.out.blk
  obtain ⟨⟨n0,n1,n2,n3,n4,n5,n6,n7⟩,-⟩:=zag HX3.out.no
  go_wp2
  refine yi (zaa rfl _ _ r 111 _ (0,0) _ rfl (set8 HX3.out.blk _ _ _ _ _ _ _ _) Tryz.underlying111 rfl zaq _ rfl) rfl ?_
  exact zat (x:={ kind:=1,vk:=P.1,vn:=P.2.1 }) HX3.out.bel HX3.out.wr HV.out _ _ _ _ _ _ _ _
 ·have HV:=yb (HVV.out.trans (zaZ (e:=P.2.2) HFL.out rfl (by rw [HT.out]) her))
  have er1:(P.2.2==0)=false:=by rw [yf];exact her
  have er2:(P.2.2 != 0)=true:=by simp only [bne,er1,yj]
  clear her
  obtain ⟨⟨k0,k1,k2,k3,k4,k5,k6,k7⟩,m0,m1,m2,m3,m4,m5,m6,m7⟩:=zag HX3.out.blk
  obtain ⟨⟨n0,n1,n2,n3,n4,n5,n6,n7⟩,-⟩:=zag HX3.out.no
  go_wp2
  refine yi (zaa rfl _ _ r 111 _ (0,0) _ rfl (set8 HX3.out.blk _ _ _ _ _ _ _ _) Tryz.underlying111 rfl zaq _ rfl) rfl ?_
  exact zat (x:={ kind:=0 }) HX3.out.bel HX3.out.wr HV.out _ _ _ _ _ _ _ _
theorem rnext_46_end {w:World} {a:Option Addr} {cap:Nat} {bs:List UInt8} (hr:Row w 1 a bs.length cap (bs.map u8C)) (hn:bs.length<=400000) {k:Int} (yq:Bool) (hk0:0<=k) (hk1:k<=bs.length) (hf:zaM bs k=f) (hfl:f<bs.length) {V:Tk×Int×Int×Int} (hV:V=zbi bs f yq) (hreg:isRg (bs.getD f 0)=true) (h1:f+runN (bs.drop f)=bs.length) (hla:yq=true) (hc0:bs.getD f 0=46) :
  Calls Tryz.prog 84 #[.slice a bs.length cap,.int .i64 k,.bool yq] w (zaB w V):=by
 have HT:=yb (show tokV yq (bs.getD f 0) (bs.drop (f+1))=_ from zbr (X:=⟨none,0,bs,yq⟩) (k:=f) hfl hreg)
 have hnl:¬(runN ((⟨none,0,bs,yq⟩:Src).bs.drop f)=((⟨none,0,bs,yq⟩:Src).bs.drop f).length/\(⟨none,0,bs,yq⟩:Src).yq=false):=by
  show ¬(runN (bs.drop f)=(bs.drop f).length/\yq=false)
  rw [ym]
  rw [hla];simp
 have hnum:(isDg (bs.getD f 0)=true\/bs.getD f 0=43\/bs.getD f 0=45\/bs.getD f 0=46):=by
  exact .inr (.inr (.inr hc0))
 have ht:=HT.out
 unfold rgV at ht
 rw [yh hnl,yg hnum] at ht
 rw [List.drop_drop] at ht
 clear HT hnl hnum
 obtain ⟨P,hP⟩:∃P,zaQ (regs (bs.drop f))=P:=⟨_,rfl⟩
 have ht2:tokV yq (bs.getD f 0) (bs.drop (f+1))=(P.2.2,{ kind:=1,vk:=P.1,vn:=P.2.1 },bs.drop (f+runN (bs.drop f))):=by rw [<-hP];exact ht
 have HP:=yb hP
 have HT:=yb ht2
 clear ht ht2 hP
 have HVV:=yb hV
 have HFL:=yb hfl
 subst hla
 have hdl:isDl (bs.getD f 0)=false:=by
  have h:=hreg
  unfold isRg at h
  cases hh:isDl (bs.getD f 0) with
  | false=>rfl
  | true=>rw [hh] at h;simp at h
 have n91:bs.getD f 0≠91:=fun e=>by rw [e] at hreg;exact absurd hreg (by decide)
 have n93:bs.getD f 0≠93:=fun e=>by rw [e] at hreg;exact absurd hreg (by decide)
 have n60:bs.getD f 0≠60:=fun e=>by rw [e] at hreg;exact absurd hreg (by decide)
 have n62:bs.getD f 0≠62:=fun e=>by rw [e] at hreg;exact absurd hreg (by decide)
 have n40:bs.getD f 0≠40:=fun e=>by rw [e] at hreg;exact absurd hreg (by decide)
 have n47:bs.getD f 0≠47:=fun e=>by rw [e] at hreg;exact absurd hreg (by decide)
 have e91:=zau n91 91 rfl
 have e93:=zau n93 93 rfl
 have e60:=zau n60 60 rfl
 have e62:=zau n62 62 rfl
 have e40:=zau n40 40 rfl
 have e47:=zau n47 47 rfl
 obtain ⟨b,off,R,r,x,rfl,hbW,hx,hR,hRL,hrr,hcap,hcm,hkd,hkd2,hff,hffn,hfi,hf9,hrl,hS,hRN,hc,hcf,hZ,hB0⟩:=zaD hr hn hk0 hk1 hf hfl
 have HRW:=yb hr
 have HC:=yb hc
 have HS:=yb hS
 have HRN:=yb hRN
 have HRR:=yb hR
 have HRL:=yb hRL
 have HRE:=yb hrr
 have HZ:=yb hZ
 have HB0:=yb hB0
 clear hS hRN hRL hZ hB0
 have HDL:=yb (fun W=>zaT (bs.getD f 0).toNat W)
 rw [<-zbY,hdl] at HDL
 rw [hx] at HDL e91 e93 e60 e62 e40 e47
 clear n91 n93 n60 n62 n40 n47 hdl hreg
 rw [<-hR] at HT
 have hRt:(bs.drop f).take (R-f)=regs (bs.drop f):=by rw [zba,hR,Nat.add_sub_cancel_left]
 have HRT:=yb hRt
 have hrt:=zbk (bs.drop f)
 have hRf:f<=R:=by omega
 have hRl2:R<=bs.length:=HRL.out
 have hcf1:¬cap=f:=by omega
 have HRlen:=yb (show (regs (bs.drop f)).length<=400000 by show runN _<=_;omega)
 clear hRt hrt
 obtain rfl:x=46:=by rw [<-hx,hc0];rfl
 clear hc0
 obtain rfl:R=bs.length:=hR.trans h1
 clear h1
 clear hr hf hR hrr hrl hk0 hk1 hc hV hx
 go_enter Tryz.func84,Tryz.ntmps84
 go_wp2_with fail
 refine (HS.out _ HB0.out).mono ?_
 rintro e w' ⟨rfl,rfl⟩
 rw [<-HRE.out]
 generalize w.alloc _=W1 at *
 obtain ⟨hcj1,hcj,hbn,hbl,hX⟩:=zaw hbW HRE.out HB0.out hcf HZ.out
 have HX:=yb hX
 clear hcf hX
 go_wp2_with fail
 refine (HRN.out _ HX.out.bel).mono ?_
 rintro e w' ⟨rfl,rfl⟩
 clear hcj1 hcj hbn hbl
 generalize W1.alloc _=W2 at *
 generalize W1.heap.size=p at *
 clear HZ HB0
 have hcv:(convert 22 9 (.slice (some ⟨b,off+f,none⟩) (bs.length-f) (cap-f))).run Tryz.prog W2=.ok (.string (mkB ((bs.drop f).take (bs.length-f)))) W2:=zaW (X:=⟨none,0,bs,true⟩) HC.out f (bs.length-f) (by have:=HRL.out;show f+_<=bs.length;omega) W2 HX.out.bel
 rw [HRT.out] at hcv
 obtain ⟨s,hs⟩:∃s,mkB (regs (bs.drop f))=s:=⟨_,rfl⟩
 have hsb:bl s=regs (bs.drop f):=by rw [<-hs];rfl
 have HPA:=yb (zbD s W2 (by rw [<-zaG,hsb];exact HRlen.out))
 rw [hsb,HP.out] at HPA
 rw [hs] at hcv
 unfold zbs valC zbc at HPA
 clear hs hsb
 go_wp2_with (go_at_call 126;refine (HDL.out _).mono ?_;rintro e w' ⟨rfl,rfl⟩)
 refine HPA.out.mono ?_
 rintro e w3 ⟨rfl,hb3⟩
 have HX3:=yb ((HX.out.on hb3).alloc (.cells #[.int .i64 P.1,.int .i64 P.2.1,.string ⟨#[]⟩,.slice none 0 0] 27))
 clear hb3 hcv HPA
 by_cases her:P.2.2=0
 ·have HV:=yb (HVV.out.trans (za7 HFL.out rfl (x:={ kind:=1,vk:=P.1,vn:=P.2.1 }) (j:=bs.length) (by rw [HT.out,her]) HRL.out))
  rw [her]
  clear her
  obtain ⟨⟨k0,k1,k2,k3,k4,k5,k6,k7⟩,m0,m1,m2,m3,m4,m5,m6,m7⟩:=zag HX3.out.blk
  obtain ⟨⟨n0,n1,n2,n3,n4,n5,n6,n7⟩,-⟩:=zag HX3.out.no
  go_wp2
  refine yi (zaa rfl _ _ r 111 _ (0,0) _ rfl (set8 HX3.out.blk _ _ _ _ _ _ _ _) Tryz.underlying111 rfl zaq _ rfl) rfl ?_
  exact zat (x:={ kind:=1,vk:=P.1,vn:=P.2.1 }) HX3.out.bel HX3.out.wr HV.out _ _ _ _ _ _ _ _
 ·have HV:=yb (HVV.out.trans (zaZ (e:=P.2.2) HFL.out rfl (by rw [HT.out]) her))
  have er1:(P.2.2==0)=false:=by rw [yf];exact her
  have er2:(P.2.2 != 0)=true:=by simp only [bne,er1,yj]
  clear her
  obtain ⟨⟨k0,k1,k2,k3,k4,k5,k6,k7⟩,m0,m1,m2,m3,m4,m5,m6,m7⟩:=zag HX3.out.blk
  obtain ⟨⟨n0,n1,n2,n3,n4,n5,n6,n7⟩,-⟩:=zag HX3.out.no
  go_wp2
  refine yi (zaa rfl _ _ r 111 _ (0,0) _ rfl (set8 HX3.out.blk _ _ _ _ _ _ _ _) Tryz.underlying111 rfl zaq _ rfl) rfl ?_
  exact zat (x:={ kind:=0 }) HX3.out.bel HX3.out.wr HV.out _ _ _ _ _ _ _ _
theorem zhc {w:World} {a:Option Addr} {cap:Nat} {bs:List UInt8} (hr:Row w 1 a bs.length cap (bs.map u8C)) (hn:bs.length<=400000) {k:Int} (yq:Bool) (hk0:0<=k) (hk1:k<=bs.length) (hf:zaM bs k=f) (hfl:f<bs.length) {V:Tk×Int×Int×Int} (hV:V=zbi bs f yq) (hreg:isRg (bs.getD f 0)=true) (h1:f+runN (bs.drop f)=bs.length) (hla:yq=true) (hd:(bs.getD f 0).toNat<48/\bs.getD f 0≠43/\bs.getD f 0≠45/\bs.getD f 0≠46) :
  Calls Tryz.prog 84 #[.slice a bs.length cap,.int .i64 k,.bool yq] w (zaB w V):=by
 have HT:=yb (show tokV yq (bs.getD f 0) (bs.drop (f+1))=_ from zbr (X:=⟨none,0,bs,yq⟩) (k:=f) hfl hreg)
 have hnl:¬(runN ((⟨none,0,bs,yq⟩:Src).bs.drop f)=((⟨none,0,bs,yq⟩:Src).bs.drop f).length/\(⟨none,0,bs,yq⟩:Src).yq=false):=by
  show ¬(runN (bs.drop f)=(bs.drop f).length/\yq=false)
  rw [ym]
  rw [hla];simp
 have hnum:¬(isDg (bs.getD f 0)=true\/bs.getD f 0=43\/bs.getD f 0=45\/bs.getD f 0=46):=by
  rintro (h|h|h|h)
  ·have h2:=za6.1 h;have:=hd.1;omega
  ·exact hd.2.1 h
  ·exact hd.2.2.1 h
  ·exact hd.2.2.2 h
 have ht:=HT.out
 unfold rgV at ht
 rw [yh hnl,yh hnum] at ht
 rw [List.drop_drop] at ht
 clear HT hnl hnum
 have HT:=yb (show tokV yq (bs.getD f 0) (bs.drop (f+1))=(0,{ kind:=6,s:=regs (bs.drop f) },bs.drop (f+runN (bs.drop f))) from ht)
 clear ht
 have HVV:=yb hV
 have HFL:=yb hfl
 subst hla
 have hdl:isDl (bs.getD f 0)=false:=by
  have h:=hreg
  unfold isRg at h
  cases hh:isDl (bs.getD f 0) with
  | false=>rfl
  | true=>rw [hh] at h;simp at h
 have n91:bs.getD f 0≠91:=fun e=>by rw [e] at hreg;exact absurd hreg (by decide)
 have n93:bs.getD f 0≠93:=fun e=>by rw [e] at hreg;exact absurd hreg (by decide)
 have n60:bs.getD f 0≠60:=fun e=>by rw [e] at hreg;exact absurd hreg (by decide)
 have n62:bs.getD f 0≠62:=fun e=>by rw [e] at hreg;exact absurd hreg (by decide)
 have n40:bs.getD f 0≠40:=fun e=>by rw [e] at hreg;exact absurd hreg (by decide)
 have n47:bs.getD f 0≠47:=fun e=>by rw [e] at hreg;exact absurd hreg (by decide)
 have e91:=zau n91 91 rfl
 have e93:=zau n93 93 rfl
 have e60:=zau n60 60 rfl
 have e62:=zau n62 62 rfl
 have e40:=zau n40 40 rfl
 have e47:=zau n47 47 rfl
 have e43:=zau hd.2.1 43 rfl
 have e45:=zau hd.2.2.1 45 rfl
 have e46:=zau hd.2.2.2 46 rfl
 have hd0:=hd.1
 clear hd
 obtain ⟨b,off,R,r,x,rfl,hbW,hx,hR,hRL,hrr,hcap,hcm,hkd,hkd2,hff,hffn,hfi,hf9,hrl,hS,hRN,hc,hcf,hZ,hB0⟩:=zaD hr hn hk0 hk1 hf hfl
 have HRW:=yb hr
 have HC:=yb hc
 have HS:=yb hS
 have HRN:=yb hRN
 have HRR:=yb hR
 have HRL:=yb hRL
 have HRE:=yb hrr
 have HZ:=yb hZ
 have HB0:=yb hB0
 clear hS hRN hRL hZ hB0
 have HDL:=yb (fun W=>zaT (bs.getD f 0).toNat W)
 rw [<-zbY,hdl] at HDL
 rw [hx] at HDL e91 e93 e60 e62 e40 e47
 clear n91 n93 n60 n62 n40 n47 hdl hreg
 rw [<-hR] at HT
 have hRt:(bs.drop f).take (R-f)=regs (bs.drop f):=by rw [zba,hR,Nat.add_sub_cancel_left]
 have HRT:=yb hRt
 have hrt:=zbk (bs.drop f)
 have hRf:f<=R:=by omega
 have hRl2:R<=bs.length:=HRL.out
 have hcf1:¬cap=f:=by omega
 have HRlen:=yb (show (regs (bs.drop f)).length<=400000 by show runN _<=_;omega)
 clear hRt hrt
 rw [hx] at hd0 e43 e45 e46
 have d1:decide ((48:Int)<=x)=false:=ye (by omega)
 clear hd0
 obtain rfl:R=bs.length:=hR.trans h1
 clear h1
 clear hr hf hR hrr hrl hk0 hk1 hc hV hx
 go_enter Tryz.func84,Tryz.ntmps84
 go_wp2_with fail
 refine (HS.out _ HB0.out).mono ?_
 rintro e w' ⟨rfl,rfl⟩
 rw [<-HRE.out]
 generalize w.alloc _=W1 at *
 obtain ⟨hcj1,hcj,hbn,hbl,hX⟩:=zaw hbW HRE.out HB0.out hcf HZ.out
 have HX:=yb hX
 clear hcf hX
 go_wp2_with fail
 refine (HRN.out _ HX.out.bel).mono ?_
 rintro e w' ⟨rfl,rfl⟩
 clear hcj1 hcj hbn hbl
 generalize W1.alloc _=W2 at *
 generalize W1.heap.size=p at *
 clear HZ HB0
 have hcv:(convert 22 9 (.slice (some ⟨b,off+f,none⟩) (bs.length-f) (cap-f))).run Tryz.prog W2=.ok (.string (mkB ((bs.drop f).take (bs.length-f)))) W2:=zaW (X:=⟨none,0,bs,true⟩) HC.out f (bs.length-f) (by have:=HRL.out;show f+_<=bs.length;omega) W2 HX.out.bel
 rw [HRT.out] at hcv
 have HV:=yb (HVV.out.trans (za7 HFL.out rfl (x:={ kind:=6,s:=regs (bs.drop f) }) (j:=bs.length) HT.out HRL.out))
 obtain ⟨⟨k0,k1,k2,k3,k4,k5,k6,k7⟩,m0,m1,m2,m3,m4,m5,m6,m7⟩:=zag HX.out.blk
 obtain ⟨⟨n0,n1,n2,n3,n4,n5,n6,n7⟩,-⟩:=zag HX.out.no
 go_wp2_with (go_at_call 126;refine (HDL.out _).mono ?_;rintro e w' ⟨rfl,rfl⟩)
 refine yi (zaa rfl _ _ r 111 _ (0,0) _ rfl (set8 HX.out.blk _ _ _ _ _ _ _ _) Tryz.underlying111 rfl zaq _ rfl) rfl ?_
 exact zat (x:={ kind:=6,s:=regs (bs.drop f) }) HX.out.bel HX.out.wr HV.out _ _ _ _ _ _ _ _
theorem zfV {w:World} {a:Option Addr} {cap:Nat} {bs:List UInt8} (hr:Row w 1 a bs.length cap (bs.map u8C)) (hn:bs.length<=400000) {k:Int} (yq:Bool) (hk0:0<=k) (hk1:k<=bs.length) (hf:zaM bs k=f) (hfl:f<bs.length) {V:Tk×Int×Int×Int} (hV:V=zbi bs f yq) (hreg:isRg (bs.getD f 0)=true) (h1:f+runN (bs.drop f)=bs.length) (hla:yq=true) (hd:57<(bs.getD f 0).toNat) :
  Calls Tryz.prog 84 #[.slice a bs.length cap,.int .i64 k,.bool yq] w (zaB w V):=by
 have HT:=yb (show tokV yq (bs.getD f 0) (bs.drop (f+1))=_ from zbr (X:=⟨none,0,bs,yq⟩) (k:=f) hfl hreg)
 have hnl:¬(runN ((⟨none,0,bs,yq⟩:Src).bs.drop f)=((⟨none,0,bs,yq⟩:Src).bs.drop f).length/\(⟨none,0,bs,yq⟩:Src).yq=false):=by
  show ¬(runN (bs.drop f)=(bs.drop f).length/\yq=false)
  rw [ym]
  rw [hla];simp
 have hnum:¬(isDg (bs.getD f 0)=true\/bs.getD f 0=43\/bs.getD f 0=45\/bs.getD f 0=46):=by
  rintro (h|h|h|h)
  ·have h2:=za6.1 h;omega
  ·rw [h] at hd;exact absurd hd (by decide)
  ·rw [h] at hd;exact absurd hd (by decide)
  ·rw [h] at hd;exact absurd hd (by decide)
 have ht:=HT.out
 unfold rgV at ht
 rw [yh hnl,yh hnum] at ht
 rw [List.drop_drop] at ht
 clear HT hnl hnum
 have HT:=yb (show tokV yq (bs.getD f 0) (bs.drop (f+1))=(0,{ kind:=6,s:=regs (bs.drop f) },bs.drop (f+runN (bs.drop f))) from ht)
 clear ht
 have HVV:=yb hV
 have HFL:=yb hfl
 subst hla
 have hdl:isDl (bs.getD f 0)=false:=by
  have h:=hreg
  unfold isRg at h
  cases hh:isDl (bs.getD f 0) with
  | false=>rfl
  | true=>rw [hh] at h;simp at h
 have n91:bs.getD f 0≠91:=fun e=>by rw [e] at hreg;exact absurd hreg (by decide)
 have n93:bs.getD f 0≠93:=fun e=>by rw [e] at hreg;exact absurd hreg (by decide)
 have n60:bs.getD f 0≠60:=fun e=>by rw [e] at hreg;exact absurd hreg (by decide)
 have n62:bs.getD f 0≠62:=fun e=>by rw [e] at hreg;exact absurd hreg (by decide)
 have n40:bs.getD f 0≠40:=fun e=>by rw [e] at hreg;exact absurd hreg (by decide)
 have n47:bs.getD f 0≠47:=fun e=>by rw [e] at hreg;exact absurd hreg (by decide)
 have e91:=zau n91 91 rfl
 have e93:=zau n93 93 rfl
 have e60:=zau n60 60 rfl
 have e62:=zau n62 62 rfl
 have e40:=zau n40 40 rfl
 have e47:=zau n47 47 rfl
 obtain ⟨b,off,R,r,x,rfl,hbW,hx,hR,hRL,hrr,hcap,hcm,hkd,hkd2,hff,hffn,hfi,hf9,hrl,hS,hRN,hc,hcf,hZ,hB0⟩:=zaD hr hn hk0 hk1 hf hfl
 have HRW:=yb hr
 have HC:=yb hc
 have HS:=yb hS
 have HRN:=yb hRN
 have HRR:=yb hR
 have HRL:=yb hRL
 have HRE:=yb hrr
 have HZ:=yb hZ
 have HB0:=yb hB0
 clear hS hRN hRL hZ hB0
 have HDL:=yb (fun W=>zaT (bs.getD f 0).toNat W)
 rw [<-zbY,hdl] at HDL
 rw [hx] at HDL e91 e93 e60 e62 e40 e47
 clear n91 n93 n60 n62 n40 n47 hdl hreg
 rw [<-hR] at HT
 have hRt:(bs.drop f).take (R-f)=regs (bs.drop f):=by rw [zba,hR,Nat.add_sub_cancel_left]
 have HRT:=yb hRt
 have hrt:=zbk (bs.drop f)
 have hRf:f<=R:=by omega
 have hRl2:R<=bs.length:=HRL.out
 have hcf1:¬cap=f:=by omega
 have HRlen:=yb (show (regs (bs.drop f)).length<=400000 by show runN _<=_;omega)
 clear hRt hrt
 rw [hx] at hd
 have d1:decide ((48:Int)<=x)=true:=yd (by omega)
 have d2:decide ((x:Int)<=57)=false:=ye (by omega)
 have e43:((x:Int)==43)=false:=by rw [yf];omega
 have e45:((x:Int)==45)=false:=by rw [yf];omega
 have e46:((x:Int)==46)=false:=by rw [yf];omega
 clear hd
 obtain rfl:R=bs.length:=hR.trans h1
 clear h1
 clear hr hf hR hrr hrl hk0 hk1 hc hV hx
 go_enter Tryz.func84,Tryz.ntmps84
 go_wp2_with fail
 refine (HS.out _ HB0.out).mono ?_
 rintro e w' ⟨rfl,rfl⟩
 rw [<-HRE.out]
 generalize w.alloc _=W1 at *
 obtain ⟨hcj1,hcj,hbn,hbl,hX⟩:=zaw hbW HRE.out HB0.out hcf HZ.out
 have HX:=yb hX
 clear hcf hX
 go_wp2_with fail
 refine (HRN.out _ HX.out.bel).mono ?_
 rintro e w' ⟨rfl,rfl⟩
 clear hcj1 hcj hbn hbl
 generalize W1.alloc _=W2 at *
 generalize W1.heap.size=p at *
 clear HZ HB0
 have hcv:(convert 22 9 (.slice (some ⟨b,off+f,none⟩) (bs.length-f) (cap-f))).run Tryz.prog W2=.ok (.string (mkB ((bs.drop f).take (bs.length-f)))) W2:=zaW (X:=⟨none,0,bs,true⟩) HC.out f (bs.length-f) (by have:=HRL.out;show f+_<=bs.length;omega) W2 HX.out.bel
 rw [HRT.out] at hcv
 have HV:=yb (HVV.out.trans (za7 HFL.out rfl (x:={ kind:=6,s:=regs (bs.drop f) }) (j:=bs.length) HT.out HRL.out))
 obtain ⟨⟨k0,k1,k2,k3,k4,k5,k6,k7⟩,m0,m1,m2,m3,m4,m5,m6,m7⟩:=zag HX.out.blk
 obtain ⟨⟨n0,n1,n2,n3,n4,n5,n6,n7⟩,-⟩:=zag HX.out.no
 go_wp2_with (go_at_call 126;refine (HDL.out _).mono ?_;rintro e w' ⟨rfl,rfl⟩)
 refine yi (zaa rfl _ _ r 111 _ (0,0) _ rfl (set8 HX.out.blk _ _ _ _ _ _ _ _) Tryz.underlying111 rfl zaq _ rfl) rfl ?_
 exact zat (x:={ kind:=6,s:=regs (bs.drop f) }) HX.out.bel HX.out.wr HV.out _ _ _ _ _ _ _ _
theorem rnext_out {w:World} {a:Option Addr} {cap n:Nat} {k:Int} (yq:Bool) (_:(n:Int)<=9223372036854775807) (h:k<0\/(n:Int)<k) {V:Tk×Int×Int×Int} (hV:V=({ kind:=0 },0,0,2)) :
  Calls Tryz.prog 84 #[.slice a n cap,.int .i64 k,.bool yq] w (zaB w V):=by
 have HV:=yb hV
 have HZ:=yb (show (w.alloc (.cells #[.int .i64 0,.int .i64 0,.int .i64 0,.int .i64 0,.int .i64 0,.string ⟨#[]⟩,.slice none 0 0,.string ⟨#[]⟩] 111)).heap[w.heap.size]?=some (.cells #[.int .i64 0,.int .i64 0,.int .i64 0,.int .i64 0,.int .i64 0,.string ⟨#[]⟩,.slice none 0 0,.string ⟨#[]⟩] 111 (0,0)) from zac _ rfl)
 have HB0:=yb (zam w (.cells #[.int .i64 0,.int .i64 0,.int .i64 0,.int .i64 0,.int .i64 0,.string ⟨#[]⟩,.slice none 0 0,.string ⟨#[]⟩] 111))
 clear hV
 by_cases hk0:k<0
 ·have hkd:decide (k<0)=true:=yd hk0
  clear h
  go_enter Tryz.func84,Tryz.ntmps84
  go_wp2
  refine yi (zaa rfl _ _ w.heap.size 111 _ (0,0) _ rfl (zac _ rfl) Tryz.underlying111 rfl (by exact zaq) _ rfl) rfl ?_
  rw [HV.out]
  exact ⟨rfl,zam _ _⟩
 ·have hk1:(n:Int)<k:=by omega
  have hkd:decide (k<0)=false:=ye hk0
  have hkd2:decide ((n:Int)<k)=true:=yd hk1
  clear h hk0 hk1
  go_enter Tryz.func84,Tryz.ntmps84
  go_wp2
  refine yi (zaa rfl _ _ w.heap.size 111 _ (0,0) _ rfl (zac _ rfl) Tryz.underlying111 rfl (by exact zaq) _ rfl) rfl ?_
  rw [HV.out]
  exact ⟨rfl,zam _ _⟩
theorem rnext_end {w:World} {a:Option Addr} {cap:Nat} {bs:List UInt8} (hr:Row w 1 a bs.length cap (bs.map u8C)) (hn:bs.length<=400000) {k:Int} (yq:Bool) (hk0:0<=k) (hk1:k<=bs.length) (hf:zaM bs k=bs.length) {V:Tk×Int×Int×Int} (hV:V=zbi bs bs.length yq) :
  Calls Tryz.prog 84 #[.slice a bs.length cap,.int .i64 k,.bool yq] w (zaB w V):=by
 rw [zdV yq (by simp)] at hV
 have HV:=yb hV
 have HRW:=yb hr
 have hcm:=hr.i64c
 have hkd:decide (k<0)=false:=ye (by omega)
 have hkd2:decide ((bs.length:Int)<k)=false:=ye (by omega)
 have HS:=yb (fun (W:World) (h:Below w.heap.size w W)=>rskip_any (HRW.out.mono h) hn k)
 rw [hf] at HS
 obtain ⟨r,hrr⟩:∃r,r=w.heap.size:=⟨_,rfl⟩
 have HRE:=yb hrr
 have HZ:=yb (show (w.alloc (.cells #[.int .i64 0,.int .i64 0,.int .i64 0,.int .i64 0,.int .i64 0,.string ⟨#[]⟩,.slice none 0 0,.string ⟨#[]⟩] 111)).heap[r]?=some (.cells #[.int .i64 0,.int .i64 0,.int .i64 0,.int .i64 0,.int .i64 0,.string ⟨#[]⟩,.slice none 0 0,.string ⟨#[]⟩] 111 (0,0)) from zac _ hrr)
 have HB0:=yb (zam w (.cells #[.int .i64 0,.int .i64 0,.int .i64 0,.int .i64 0,.int .i64 0,.string ⟨#[]⟩,.slice none 0 0,.string ⟨#[]⟩] 111))
 clear hr hf hrr hk0 hk1 hV
 generalize bs.length=f at *
 go_enter Tryz.func84,Tryz.ntmps84
 go_wp2_with fail
 refine (HS.out _ HB0.out).mono ?_
 rintro e w' ⟨rfl,rfl⟩
 rw [<-HRE.out]
 generalize w.alloc _=W1 at *
 have HX:=yb (show Rx w r W1.heap.size f (W1.alloc (.cells #[.int .i64 0,.int .i64 f,.int .i64 f,.int .i64 0,.int .i64 0,.string ⟨#[]⟩,.slice none 0 0,.string ⟨#[]⟩] 111)) from ⟨zak _ HZ.out,zac _ rfl,HB0.out.alloc HB0.out.size _,by rw [HRE.out];exact yp _⟩)
 obtain ⟨⟨k0,k1,k2,k3,k4,k5,k6,k7⟩,m0,m1,m2,m3,m4,m5,m6,m7⟩:=zag HX.out.blk
 obtain ⟨⟨n0,n1,n2,n3,n4,n5,n6,n7⟩,-⟩:=zag HX.out.no
 cases yq
 ·go_wp2
  refine yi (zaa rfl _ _ r 111 _ (0,0) _ rfl (set8 HX.out.blk _ _ _ _ _ _ _ _) Tryz.underlying111 rfl zaq _ rfl) rfl ?_
  exact zat (x:={ kind:=0 }) HX.out.bel HX.out.wr HV.out _ _ _ _ _ _ _ _
 ·go_wp2
  refine yi (zaa rfl _ _ r 111 _ (0,0) _ rfl (set8 HX.out.blk _ _ _ _ _ _ _ _) Tryz.underlying111 rfl zaq _ rfl) rfl ?_
  exact zat (x:={ kind:=0 }) HX.out.bel HX.out.wr HV.out _ _ _ _ _ _ _ _
theorem zbX {w:World} {a:Option Addr} {cap:Nat} {bs:List UInt8} (hr:Row w 1 a bs.length cap (bs.map u8C)) (hn:bs.length<=400000) (k:Int) (yq:Bool) :
  Calls Tryz.prog 84 #[.slice a bs.length cap,.int .i64 k,.bool yq] w (zaB w (zal bs k yq)):=by
 by_cases hk:k<0\/(bs.length:Int)<k
 ·exact rnext_out yq hr.i64 hk (by unfold zal;rw [yg hk])
 have hk0:0<=k:=by omega
 have hk1:k<=bs.length:=by omega
 have hV:=zdY (bs:=bs) yq hk0 hk1
 have hfle:=(ze1 hk0 hk1).2
 have hsh:=fun f hf hl=>skip_here (bs:=bs) (f:=f) hk0 hk1 hf hl
 rw [hV]
 obtain ⟨f,hf⟩:∃f,zaM bs k=f:=⟨_,rfl⟩
 by_cases hfe:f=bs.length
 ·subst hfe
  exact rnext_end hr hn yq hk0 hk1 hf (by rw [hf])
 have hfl:f<bs.length:=by omega
 obtain ⟨h37,hsp⟩:=hsh f hf hfl
 have hV2:zbi bs (zaM bs k) yq=zbi bs f yq:=by rw [hf]
 clear hV hsh
 by_cases hrg:isRg (bs.getD f 0)=true
 ·by_cases he:f+runN (bs.drop f)=bs.length
  ·cases yq with
   | false=>exact zg0 hr hn false hk0 hk1 hf hfl hV2 hrg he rfl
   | true =>
    by_cases h43:bs.getD f 0=43
    ·exact rnext_43_end hr hn true hk0 hk1 hf hfl hV2 hrg he rfl h43
    by_cases h45:bs.getD f 0=45
    ·exact rnext_45_end hr hn true hk0 hk1 hf hfl hV2 hrg he rfl h45
    by_cases h46:bs.getD f 0=46
    ·exact rnext_46_end hr hn true hk0 hk1 hf hfl hV2 hrg he rfl h46
    by_cases hlo:(bs.getD f 0).toNat<48
    ·exact zhc hr hn true hk0 hk1 hf hfl hV2 hrg he rfl ⟨hlo,h43,h45,h46⟩
    by_cases hhi:57<(bs.getD f 0).toNat
    ·exact zfV hr hn true hk0 hk1 hf hfl hV2 hrg he rfl hhi
    exact zfP hr hn true hk0 hk1 hf hfl hV2 hrg he rfl ⟨by omega,by omega⟩
  ·by_cases h43:bs.getD f 0=43
   ·exact rnext_43_in hr hn yq hk0 hk1 hf hfl hV2 hrg he h43
   by_cases h45:bs.getD f 0=45
   ·exact rnext_45_in hr hn yq hk0 hk1 hf hfl hV2 hrg he h45
   by_cases h46:bs.getD f 0=46
   ·exact rnext_46_in hr hn yq hk0 hk1 hf hfl hV2 hrg he h46
   by_cases hlo:(bs.getD f 0).toNat<48
   ·exact rnext_low_in hr hn yq hk0 hk1 hf hfl hV2 hrg he ⟨hlo,h43,h45,h46⟩
   by_cases hhi:57<(bs.getD f 0).toNat
   ·exact zgJ hr hn yq hk0 hk1 hf hfl hV2 hrg he hhi
   exact zfX hr hn yq hk0 hk1 hf hfl hV2 hrg he ⟨by omega,by omega⟩
 have hdl:isDl (bs.getD f 0)=true:=by
  unfold isRg at hrg
  rw [hsp] at hrg
  simpa using hrg
 by_cases h91:bs.getD f 0=91
 ·exact rnext_91 hr hn yq hk0 hk1 hf hfl hV2 h91
 by_cases h93:bs.getD f 0=93
 ·exact rnext_93 hr hn yq hk0 hk1 hf hfl hV2 h93
 by_cases h60:bs.getD f 0=60
 ·by_cases h1:f+1<bs.length
  ·by_cases h2:bs.getD (f+1) 0=60
   ·exact rnext_6060 hr hn yq hk0 hk1 hf hfl hV2 h60 h1 h2
   ·exact rnext_hex hr hn yq hk0 hk1 hf hfl hV2 h60 h1 h2
  ·exact rnext_hexend hr hn yq hk0 hk1 hf hfl hV2 h60 h1
 by_cases h62:bs.getD f 0=62
 ·by_cases h1:f+1<bs.length
  ·by_cases h2:bs.getD (f+1) 0=62
   ·exact rnext_6262 hr hn yq hk0 hk1 hf hfl hV2 h62 h1 h2
   ·exact rnext_62form hr hn yq hk0 hk1 hf hfl hV2 h62 h1 h2
  ·cases yq with
   | false=>exact rnext_62more hr hn false hk0 hk1 hf hfl hV2 h62 (by omega) rfl
   | true=>exact rnext_62last hr hn true hk0 hk1 hf hfl hV2 h62 (by omega) rfl
 by_cases h40:bs.getD f 0=40
 ·exact rnext_text hr hn yq hk0 hk1 hf hfl hV2 h40
 by_cases h47:bs.getD f 0=47
 ·by_cases h1:f+1+runN (bs.drop (f+1))=bs.length
  ·cases yq with
   | false=>exact zgc hr hn false hk0 hk1 hf hfl hV2 h47 h1 rfl
   | true =>
    by_cases hcap:cap=f+1
    ·exact zgP hr hn true hk0 hk1 hf hfl hV2 h47 rfl hcap
    ·exact zga hr hn true hk0 hk1 hf hfl hV2 h47 (fun _ h=>by cases h) h1 rfl hcap
  ·by_cases hcap:cap=f+1
   ·exfalso
    have h2:=hr.2.1
    apply h1
    rw [zbb (by omega)]
    show f+1+0=_
    omega
   ·exact rnext_name hr hn yq hk0 hk1 hf hfl hV2 h47 (fun h _=>h1 h) h1 hcap
 exact rnext_dl hr hn yq hk0 hk1 hf hfl hV2 hdl h91 h93 h60 h62 h40 h47
theorem zfN (x:Tk) (f t:Int) (w:World):Calls Tryz.prog 99 #[.agg (tokN x f t)] w fun e w'=>e=.returned (.bool (zaH x))/\Below w.heap.size w w':=by
 unfold tokN zaH
 generalize x.kind=a0 at *
 generalize x.vk=a1 at *
 generalize x.vn=a2 at *
 generalize mkB x.vs=s1 at *
 generalize mkB x.s=s2 at *
 cases h0:(a0==1)
 ·go_enter Tryz.func99,Tryz.ntmps99
  go_wp2
  go_ret
  exact ⟨rfl,zam w _⟩
 ·go_enter Tryz.func99,Tryz.ntmps99
  go_wp2
  go_ret
  exact ⟨rfl,zam w _⟩
theorem rref_any {w:World} {a:Option Addr} {cap:Nat} {bs:List UInt8} (hr:Row w 1 a bs.length cap (bs.map u8C)) (hn:bs.length<=400000) (k:Int) (yq:Bool) (n:Int) :
  Calls Tryz.prog 130 #[.slice a bs.length cap,.int .i64 k,.bool yq,.int .i64 n] w fun e w' =>
   e=.returned (.tuple #[.bool (refD bs yq k n).1,.int .i64 (refD bs yq k n).2.1,.int .i64 (refD bs yq k n).2.2])/\Below w.heap.size w w':=by
 have HN:=yb (zbX hr hn k yq)
 have HN2:=yb (fun (W:World) (h:Below w.heap.size w W)=>zbX (hr.mono h) hn (zal bs k yq).2.2.1 yq)
 have HWH:=yb (fun (W:World)=>zfN (zal bs k yq).1 (zal bs k yq).2.1 (zal bs k yq).2.2.1 W)
 obtain ⟨R,hR⟩:∃R,R=refD bs yq k n:=⟨_,rfl⟩
 rw [<-hR]
 unfold refD at hR
 simp only at hR
 clear hr hn
 generalize zal bs (zal bs k yq).2.2.1 yq=V2 at *
 generalize zal bs k yq=V at *
 obtain ⟨x,f,t,er⟩:=V
 obtain ⟨y,f2,t2,er2⟩:=V2
 simp only at hR HN2 HWH
 unfold zaB tokN at HN HN2
 unfold tokN at HWH
 simp only at HN HN2
 have HYS:=zbM y.s [82]
 have HR:=yb hR
 have HYQ:=yb HYS
 clear hR HYS
 generalize x.kind=a0 at *
 generalize x.vk=a1 at *
 generalize x.vn=a2 at *
 generalize mkB x.vs=s1 at *
 generalize mkB x.s=s2 at *
 generalize zaH x=wh at *
 generalize y.kind=b0 at *
 generalize y.vk=b1 at *
 generalize y.vn=b2 at *
 generalize mkB y.vs=u1 at *
 generalize mkB y.s=u2 at *
 generalize y.s=ys at *
 generalize bs.length=L at *
 go_enter Tryz.func130,Tryz.ntmps130
 go_wp2_with fail
 refine HN.out.mono ?_
 rintro e w1 ⟨rfl,hb1⟩
 have HB:=yb (hb1.alloc hb1.size (.cells #[.int .i64 a0,.int .i64 f,.int .i64 t,.int .i64 a1,.int .i64 a2,.string s1,.slice none 0 0,.string s2] 111))
 have HK:=yb (zac (w:=w1) (b:=w1.heap.size) (.cells #[.int .i64 a0,.int .i64 f,.int .i64 t,.int .i64 a1,.int .i64 a2,.string s1,.slice none 0 0,.string s2] 111) rfl)
 clear hb1 HN
 by_cases h6:er=6
 ·subst h6
  have hR:=HR.out
  rw [yg rfl] at hR
  subst hR
  clear HR HK HN2 HWH HYQ
  go_wp2
  go_ret3
  exact ⟨rfl,HB.out⟩
 have e6:(er==6)=false:=by rw [yf];exact h6
 by_cases h0:er=0
 case neg =>
  have e0:(er==0)=false:=by rw [yf];exact h0
  have e1:(er != 0)=true:=by simp only [bne,e0,yj]
  have hR:=HR.out
  rw [yh h6,yg (.inl h0)] at hR
  subst hR
  clear HR HK HN2 HWH HYQ h6 h0
  go_wp2
  go_ret3
  exact ⟨rfl,HB.out⟩
 subst h0
 obtain ⟨r1,hr1⟩:∃r1,r1=w1.heap.size:=⟨_,rfl⟩
 rw [<-hr1] at HK
 obtain ⟨W1,hW1⟩:∃W1,W1=w1.alloc (.cells #[.int .i64 a0,.int .i64 f,.int .i64 t,.int .i64 a1,.int .i64 a2,.string s1,.slice none 0 0,.string s2] 111):=⟨_,rfl⟩
 rw [<-hW1] at HK HB
 clear h6
 have HW1:=yb hW1
 have HR1:=yb hr1
 clear hW1 hr1
 cases wh with
 | false =>
  have hR:=HR.out
  rw [yh (by decide),yg (.inr rfl)] at hR
  subst hR
  clear HR HN2 HYQ
  go_upto_region 2 with fail
  rw [<-HW1.out,<-HR1.out]
  obtain ⟨⟨k0,k1,k2,k3,k4,k5,k6,k7⟩,-⟩:=zag HK.out
  go_wp2_with fail
  refine (HWH.out _).mono ?_
  rintro e w2 ⟨rfl,hb2⟩
  have HB2:=yo HB hb2
  clear hb2 k0 k1 k2 k3 k4 k5 k6 k7
  go_wp2
  go_ret3
  exact ⟨rfl,HB2.out⟩
 | true =>
  have hR:=HR.out
  rw [yh (by decide),yh (by simp)] at hR
  have HR:=yb hR
  clear hR
  go_upto_region 2 with fail
  rw [<-HW1.out,<-HR1.out]
  obtain ⟨⟨k0,k1,k2,k3,k4,k5,k6,k7⟩,-⟩:=zag HK.out
  go_wp2_with fail
  refine (HWH.out _).mono ?_
  rintro e w2 ⟨rfl,hb2⟩
  have HB2:=yo HB hb2
  have HK2:=yb (zab hb2 HK.out)
  clear hb2 k0 k1 k2 k3 k4 k5 k6 k7 HK HW1 HR1 HB HWH
  obtain ⟨⟨k0,k1,k2,k3,k4,k5,k6,k7⟩,-⟩:=zag HK2.out
  go_wp2_with fail
  refine (HN2.out _ HB2.out).mono ?_
  rintro e w3 ⟨rfl,hb3⟩
  have hb3a:=hb3.alloc hb3.size (.cells #[.int .i64 b0,.int .i64 f2,.int .i64 t2,.int .i64 b1,.int .i64 b2,.string u1,.slice none 0 0,.string u2] 111)
  have HB3:=yo HB2 hb3a
  have HK3:=yb (zab hb3a HK2.out)
  have HKN:=yb (zac (w:=w3) (b:=w3.heap.size) (.cells #[.int .i64 b0,.int .i64 f2,.int .i64 t2,.int .i64 b1,.int .i64 b2,.string u1,.slice none 0 0,.string u2] 111) rfl)
  clear hb3 hb3a k0 k1 k2 k3 k4 k5 k6 k7 HK2 HB2 HN2
  by_cases h6:er2=6
  ·subst h6
   have hR:=HR.out
   rw [yg rfl] at hR
   subst hR
   clear HR HK3 HKN HYQ
   go_wp2
   go_ret3
   exact ⟨rfl,HB3.out⟩
  have e6:(er2==6)=false:=by rw [yf];exact h6
  by_cases h0:er2=0
  case neg =>
   have e0:(er2==0)=false:=by rw [yf];exact h0
   have e1:(er2 != 0)=true:=by simp only [bne,e0,yj]
   have hR:=HR.out
   rw [yh h6,yg (.inl h0)] at hR
   subst hR
   clear HR HK3 HKN HYQ h6 h0
   go_wp2
   go_ret3
   exact ⟨rfl,HB3.out⟩
  subst h0
  obtain ⟨r3,hr3⟩:∃r3,r3=w3.heap.size:=⟨_,rfl⟩
  rw [<-hr3] at HKN
  obtain ⟨W3,hW3⟩:∃W3,W3=w3.alloc (.cells #[.int .i64 b0,.int .i64 f2,.int .i64 t2,.int .i64 b1,.int .i64 b2,.string u1,.slice none 0 0,.string u2] 111):=⟨_,rfl⟩
  rw [<-hW3] at HK3 HKN HB3
  have HW3:=yb hW3
  have HR3:=yb hr3
  clear h6 hW3 hr3
  by_cases hc:b0=6
  case neg =>
   have c1:(b0==6)=false:=by rw [yf];exact hc
   have c2:(b0 != 6)=true:=by simp only [bne,c1,yj]
   have hR:=HR.out
   rw [yh (by decide),yg (.inr (.inl hc))] at hR
   subst hR
   clear HR hc HYQ HK3
   go_upto_region 7 with fail
   rw [<-HW3.out,<-HR3.out]
   obtain ⟨⟨k0,k1,k2,k3,k4,k5,k6,k7⟩,-⟩:=zag HKN.out
   go_wp2
   go_ret3
   exact ⟨rfl,HB3.out⟩
  subst hc
  have hyq:=HYQ.out
  by_cases hs:ys=[82]
  case neg =>
   rw [ye hs] at hyq
   have c2:(u2.toList != [82])=true:=by simp only [bne,hyq,yj]
   have hR:=HR.out
   rw [yh (by decide),yg (.inr (.inr hs))] at hR
   subst hR
   clear HR hs HYQ HK3
   go_upto_region 7 with fail
   rw [<-HW3.out,<-HR3.out]
   obtain ⟨⟨k0,k1,k2,k3,k4,k5,k6,k7⟩,-⟩:=zag HKN.out
   go_wp2
   go_ret3
   exact ⟨rfl,HB3.out⟩
  rw [yd hs] at hyq
  have c2:(u2.toList != [82])=false:=by simp only [bne,hyq,Bool.not_true]
  have hR:=HR.out
  rw [yh (by decide),yh (by rintro (h|h|h);exact h rfl;exact h rfl;exact h hs)] at hR
  have HR:=yb hR
  clear hR hs HYQ
  go_upto_region 7 with fail
  rw [<-HW3.out,<-HR3.out]
  obtain ⟨⟨k0,k1,k2,k3,k4,k5,k6,k7⟩,-⟩:=zag HKN.out
  obtain ⟨⟨m0,m1,m2,m3,m4,m5,m6,m7⟩,-⟩:=zag HK3.out
  have hR:=HR.out
  by_cases q1:n<1
  ·have d1:decide (n<1)=true:=yd q1
   rw [yg (.inl q1)] at hR
   subst hR
   clear HR q1
   go_wp2
   go_ret3
   exact ⟨rfl,HB3.out⟩
  have d1:decide (n<1)=false:=ye q1
  by_cases q2:4096<n
  ·have d2:decide (4096<n)=true:=yd q2
   rw [yg (.inr (.inl q2))] at hR
   subst hR
   clear HR q1 q2
   go_wp2
   go_ret3
   exact ⟨rfl,HB3.out⟩
  have d2:decide (4096<n)=false:=ye q2
  by_cases q3:a2=0
  case neg =>
   have d3:(a2==0)=false:=by rw [yf];exact q3
   have d4:(a2 != 0)=true:=by simp only [bne,d3,yj]
   rw [yg (.inr (.inr q3))] at hR
   subst hR
   clear HR q1 q2 q3
   go_wp2
   go_ret3
   exact ⟨rfl,HB3.out⟩
  subst q3
  rw [yh (by rintro (h|h|h);exact q1 h;exact q2 h;exact h rfl)] at hR
  subst hR
  clear HR q1 q2
  go_wp2
  go_quiet (fail)
  go_wp2
  go_ret3
  exact ⟨rfl,zah HB3.out _⟩
theorem zea:∀a b:List UInt8,Op.bytesLess a b=sLt a b
 | [],[]=>rfl
 | [],_::_=>rfl
 | _::_,[]=>rfl
 | a::l,b::m=>by
  simp only [Op.bytesLess,sLt]
  rw [zea l m]
  by_cases h:a.toNat<b.toNat
  ·rw [yg h]
   have:(a<b):=h
   simp [this]
  ·rw [yh h]
   have h':¬(a<b):=h
   by_cases h2:b.toNat<a.toNat
   ·rw [yg h2]
    have:(a==b)=false:=by rw [yf];intro e;subst e;omega
    simp [h',this]
   ·rw [yh h2]
    have:a=b:=UInt8.toNat_inj.1 (by omega)
    subst this
    simp
theorem zaP (l:List UInt8):(mkB l).toList=l:=by unfold mkB;exact ByteArray.toList_eq _
structure Box4 (w:World) (b:Nat) (v:PV) (sl:Value):Prop where
 blk:w.heap[b]?=some (.cells #[.int .i64 v.kind,.int .i64 v.n,.string (mkB v.s),sl] 27 (0,0))
theorem Box4.cells {w:World} {b:Nat} {v:PV} (h:Box4 w b v sl):w.cell? ⟨b,0,none⟩=some (.int .i64 v.kind)/\w.cell? ⟨b,1,none⟩=some (.int .i64 v.n)/\w.cell? ⟨b,2,none⟩=some (.string (mkB v.s))/\w.cell? ⟨b,3,none⟩=some sl:=by
 refine ⟨?_,?_,?_,?_⟩
 ·rw [cell_of_row w b 0 _ _ _ h.blk];rfl
 ·rw [cell_of_row w b 1 _ _ _ h.blk];rfl
 ·rw [cell_of_row w b 2 _ _ _ h.blk];rfl
 ·rw [cell_of_row w b 3 _ _ _ h.blk];rfl
def anyF:Nat->Prop:=fun _=>True
theorem IsV.any {w:World} {v:PV} (h:IsV w F v sl):IsV w anyF v sl:=h.weaken fun _ _=>trivial
theorem zfs {w:World} {n cap:Nat} {d:Bool} {a:Option Addr} (h:w.heap[g]?=some (.cells #[.bool d,.slice a n cap] 166 (0,0))) (hn:n<=maxLen) :
  Calls Tryz.prog 158 #[.pointer (some ⟨g,0,none⟩)] w fun e w'=>e=.returned (.bool (d&&n % 2==0))/\w=w':=by
 have c0:w.cell? ⟨g,0,none⟩=some (.bool d):=by rw [cell_of_row w g 0 _ _ _ h];rfl
 have c1:w.cell? ⟨g,1,none⟩=some (.slice a n cap):=by rw [cell_of_row w g 1 _ _ _ h];rfl
 have hi:(n:Int)<=9223372036854775807:=by unfold maxLen at hn;omega
 have he:((n:Int) % 2==0)=(n % 2==0):=by rw [Bool.eq_iff_iff];simp;omega
 have HE:=yb he
 clear h hn he
 cases d
 ·go_enter Tryz.func158,Tryz.ntmps158
  go_wp2
  go_ret
  exact ⟨rfl,rfl⟩
 ·go_enter Tryz.func158,Tryz.ntmps158
  go_wp2
  go_ret
  exact ⟨zbg (by rw [Bool.true_and];exact HE.out),rfl⟩
section
variable {w0 w w' : World} {F F' G : Nat -> Prop} {p : Nat} {a : Option Addr} {cap : Nat} {bs : List UInt8} {yq : Bool} {st : List Lv} {at_ : Int} {gs : List Nat} {osl : Value}
def RefEnd (w0 w:World) (F G:Nat->Prop) (p:Nat) (a:Option Addr) (cap:Nat) (bs:List UInt8) (yq:Bool) (st:List Lv) (gs:List Nat) (osl:Value) (R:PV×Int×Int) (e:Ending) (w':World):Prop :=
 e=.returned (.tuple #[pvA R.1 (.slice none 0 0),.int .i64 R.2.2])/\zaz w0 w' F G p a cap bs yq st R.2.1 gs osl/\zaj (fun b=>b=p) w w'
theorem fin4 (h:zaz w0 w F G p a cap bs yq st at_ gs osl) (hb:Below w.heap.size w W) {q:Nat} (hq:w.heap.size<=q) (hl:q<W.heap.size) (y0 y1 y2 y3:Value) :
  zaz w0 ((((W.setCell ⟨q,0,none⟩ y0).setCell ⟨q,1,none⟩ y1).setCell ⟨q,2,none⟩ y2).setCell ⟨q,3,none⟩ y3) F G p a cap bs yq st at_ gs osl /\
   zaj (fun b=>b=p) w ((((W.setCell ⟨q,0,none⟩ y0).setCell ⟨q,1,none⟩ y1).setCell ⟨q,2,none⟩ y2).setCell ⟨q,3,none⟩ y3) :=
 ⟨((h.res (G':=fun b=>G b\/b=q) hb (fun b hb=>hb.imp id fun e=>by rw [e];exact ⟨hq,hl⟩)).set4 (.inr rfl) _ _ _ _).give fun b hb=>.inl hb,zbl (zax hb) hq _ _ _ _⟩
theorem fin4a (h:zaz w0 w F G p a cap bs yq st at_ gs osl) (hb:Below w.heap.size w W) {q:Nat} (hq:w.heap.size<=q) (hl:q<W.heap.size) (at2:Int) (y0 y1 y2 y3:Value) :
  zaz w0 (((((W.setCell ⟨p,1,none⟩ (.int .i64 at2)).setCell ⟨q,0,none⟩ y0).setCell ⟨q,1,none⟩ y1).setCell ⟨q,2,none⟩ y2).setCell ⟨q,3,none⟩ y3) F G p a cap bs yq st at2 gs osl /\
   zaj (fun b=>b=p) w (((((W.setCell ⟨p,1,none⟩ (.int .i64 at2)).setCell ⟨q,0,none⟩ y0).setCell ⟨q,1,none⟩ y1).setCell ⟨q,2,none⟩ y2).setCell ⟨q,3,none⟩ y3) :=
 ⟨(((h.res (G':=fun b=>G b\/b=q) hb (fun b hb=>hb.imp id fun e=>by rw [e];exact ⟨hq,hl⟩)).setAt at2).set4 (.inr rfl) _ _ _ _).give fun b hb=>.inl hb,
  zbl (zaj.setCell (S:=fun b=>b=p) (a:=⟨p,1,none⟩) (zax hb) (.inl rfl) _) hq _ _ _ _⟩
theorem drew4 (h:zaz w0 W F G p a cap bs yq st at_ gs osl/\zaj S w W):zaz w0 W.drew F G p a cap bs yq st at_ gs osl/\zaj S w W.drew:=⟨h.1.drewN 1,h.2.drewN 1⟩
theorem ref_any (h:zaz w0 w F G p a cap bs yq st at_ gs osl) (v:PV):Calls Tryz.prog 161 #[.pointer (some ⟨p,0,none⟩),pvA v (.slice none 0 0)] w (RefEnd w0 w F G p a cap bs yq st gs osl (refV bs yq at_ v)):=by
 have HN:=yb (fun (W:World) (hb:Below w.heap.size w W)=>zd8 (h.bytes.mono hb) h.small at_ yq)
 obtain ⟨R,hR⟩:∃R,R=refV bs yq at_ v:=⟨_,rfl⟩
 rw [<-hR]
 unfold refV at hR
 simp only at hR
 have HWH:=yb (fun (W:World)=>zg6 (zal bs at_ yq).1 (zal bs at_ yq).2.1 (zal bs at_ yq).2.2.1 W)
 have HN2:=yb (fun (W:World) (hb:Below w.heap.size w W)=>zd8 (h.bytes.mono hb) h.small (zal bs at_ yq).2.2.1 yq)
 generalize zal bs (zal bs at_ yq).2.2.1 yq=V2 at *
 generalize zal bs at_ yq=V at *
 obtain ⟨x,gf,gt,ger⟩:=V
 obtain ⟨y,rf,rt,rer⟩:=V2
 simp only at hR HN2 HWH
 unfold zaB tokN at HN HN2
 unfold tokN at HWH
 simp only at HN HN2
 unfold pvA
 have HR:=yb hR
 have HYS:=yb (zbM y.s [82])
 clear hR
 generalize x.kind=ga0 at *
 generalize x.vk=ga1 at *
 generalize x.vn=ga2 at *
 generalize mkB x.vs=gs1 at *
 generalize mkB x.s=gs2 at *
 generalize y.kind=ra0 at *
 generalize y.vk=ra1 at *
 generalize y.vn=ra2 at *
 generalize mkB y.vs=rs1 at *
 generalize mkB y.s=rs2 at *
 generalize zaH x=wh at *
 obtain ⟨vk,vn,vs,vl⟩:=v
 simp only [PV.kind,PV.n,PV.s] at HR |-
 have HS:=yb h
 have hpw:=h.lt
 clear h
 go_enter Tryz.func161,Tryz.ntmps161
 go_wp2
 have HB1:=yb (zbm w (.cells #[.int .i64 vk,.int .i64 vn,.string (mkB vs),.slice none 0 0] 27) (.cells #[.int .i64 0,.int .i64 0,.string ⟨#[]⟩,.slice none 0 0] 27))
 have HS1:=yb (HS.out.mono HB1.out)
 have HK3:=yb (zak (.cells #[.int .i64 0,.int .i64 0,.string ⟨#[]⟩,.slice none 0 0] 27) (zac (w:=w) (b:=w.heap.size) (.cells #[.int .i64 vk,.int .i64 vn,.string (mkB vs),.slice none 0 0] 27) rfl))
 have HK4:=yb (zac (w:=w.alloc (.cells #[.int .i64 vk,.int .i64 vn,.string (mkB vs),.slice none 0 0] 27)) (b:=w.heap.size+1) (.cells #[.int .i64 0,.int .i64 0,.string ⟨#[]⟩,.slice none 0 0] 27) (by rw [zan]))
 generalize (w.alloc _).alloc _=W1 at *
 obtain ⟨r,hr⟩:∃r,r=w.heap.size:=⟨_,rfl⟩
 have hpr0:p≠r:=by omega
 have hpr1:p≠r+1:=by omega
 rw [<-hr] at HK3 HK4 |-
 have HRR:=yb hr
 clear hr hpw
 obtain ⟨⟨c0,c1,c2,c3⟩,f0,f1,f2,f3⟩:=HS1.out.cells
 go_upto_region 1 with fail
 go_cut [6,7] from 9 (fun v6 v7 wx=>∃r2,v6=.pointer (some ⟨r2,0,none⟩)/\v7=.int .i64 ger/\Hid (TkM W1 wx r2 #[.int .i64 ga0,.int .i64 gf,.int .i64 gt,.int .i64 ga1,.int .i64 ga2,.string gs1,.slice none 0 0,.string gs2]))
 case first =>
  have HA1:=yb (fun o:Obj=>(zam W1 o).drew)
  have HA2:=yb (fun o:Obj=>HB1.out.trans ((HA1.out o).mono (show w.heap.size<=W1.heap.size from HB1.out.size)))
  have HC0:Hid (S3 W1 p 0 (.slice a bs.length cap) p 1 (.int .i64 at_) p 2 (.bool yq)):=yb ⟨c0,c1,c2⟩
  have HPR:Hid (p≠W1.heap.size/\p≠W1.heap.size/\p≠W1.heap.size):=yb ⟨Nat.ne_of_lt (World.block_lt_of_cell? W1 _ c0),Nat.ne_of_lt (World.block_lt_of_cell? W1 _ c1),Nat.ne_of_lt (World.block_lt_of_cell? W1 _ c2)⟩
  go_region_held3 (fun w'=>w'.cell? ⟨p,0,none⟩=some (.slice a bs.length cap)/\w'.cell? ⟨p,1,none⟩=some (.int .i64 at_)/\w'.cell? ⟨p,2,none⟩=some (.bool yq))
   ((show S3 _ p 0 (.slice a bs.length cap) p 1 (.int .i64 at_) p 2 (.bool yq);(first
    |(with_reducible exact HC0.out.drew)
    |(with_reducible exact HC0.out)
    |(with_reducible exact (HC0.out.alloc _).drew)
    |(with_reducible exact Hid.out (by assumption))
    |(with_reducible exact S3.alloc (Hid.out (by assumption)) _)
    |(with_reducible exact S3.set8 (Hid.out (by assumption)) HPR.out.1 HPR.out.2.1 HPR.out.2.2 _ _ _ _ _ _ _ _))))
   ((go_at_call 115;first
    |((with_reducible refine (HN.out _ HB1.out.drew).mono ?_);rintro e wN ⟨rfl,hbN⟩;have hbM:Below W1.heap.size W1 wN:=(Below.refl _ _).drew.trans hbN;have HSN:=yb (HC0.out.below hbM))
    |((with_reducible refine (HN.out _ (HA2.out _)).mono ?_);rintro e wN ⟨rfl,hbN⟩;have hbM:Below W1.heap.size W1 wN:=(HA1.out _).trans (hbN.mono (HA1.out _).size);have HSN:=yb (HC0.out.below hbM);have HZ:=yb (zab hbN (zac (w:=W1) (b:=W1.heap.size) (.cells #[.int .i64 0,.int .i64 0,.int .i64 0,.int .i64 0,.int .i64 0,.string ⟨#[]⟩,.slice none 0 0,.string ⟨#[]⟩] 150) rfl));obtain ⟨⟨z0,z1,z2,z3,z4,z5,z6,z7⟩,y0,y1,y2,y3,y4,y5,y6,y7⟩:=zag HZ.out)))
  all_goals
   first
    |(obtain ⟨W2,hW2⟩:∃W2,W2=wN.alloc (.cells #[.int .i64 ga0,.int .i64 gf,.int .i64 gt,.int .i64 ga1,.int .i64 ga2,.string gs1,.slice none 0 0,.string gs2] 150):=⟨_,rfl⟩
      rw [<-hW2]
      have HT:=yb (show TkM W1 W2 wN.heap.size #[.int .i64 ga0,.int .i64 gf,.int .i64 gt,.int .i64 ga1,.int .i64 ga2,.string gs1,.slice none 0 0,.string gs2] from ⟨by rw [hW2];exact hbM.alloc hbM.size _,by rw [hW2];exact zac _ rfl,hbM.size⟩)
      obtain ⟨r2,hr2⟩:∃r2,r2=wN.heap.size:=⟨_,rfl⟩
      rw [<-hr2] at HT |-)
    |(obtain ⟨W2,hW2⟩:∃W2,W2=((((((((wN.setCell ⟨W1.heap.size,0,none⟩ (.int .i64 ga0)).setCell ⟨W1.heap.size,1,none⟩ (.int .i64 gf)).setCell ⟨W1.heap.size,2,none⟩ (.int .i64 gt)).setCell ⟨W1.heap.size,3,none⟩ (.int .i64 ga1)).setCell ⟨W1.heap.size,4,none⟩ (.int .i64 ga2)).setCell ⟨W1.heap.size,5,none⟩ (.string gs1)).setCell ⟨W1.heap.size,6,none⟩ (.slice none 0 0)).setCell ⟨W1.heap.size,7,none⟩ (.string gs2)):=⟨_,rfl⟩
      rw [<-hW2]
      have HT:=yb (show TkM W1 W2 W1.heap.size #[.int .i64 ga0,.int .i64 gf,.int .i64 gt,.int .i64 ga1,.int .i64 ga2,.string gs1,.slice none 0 0,.string gs2] from ⟨by rw [hW2];exact za3 hbM (yp _) _ _ _ _ _ _ _ _,by rw [hW2];exact set8 HZ.out _ _ _ _ _ _ _ _,yp _⟩)
      clear z0 z1 z2 z3 z4 z5 z6 z7 y0 y1 y2 y3 y4 y5 y6 y7 HZ
      obtain ⟨r2,hr2⟩:∃r2,r2=W1.heap.size:=⟨_,rfl⟩
      rw [<-hr2] at HT |-)
   clear hW2 hr2 hbN hbM HSN
  all_goals
   go_wp2
   go_meet
   exact ⟨r2,rfl,rfl,HT⟩
 case rest =>
  obtain ⟨r2,rfl,rfl,HT⟩:=hcut
  have HS2:=yb (HS1.out.mono HT.out.bel)
  have HB2:=yb (HB1.out.trans (HT.out.bel.mono HB1.out.size))
  have HL3:=yb (zab HT.out.bel HK3.out)
  have HL4:=yb (zab HT.out.bel HK4.out)
  have HTK:=yb HT.out.blk
  clear c0 c1 c2 c3 f0 f1 f2 f3 HT HK3 HK4 HS1 HB1 HN
  have hmv:=yb (fun e w=>more_any e w)
  by_cases hg:ger=0
  case neg =>
   have e1:(ger==0)=false:=by rw [yf];exact hg
   have e2:(ger != 0)=true:=by simp only [bne,e1,yj]
   have hr2:=HR.out
   rw [yg (.inl hg)] at hr2
   have HR2:=yb hr2
   obtain ⟨⟨k0,k1,k2,k3⟩,m0,m1,m2,m3⟩:=zaf HL3.out
   obtain ⟨⟨q0,q1,q2,q3⟩,n0,n1,n2,n3⟩:=zaf HL4.out
   clear hr2 hg HR HN2
   go_wp2
   go_region_with ((go_at_call 190;refine (hmv.out _ _).mono ?_;rintro e w' ⟨rfl,rfl⟩))
   all_goals
    go_wp2
    refine yi (zaa rfl _ _ (r+1) 27 _ (0,0) _ rfl (by exact set4 HL4.out _ _ _ _) Tryz.underlying27 rfl (by exact zar) _ rfl) rfl ?_
    rw [HR2.out]
    exact ⟨rfl,drew4 (fin4 HS.out HB2.out (by rw [HRR.out];exact Nat.le_succ _) (zai HL4.out) _ _ _ _)⟩
  subst hg
  cases wh with
  | false =>
   have hr2:=HR.out
   rw [yg (.inr rfl)] at hr2
   have HR2:=yb hr2
   obtain ⟨⟨k0,k1,k2,k3,k4,k5,k6,k7⟩,-⟩:=zag HTK.out
   clear hr2 HR HN2
   go_wp2_with fail
   refine (HWH.out _).mono ?_
   rintro e w' ⟨rfl,hb⟩
   have HL3b:=yb (zab hb HL3.out)
   have HL4b:=yb (zab hb HL4.out)
   have HB3:=yo HB2 hb
   obtain ⟨⟨k0,k1,k2,k3⟩,m0,m1,m2,m3⟩:=zaf HL3b.out
   obtain ⟨⟨q0,q1,q2,q3⟩,n0,n1,n2,n3⟩:=zaf HL4b.out
   clear hb
   go_wp2
   go_region_with ((go_at_call 190;refine (hmv.out _ _).mono ?_;rintro e w' ⟨rfl,rfl⟩))
   all_goals
    go_wp2
    refine yi (zaa rfl _ _ (r+1) 27 _ (0,0) _ rfl (by exact set4 HL4b.out _ _ _ _) Tryz.underlying27 rfl (by exact zar) _ rfl) rfl ?_
    rw [HR2.out]
    exact ⟨rfl,drew4 (fin4 HS.out HB3.out (by rw [HRR.out];exact Nat.le_succ _) (zai HL4b.out) _ _ _ _)⟩
  | true =>
   have hr1:=HR.out
   rw [yh (by simp)] at hr1
   have HRX:=yb hr1
   obtain ⟨⟨k0,k1,k2,k3,k4,k5,k6,k7⟩,-⟩:=zag HTK.out
   clear hr1 HR
   go_upto_region 4 with (go_at_call 95;refine (HWH.out _).mono ?_;rintro e W3 ⟨rfl,hb3⟩)
   have HB3:=yo HB2 hb3
   have HS3:=yb (HS2.out.mono hb3)
   have HL3b:=yb (zab hb3 HL3.out)
   have HL4b:=yb (zab hb3 HL4.out)
   have HTKb:=yb (zab hb3 HTK.out)
   clear hb3 k0 k1 k2 k3 k4 k5 k6 k7
   go_cut [7,8] from 9 (fun v7 v8 wx=>∃r3,v7=.int .i64 rer/\v8=.pointer (some ⟨r3,0,none⟩)/\Hid (TkM W3 wx r3 #[.int .i64 ra0,.int .i64 rf,.int .i64 rt,.int .i64 ra1,.int .i64 ra2,.string rs1,.slice none 0 0,.string rs2]))
   case first =>
    obtain ⟨⟨k0,k1,k2,k3,k4,k5,k6,k7⟩,-⟩:=zag HTKb.out
    obtain ⟨⟨c0,c1,c2,c3⟩,-⟩:=HS3.out.cells
    clear k0 k1 k3 k4 k5 k6 k7 c1 c3
    have HA1:=yb (fun o:Obj=>(zam W3 o).drew)
    have HA2:=yb (fun o:Obj=>HB3.out.trans ((HA1.out o).mono (show w.heap.size<=W3.heap.size from HB3.out.size)))
    have HC0:Hid (S3 W3 p 0 (.slice a bs.length cap) r2 2 (.int .i64 gt) p 2 (.bool yq)):=yb ⟨c0,k2,c2⟩
    have HPR:Hid (p≠W3.heap.size/\r2≠W3.heap.size/\p≠W3.heap.size):=yb ⟨Nat.ne_of_lt (World.block_lt_of_cell? W3 _ c0),Nat.ne_of_lt (World.block_lt_of_cell? W3 _ k2),Nat.ne_of_lt (World.block_lt_of_cell? W3 _ c2)⟩
    go_region_held3 (fun w'=>w'.cell? ⟨p,0,none⟩=some (.slice a bs.length cap)/\w'.cell? ⟨r2,2,none⟩=some (.int .i64 gt)/\w'.cell? ⟨p,2,none⟩=some (.bool yq))
     ((show S3 _ p 0 (.slice a bs.length cap) r2 2 (.int .i64 gt) p 2 (.bool yq);(first
      |(with_reducible exact HC0.out.drew)
      |(with_reducible exact HC0.out)
      |(with_reducible exact (HC0.out.alloc _).drew)
      |(with_reducible exact Hid.out (by assumption))
      |(with_reducible exact S3.alloc (Hid.out (by assumption)) _)
      |(with_reducible exact S3.set8 (Hid.out (by assumption)) HPR.out.1 HPR.out.2.1 HPR.out.2.2 _ _ _ _ _ _ _ _))))
     ((go_at_call 115;first
      |((with_reducible refine (HN2.out _ HB3.out.drew).mono ?_);rintro e wN ⟨rfl,hbN⟩;have hbM:Below W3.heap.size W3 wN:=(Below.refl _ _).drew.trans hbN;have HSN:=yb (HC0.out.below hbM))
      |((with_reducible refine (HN2.out _ (HA2.out _)).mono ?_);rintro e wN ⟨rfl,hbN⟩;have hbM:Below W3.heap.size W3 wN:=(HA1.out _).trans (hbN.mono (HA1.out _).size);have HSN:=yb (HC0.out.below hbM);have HZ:=yb (zab hbN (zac (w:=W3) (b:=W3.heap.size) (.cells #[.int .i64 0,.int .i64 0,.int .i64 0,.int .i64 0,.int .i64 0,.string ⟨#[]⟩,.slice none 0 0,.string ⟨#[]⟩] 150) rfl));obtain ⟨⟨z0,z1,z2,z3,z4,z5,z6,z7⟩,y0,y1,y2,y3,y4,y5,y6,y7⟩:=zag HZ.out)))
    all_goals
     first
      |(obtain ⟨W2,hW2⟩:∃W2,W2=wN.alloc (.cells #[.int .i64 ra0,.int .i64 rf,.int .i64 rt,.int .i64 ra1,.int .i64 ra2,.string rs1,.slice none 0 0,.string rs2] 150):=⟨_,rfl⟩
        rw [<-hW2]
        have HT:=yb (show TkM W3 W2 wN.heap.size #[.int .i64 ra0,.int .i64 rf,.int .i64 rt,.int .i64 ra1,.int .i64 ra2,.string rs1,.slice none 0 0,.string rs2] from ⟨by rw [hW2];exact hbM.alloc hbM.size _,by rw [hW2];exact zac _ rfl,hbM.size⟩)
        obtain ⟨r2_1,hr2⟩:∃r2_1,r2_1=wN.heap.size:=⟨_,rfl⟩
        rw [<-hr2] at HT |-)
      |(obtain ⟨W2,hW2⟩:∃W2,W2=((((((((wN.setCell ⟨W3.heap.size,0,none⟩ (.int .i64 ra0)).setCell ⟨W3.heap.size,1,none⟩ (.int .i64 rf)).setCell ⟨W3.heap.size,2,none⟩ (.int .i64 rt)).setCell ⟨W3.heap.size,3,none⟩ (.int .i64 ra1)).setCell ⟨W3.heap.size,4,none⟩ (.int .i64 ra2)).setCell ⟨W3.heap.size,5,none⟩ (.string rs1)).setCell ⟨W3.heap.size,6,none⟩ (.slice none 0 0)).setCell ⟨W3.heap.size,7,none⟩ (.string rs2)):=⟨_,rfl⟩
        rw [<-hW2]
        have HT:=yb (show TkM W3 W2 W3.heap.size #[.int .i64 ra0,.int .i64 rf,.int .i64 rt,.int .i64 ra1,.int .i64 ra2,.string rs1,.slice none 0 0,.string rs2] from ⟨by rw [hW2];exact za3 hbM (yp _) _ _ _ _ _ _ _ _,by rw [hW2];exact set8 HZ.out _ _ _ _ _ _ _ _,yp _⟩)
        clear z0 z1 z2 z3 z4 z5 z6 z7 y0 y1 y2 y3 y4 y5 y6 y7 HZ
        obtain ⟨r2_1,hr2⟩:∃r2_1,r2_1=W3.heap.size:=⟨_,rfl⟩
        rw [<-hr2] at HT |-)
     clear hW2 hr2 hbN hbM HSN
    all_goals
     go_wp2
     go_meet
     exact ⟨r2_1,rfl,rfl,HT⟩
   case rest =>
    obtain ⟨r3,rfl,rfl,HT⟩:=hcut
    have HS4:=yb (HS3.out.mono HT.out.bel)
    have HB4:=yb (HB3.out.trans (HT.out.bel.mono HB3.out.size))
    have HM3:=yb (zab HT.out.bel HL3b.out)
    have HM4:=yb (zab HT.out.bel HL4b.out)
    have HU1:=yb (zab HT.out.bel HTKb.out)
    have HU2:=yb HT.out.blk
    clear HT
    obtain ⟨⟨k0,k1,k2,k3⟩,m0,m1,m2,m3⟩:=zaf HM3.out
    obtain ⟨⟨q0,q1,q2,q3⟩,n0,n1,n2,n3⟩:=zaf HM4.out
    obtain ⟨⟨t0,t1,t2,t3,t4,t5,t6,t7⟩,-⟩:=zag HU2.out
    obtain ⟨⟨d0,d1,d2,d3,d4,d5,d6,d7⟩,-⟩:=zag HU1.out
    obtain ⟨⟨c0,c1,c2,c3⟩,f0,f1,f2,f3⟩:=HS4.out.cells
    have hys:=HYS.out
    by_cases h0:rer=0
    case neg =>
     have e1:(rer==0)=false:=by rw [yf];exact h0
     have e2:(rer != 0)=true:=by simp only [bne,e1,yj]
     have hr2:=HRX.out
     rw [yg (.inl h0)] at hr2
     have HR2:=yb hr2
     clear hr2 h0 hys
     go_wp2
     go_region_with ((go_at_call 190;refine (hmv.out _ _).mono ?_;rintro e w' ⟨rfl,rfl⟩))
     all_goals
      go_wp2
      refine yi (zaa rfl _ _ (r+1) 27 _ (0,0) _ rfl (by exact set4 HM4.out _ _ _ _) Tryz.underlying27 rfl (by exact zar) _ rfl) rfl ?_
      rw [HR2.out]
      exact ⟨rfl,drew4 (fin4 HS.out HB4.out (by rw [HRR.out];exact Nat.le_succ _) (zai HM4.out) _ _ _ _)⟩
    subst h0
    by_cases h6:ra0=6
    case neg =>
     have e1:(ra0==6)=false:=by rw [yf];exact h6
     have e2:(ra0 != 6)=true:=by simp only [bne,e1,yj]
     have hr2:=HRX.out
     rw [yg (.inr (.inl h6))] at hr2
     have HR2:=yb hr2
     clear hr2 h6 hys
     go_wp2
     go_region_with ((go_at_call 190;refine (hmv.out _ _).mono ?_;rintro e w' ⟨rfl,rfl⟩))
     all_goals
      go_wp2
      refine yi (zaa rfl _ _ (r+1) 27 _ (0,0) _ rfl (by exact set4 HM4.out _ _ _ _) Tryz.underlying27 rfl (by exact zar) _ rfl) rfl ?_
      rw [HR2.out]
      exact ⟨rfl,drew4 (fin4 HS.out HB4.out (by rw [HRR.out];exact Nat.le_succ _) (zai HM4.out) _ _ _ _)⟩
    subst h6
    by_cases hs:y.s=[82]
    case neg =>
     rw [ye hs] at hys
     have hr2:=HRX.out
     rw [yg (.inr (.inr hs))] at hr2
     have HR2:=yb hr2
     clear hr2 hs
     go_wp2
     go_region_with ((go_at_call 190;refine (hmv.out _ _).mono ?_;rintro e w' ⟨rfl,rfl⟩))
     all_goals
      go_wp2
      refine yi (zaa rfl _ _ (r+1) 27 _ (0,0) _ rfl (by exact set4 HM4.out _ _ _ _) Tryz.underlying27 rfl (by exact zar) _ rfl) rfl ?_
      rw [HR2.out]
      exact ⟨rfl,drew4 (fin4 HS.out HB4.out (by rw [HRR.out];exact Nat.le_succ _) (zai HM4.out) _ _ _ _)⟩
    rw [yd hs] at hys
    have hr2:=HRX.out
    rw [yh (by rintro (h|h|h);exact h rfl;exact h rfl;exact h hs)] at hr2
    have HRY:=yb hr2
    clear hr2 hs
    by_cases hv1:vn<1
    case pos =>
     have hd:decide (vn<1)=true:=yd hv1
     have hr2:=HRY.out.trans (yg (show vn<1\/4096<vn\/ga2≠0 from .inl hv1))
     have HR2:=yb hr2
     clear hr2 hv1
     go_wp2
     refine yi (zaa rfl _ _ (r+1) 27 _ (0,0) _ rfl (by exact set4 HM4.out _ _ _ _) Tryz.underlying27 rfl (by exact zar) _ rfl) rfl ?_
     rw [HR2.out]
     exact ⟨rfl,fin4 HS.out HB4.out (by rw [HRR.out];exact Nat.le_succ _) (zai HM4.out) _ _ _ _⟩
    have hd1:decide (vn<1)=false:=ye hv1
    by_cases hv2:4096<vn
    case pos =>
     have hd:decide (4096<vn)=true:=yd hv2
     have hr2:=HRY.out.trans (yg (show vn<1\/4096<vn\/ga2≠0 from .inr (.inl hv2)))
     have HR2:=yb hr2
     clear hr2 hv2 hv1
     go_wp2
     refine yi (zaa rfl _ _ (r+1) 27 _ (0,0) _ rfl (by exact set4 HM4.out _ _ _ _) Tryz.underlying27 rfl (by exact zar) _ rfl) rfl ?_
     rw [HR2.out]
     exact ⟨rfl,fin4 HS.out HB4.out (by rw [HRR.out];exact Nat.le_succ _) (zai HM4.out) _ _ _ _⟩
    have hd2:decide (4096<vn)=false:=ye hv2
    by_cases hg2:ga2=0
    case neg =>
     have e1:(ga2==0)=false:=by rw [yf];exact hg2
     have e2:(ga2 != 0)=true:=by simp only [bne,e1,yj]
     have hr2:=HRY.out.trans (yg (show vn<1\/4096<vn\/ga2≠0 from .inr (.inr hg2)))
     have HR2:=yb hr2
     clear hr2 hv2 hv1 hg2
     go_wp2
     refine yi (zaa rfl _ _ (r+1) 27 _ (0,0) _ rfl (by exact set4 HM4.out _ _ _ _) Tryz.underlying27 rfl (by exact zar) _ rfl) rfl ?_
     rw [HR2.out]
     exact ⟨rfl,fin4 HS.out HB4.out (by rw [HRR.out];exact Nat.le_succ _) (zai HM4.out) _ _ _ _⟩
    subst hg2
    have hr2:=HRY.out.trans (yh (show ¬(vn<1\/4096<vn\/(0:Int)≠0) by rintro (h|h|h);exact hv1 h;exact hv2 h;exact h rfl))
    have HR2:=yb hr2
    clear hr2 hv2 hv1
    go_wp2
    refine yi (zaa rfl _ _ (r+1) 27 _ (0,0) _ rfl (by exact set4 ((heap_setCell_other _ _ _ _ (Ne.symm hpr1)).trans HM4.out) _ _ _ _) Tryz.underlying27 rfl (by exact zar) _ rfl) rfl ?_
    rw [HR2.out]
    exact ⟨rfl,fin4a HS.out HB4.out (by rw [HRR.out];exact Nat.le_succ _) (zai HM4.out) _ _ _ _ _⟩
end
section
variable {w0 w w' : World} {F F' G : Nat -> Prop} {p : Nat} {a : Option Addr} {cap : Nat} {bs : List UInt8} {yq : Bool} {st : List Lv} {at_ : Int} {gs : List Nat} {osl : Value}
theorem zaz.top (h:zaz w0 w F G p a cap bs yq st at_ gs osl):(st=[]/\gs=[])\/∃v st' g t sa sc,st=v::st'/\gs=g::t/\v.l.length<=sc/\sc<=maxLen/\w.heap[g]?=some (.cells #[.bool v.dict,.slice sa v.l.length sc] 166 (0,0)):=by
 cases st with
 | nil=>exact .inl ⟨rfl,List.eq_nil_of_length_eq_zero (by rw [h.lvs.len];rfl)⟩
 | cons v st' =>
  obtain ⟨g,t,sl,cs,h1,h2,h3,h4,h5,h6,h7,h8⟩:=h.lvs
  obtain ⟨sa,sc,rfl,h9,h10⟩:=zas h5
  exact .inr ⟨v,st',g,t,sa,sc,rfl,h1,h9,h10,h4⟩
theorem single_any (h:zaz w0 w F G p a cap bs yq st at_ gs osl) (x:Tk) (f t:Int):Calls Tryz.prog 120 #[.pointer (some ⟨p,0,none⟩),.agg (tokN x f t)] w (RefEnd w0 w F G p a cap bs yq st gs osl (zaN bs yq st at_ x)):=by
 obtain ⟨R,hR⟩:∃R,R=zaN bs yq st at_ x:=⟨_,rfl⟩
 rw [<-hR]
 unfold zaN at hR
 have HR:=yb hR
 have HTOP:=yb (fun (W:World) (hb:Below w.heap.size w W)=>zgN (h.mono hb))
 have HTP:=yb (fun (W:World) (hb:Below w.heap.size w W)=>(h.mono hb).top)
 have HREF:=yb (fun (W:World) (hb:Below w.heap.size w W) (hl:w.heap.size+1<W.heap.size)=>ref_any (h.res (G':=fun b=>G b\/b=w.heap.size+1) hb (fun b h=>h.imp id fun e=>by rw [e];exact ⟨Nat.le_succ _,hl⟩)) (tkV x))
 have HWD:=yb (fun (W:World)=>pword_any x.s W)
 have HWH:=yb (fun (W:World)=>zg6 x f t W)
 have HTK:=yb (show tkV x=.mk x.vk x.vn x.vs [] from rfl)
 generalize tkV x=TV at *
 unfold tokN at *
 generalize zaH x=wh at *
 generalize x.kind=a0 at *
 generalize x.vk=a1 at *
 generalize x.vn=a2 at *
 generalize hxs:x.vs=xs at *
 generalize x.s=ys at *
 have HS:=yb h
 have hpw:=h.lt
 clear h hR hxs
 go_enter Tryz.func120,Tryz.ntmps120
 go_wp2_with fail
 have HB1:=yb (zbm w (.cells #[.int .i64 a0,.int .i64 f,.int .i64 t,.int .i64 a1,.int .i64 a2,.string (mkB xs),.slice none 0 0,.string (mkB ys)] 150) (.cells #[.int .i64 0,.int .i64 0,.string ⟨#[]⟩,.slice none 0 0] 27))
 have HK3:=yb (zak (.cells #[.int .i64 0,.int .i64 0,.string ⟨#[]⟩,.slice none 0 0] 27) (zac (w:=w) (b:=w.heap.size) (.cells #[.int .i64 a0,.int .i64 f,.int .i64 t,.int .i64 a1,.int .i64 a2,.string (mkB xs),.slice none 0 0,.string (mkB ys)] 150) rfl))
 have HK4:=yb (zac (w:=w.alloc (.cells #[.int .i64 a0,.int .i64 f,.int .i64 t,.int .i64 a1,.int .i64 a2,.string (mkB xs),.slice none 0 0,.string (mkB ys)] 150)) (b:=w.heap.size+1) (.cells #[.int .i64 0,.int .i64 0,.string ⟨#[]⟩,.slice none 0 0] 27) (by rw [zan]))
 refine (HTOP.out _ HB1.out).mono ?_
 rintro e w1 ⟨rfl,q,rfl⟩
 generalize (w.alloc _).alloc _=W1 at *
 have HB2:=yb (zah HB1.out q)
 have HL3:=yb (show (W1.drewN q).heap[w.heap.size]?=_ from HK3.out)
 have HL4:=yb (show (W1.drewN q).heap[w.heap.size+1]?=_ from HK4.out)
 clear HK3 HK4 HB1
 generalize W1.drewN q=W2 at *
 obtain ⟨r,hr⟩:∃r,r=w.heap.size:=⟨_,rfl⟩
 have hpr0:p≠r:=by omega
 have hpr1:p≠r+1:=by omega
 rw [<-hr] at HL3 HL4 |-
 have HRR:=yb hr
 clear hr hpw
 go_upto_region 2 with fail
 go_cut [25] from 7 (fun v25 wx=>∃c:Bool,v25=.bool c/\Hid (c=true↔(topW st=true/\(a0≠1\/a1≠5)))/\W2=wx)
 case first =>
  obtain ⟨⟨k0,k1,k2,k3,k4,k5,k6,k7⟩,-⟩:=zag HL3.out
  rcases HTP.out _ HB2.out with ⟨rfl,rfl⟩|⟨v,st',g,t',sa,sc,rfl,rfl,h1,h2,h3⟩
  ·unfold topP
   go_wp2
   go_meet
   exact ⟨false,rfl,yb (by simp [topW]),rfl⟩
  ·have HWT:=yb (zfs h3 (by omega))
   have HTW:=yb (show topW (v::st')=(v.dict&&v.l.length % 2==0) from rfl)
   unfold topP
   generalize (v.dict&&v.l.length % 2==0)=tw at *
   clear h1 h2 h3
   cases tw
   ·go_wp2_with (go_at_call 158;refine HWT.out.mono ?_;rintro e w' ⟨rfl,rfl⟩)
    go_meet
    exact ⟨false,rfl,yb (by rw [HTW.out];simp),rfl⟩
   ·by_cases h1:a0=1
    ·subst h1
     by_cases h5:a1=5
     ·subst h5
      go_wp2_with (go_at_call 158;refine HWT.out.mono ?_;rintro e w' ⟨rfl,rfl⟩)
      go_meet
      exact ⟨false,rfl,yb (by simp),rfl⟩
     ·have e1:(a1==5)=false:=by rw [yf];exact h5
      have e2:(a1 != 5)=true:=by simp only [bne,e1,yj]
      go_wp2_with (go_at_call 158;refine HWT.out.mono ?_;rintro e w' ⟨rfl,rfl⟩)
      go_meet
      exact ⟨true,rfl,yb (by rw [HTW.out];simp [h5]),rfl⟩
    ·have e1:(a0==1)=false:=by rw [yf];exact h1
     have e2:(a0 != 1)=true:=by simp only [bne,e1,yj]
     go_wp2_with (go_at_call 158;refine HWT.out.mono ?_;rintro e w' ⟨rfl,rfl⟩)
     go_meet
     exact ⟨true,rfl,yb (by rw [HTW.out];simp [h1]),rfl⟩
 case rest =>
  obtain ⟨c,rfl,HC,rfl⟩:=hcut
  have hr1:w.heap.size<=r+1:=by rw [HRR.out];exact Nat.le_succ _
  have HR1:=yb hr1
  clear hr1
  cases c with
  | true =>
   have hr2:=HR.out
   rw [yg (HC.out.1 rfl)] at hr2
   have HR2:=yb hr2
   obtain ⟨⟨q0,q1,q2,q3⟩,n0,n1,n2,n3⟩:=zaf HL4.out
   clear hr2 HR HREF HWD HWH
   go_wp2
   refine yi (zaa rfl _ _ (r+1) 27 _ (0,0) _ rfl (by exact set4 HL4.out _ _ _ _) Tryz.underlying27 rfl (by exact zar) _ rfl) rfl ?_
   rw [HR2.out]
   exact ⟨rfl,fin4 HS.out HB2.out HR1.out (zai HL4.out) _ _ _ _⟩
  | false =>
   have hr2:=HR.out
   rw [yh (fun h=>absurd (HC.out.2 h) (by decide))] at hr2
   have HRX:=yb hr2
   obtain ⟨⟨k0,k1,k2,k3,k4,k5,k6,k7⟩,-⟩:=zag HL3.out
   clear hr2 HR HC
   by_cases h6:a0=6
   ·have hr2:=HRX.out
    rw [yg h6] at hr2
    subst h6
    have hr3:R=((wordE ys).1,at_,(wordE ys).2):=by
     rw [hr2];unfold wordE;cases zdq ys<;>rfl
    have HR2:=yb hr3
    unfold pvA at HWD
    clear hr2 hr3 HRX
    go_wp2_with fail
    refine (HWD.out _).mono ?_
    rintro e w3 ⟨rfl,hb3⟩
    have HL4b:=yb (zab hb3 HL4.out)
    have HB3:=yo HB2 hb3
    obtain ⟨⟨q0,q1,q2,q3⟩,n0,n1,n2,n3⟩:=zaf HL4b.out
    clear hb3
    go_wp2
    refine yi (zaa rfl _ _ (r+1) 27 _ (0,0) _ rfl (by exact set4 HL4b.out _ _ _ _) Tryz.underlying27 rfl (by exact zar) _ rfl) rfl ?_
    rw [HR2.out]
    exact ⟨rfl,fin4 HS.out HB3.out HR1.out (zai HL4b.out) _ _ _ _⟩
   ·have hr2:=HRX.out
    rw [yh h6] at hr2
    have HRY:=yb hr2
    have e1:(a0==6)=false:=by rw [yf];exact h6
    clear hr2 h6 HRX
    go_wp2_with fail
    refine (HWH.out _).mono ?_
    rintro e w3 ⟨rfl,hb3⟩
    have HL3b:=yb (zab hb3 HL3.out)
    have HL4b:=yb (zab hb3 HL4.out)
    have HB3:=yo HB2 hb3
    clear k0 k1 k2 k3 k4 k5 k6 k7 hb3
    obtain ⟨⟨k0,k1,k2,k3,k4,k5,k6,k7⟩,-⟩:=zag HL3b.out
    cases wh with
    | true =>
     have hr2:=HRY.out
     rw [yg rfl] at hr2
     have HR2:=yb hr2
     have HC2:=yb (HREF.out _ HB3.out (by rw [<-HRR.out];exact zai HL4b.out))
     rw [HTK.out] at HC2
     unfold pvA at HC2
     simp only [PV.kind,PV.n,PV.s] at HC2
     clear hr2 HRY HREF
     go_wp2_with fail
     refine HC2.out.mono ?_
     rintro e w4 ⟨he,hs4,hk4⟩
     unfold pvA at he
     subst he
     have HL4c:=yb (hk4.obj HL4b.out (fun e=>hpr1 e.symm))
     have HS4:=yb hs4
     have HK4:=yb ((zax HB3.out).trans hk4 (fun b hb=>.inl hb))
     obtain ⟨⟨q0,q1,q2,q3⟩,n0,n1,n2,n3⟩:=zaf HL4c.out
     clear hs4 hk4 HC2
     go_wp2
     refine yi (zaa rfl _ _ (r+1) 27 _ (0,0) _ rfl (by exact set4 HL4c.out _ _ _ _) Tryz.underlying27 rfl (by exact zar) _ rfl) rfl ?_
     rw [HR2.out]
     rw [HTK.out]
     exact ⟨rfl,(HS4.out.set4 (.inr (by rw [HRR.out])) _ _ _ _).give fun b hb=>.inl hb,zbl HK4.out HR1.out _ _ _ _⟩
    | false =>
     have hr2:=HRY.out
     rw [yh (by decide)] at hr2
     have HR2:=yb hr2
     obtain ⟨⟨q0,q1,q2,q3⟩,n0,n1,n2,n3⟩:=zaf HL4b.out
     clear hr2 HRY HREF
     go_wp2
     refine yi (zaa rfl _ _ (r+1) 27 _ (0,0) _ rfl (by exact set4 HL4b.out _ _ _ _) Tryz.underlying27 rfl (by exact zar) _ rfl) rfl ?_
     rw [HR2.out,HTK.out]
     exact ⟨rfl,fin4 HS.out HB3.out HR1.out (zai HL4b.out) _ _ _ _⟩
end
end Go.Proofs.YtfafdeemfeaedaaGreat
