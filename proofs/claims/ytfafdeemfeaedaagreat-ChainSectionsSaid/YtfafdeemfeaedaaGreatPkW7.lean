/-
  Our texts LexV to VCmp, in one.
-/
import Derived.Test.YtfafdeemfeaedaaGreatPkW6
import Derived.Deep.DeepCutAuto
import Derived.Test.YtfafdeemfeaedaaGreatProg
set_option maxRecDepth 8000
set_option maxHeartbeats 8000000
namespace Go.Proofs.YtfafdeemfeaedaaGreat
open Go.RowKit
theorem Row.cut {α:Type} {enc:α->Value} {w:World} {b off n cap:Nat} {l:List α} (h:Row w 1 (some ⟨b,off,none⟩) n cap (l.map enc)) (lo m:Nat) (hm:lo+m<=n):Row w 1 (some ⟨b,off+lo,none⟩) ((l.drop lo).take m).length (cap-lo) (((l.drop lo).take m).map enc):=by
 have hl:=h.len1
 obtain ⟨h1,h2,h3,h4,h5⟩:=h
 have e:((l.drop lo).take m).length=m:=by rw [List.length_take,ym];omega
 rw [e]
 refine ⟨by simp;omega,by omega,by omega,fun h=>(by cases h),fun h0=>?_⟩
 obtain ⟨b',off',ha,hb,hc⟩:=h5 (by omega)
 cases ha
 refine ⟨b,off+lo,rfl,hb,fun j u hj=>?_⟩
 rw [Nat.add_assoc]
 refine hc (lo+j) u ?_
 rw [List.getElem?_map] at hj |-
 obtain ⟨x,hx,hxu⟩:=Option.map_eq_some_iff.1 hj
 rw [List.getElem?_take] at hx
 split at hx
 ·rw [List.getElem?_drop] at hx
  rw [hx];exact congrArg some hxu
 ·cases hx
def nmK (N:Option (List UInt8)) (r:List UInt8):Int×Tk×List UInt8:=match N with
 | none=>(17,{ kind:=0 },[])
 | some o=>(0,{ kind:=1,vk:=5,vs:=o },r)
theorem tokV_name {yq:Bool} {t:List UInt8} {N:Option (List UInt8)} (h:¬(runN t=t.length/\yq=false)) (hN:zdz (regs t)=N):tokV yq 47 t=nmK N (t.drop (runN t)):=by
 rw [zew];unfold slV;rw [yh h,hN]
 cases N<;>rfl
theorem Row.none1 {α:Type} {enc:α->Value} (w:World) (a:Addr):Row w 1 (some a) ([]:List α).length 0 (([]:List α).map enc):=⟨rfl,yp _,by unfold maxLen;omega,fun h=>(by cases h),fun h=>absurd h (by simp)⟩
theorem zfO {w:World} {a:Option Addr} {cap:Nat} {bs:List UInt8} (hr:Row w 1 a bs.length cap (bs.map u8C)) (hn:bs.length<=400000) {k:Int} (yq:Bool) (hk0:0<=k) (hk1:k<=bs.length) {f:Nat} (hf:zaM bs k=f) (hfl:f<bs.length) {V:Tk×Int×Int×Int} (hV:V=zbm bs f yq) (hc0:bs.getD f 0=47) (h1:f+1+runN (bs.drop (f+1))=bs.length) (hla:yq=false) :
  Calls Tryz.prog 84 #[.slice a bs.length cap,.int .i64 k,.bool yq] w (zaB w V):=by
 have HV:=yb (hV.trans (zaZ (e:=6) hfl hc0 (by rw [zew];unfold slV;rw [yg ⟨by rw [ym];omega,hla⟩]) (by decide)))
 subst hla
 obtain ⟨b,off,R,r,x,rfl,hbW,hx,hR,hRL,hrr,hcap,hcm,hkd,hkd2,hff,hffn,hfi,hf9,hrl,hS,hRN,hc,hcf,hZ,hB0⟩:=zaC hr hn hk0 hk1 hf hfl
 have HRW:=yb hr
 have HC:=yb hc
 have HS:=yb hS
 have HRN:=yb hRN
 have HRR:=yb hR
 have HRL:=yb hRL
 have HRE:=yb hrr
 have HZ:=yb hZ
 have HB0:=yb hB0
 clear hS hRN hRL hZ hB0
 obtain rfl:x=47:=by rw [<-hx,hc0];rfl
 have hrl2:=zbn (bs.drop (f+1))
 rw [ym] at hrl2
 have HRN2:=yb (fun (W:World) (h:Below w.heap.size w W)=>zdJ (HRW.out.mono h) hn (f+1) (by omega))
 obtain ⟨E,hE⟩:∃E,E=f+1+runN (bs.drop (f+1)):=⟨_,rfl⟩
 rw [<-hE] at HRN2
 have hEl:E<=bs.length:=by omega
 have hEf:f+1<=E:=by omega
 obtain rfl:E=bs.length:=hE.trans h1
 clear h1 hE hrl2
 clear hr hf hR hrr hrl hk0 hk1 hc hV hx
 go_enter Tryz.func84,Tryz.ntmps84
 go_wp2_with fail
 refine (HS.out _ HB0.out).mono ?_
 rintro e w' ⟨rfl,rfl⟩
 rw [<-HRE.out]
 generalize w.alloc _=W1 at *
 obtain ⟨hcj1,hcj,hbn,hbl,hX⟩:=zaw hbW HRE.out HB0.out hcf HZ.out
 have HX:=yb hX
 clear hcf hX
 go_wp2_with fail
 refine (HRN.out _ HX.out.bel).mono ?_
 rintro e w' ⟨rfl,rfl⟩
 clear hcj1 hcj hbn hbl
 generalize W1.alloc _=W2 at *
 generalize W1.heap.size=p at *
 clear HZ HB0
 go_wp2_with fail
 refine (HRN2.out _ HX.out.bel).mono ?_
 rintro e w' ⟨rfl,rfl⟩
 obtain ⟨⟨k0,k1,k2,k3,k4,k5,k6,k7⟩,m0,m1,m2,m3,m4,m5,m6,m7⟩:=zag HX.out.blk
 obtain ⟨⟨n0,n1,n2,n3,n4,n5,n6,n7⟩,-⟩:=zag HX.out.no
 go_wp2
 refine yi (zaa rfl _ _ r 111 _ (0,0) _ rfl (set8 HX.out.blk _ _ _ _ _ _ _ _) Tryz.underlying111 rfl zaq _ rfl) rfl ?_
 exact zat (x:={ kind:=0 }) HX.out.bel HX.out.wr HV.out _ _ _ _ _ _ _ _
theorem rnext_name {w:World} {a:Option Addr} {cap:Nat} {bs:List UInt8} (hr:Row w 1 a bs.length cap (bs.map u8C)) (hn:bs.length<=400000) {k:Int} (yq:Bool) (hk0:0<=k) (hk1:k<=bs.length) {f:Nat} (hf:zaM bs k=f) (hfl:f<bs.length) {V:Tk×Int×Int×Int} (hV:V=zbm bs f yq) (hc0:bs.getD f 0=47) (hne:f+1+runN (bs.drop (f+1))=bs.length->yq=false->False) (h1:f+1+runN (bs.drop (f+1))≠bs.length) (hcf1:¬cap=f+1) :
  Calls Tryz.prog 84 #[.slice a bs.length cap,.int .i64 k,.bool yq] w (zaB w V):=by
 obtain ⟨N,hN⟩:∃N,zdz (regs (bs.drop (f+1)))=N:=⟨_,rfl⟩
 have ht:tokV yq 47 (bs.drop (f+1))=nmK N (bs.drop (f+1+runN (bs.drop (f+1)))):=by
  rw [tokV_name (fun h=>hne (by have h1:=h.1;rw [ym] at h1;omega) h.2) hN,List.drop_drop]
 have HT:=yb ht
 have HN:=yb hN
 have HC0:=yb hc0
 have HVV:=yb hV
 have HFL:=yb hfl
 clear ht hN hne
 obtain ⟨b,off,R,r,x,rfl,hbW,hx,hR,hRL,hrr,hcap,hcm,hkd,hkd2,hff,hffn,hfi,hf9,hrl,hS,hRN,hc,hcf,hZ,hB0⟩:=zaC hr hn hk0 hk1 hf hfl
 have HRW:=yb hr
 have HC:=yb hc
 have HS:=yb hS
 have HRN:=yb hRN
 have HRR:=yb hR
 have HRL:=yb hRL
 have HRE:=yb hrr
 have HZ:=yb hZ
 have HB0:=yb hB0
 clear hS hRN hRL hZ hB0
 obtain rfl:x=47:=by rw [<-hx,hc0];rfl
 have hrl2:=zbn (bs.drop (f+1))
 rw [ym] at hrl2
 have HRN2:=yb (fun (W:World) (h:Below w.heap.size w W)=>zdJ (HRW.out.mono h) hn (f+1) (by omega))
 obtain ⟨E,hE⟩:∃E,E=f+1+runN (bs.drop (f+1)):=⟨_,rfl⟩
 rw [<-hE] at HRN2
 have hEl:E<=bs.length:=by omega
 have hEf:f+1<=E:=by omega
 rw [<-hE] at HT
 have HEL:=yb hEl
 have q1:((E:Int)==(bs.length:Int))=false:=by rw [yf];omega
 have q2:decide (E=bs.length)=false:=ye (by omega)
 have HCU:=yb (fun (W:World) (h:Below w.heap.size w W)=>(HRW.out.mono h).cut (f+1) (E-(f+1)) (by omega))
 have hrg:(bs.drop (f+1)).take (E-(f+1))=regs (bs.drop (f+1)):=by rw [zbc,hE,Nat.add_sub_cancel_left]
 rw [hrg] at HCU
 have hrgl:(regs (bs.drop (f+1))).length=E-(f+1):=by show runN _=_;omega
 have HGL:=yb hrgl
 have hce:¬cap=f+1:=hcf1
 clear hcf1 hrg hrgl
 clear h1 hE hrl2
 clear hr hf hR hrr hrl hk0 hk1 hc hV hx
 go_enter Tryz.func84,Tryz.ntmps84
 go_wp2_with fail
 refine (HS.out _ HB0.out).mono ?_
 rintro e w' ⟨rfl,rfl⟩
 rw [<-HRE.out]
 generalize w.alloc _=W1 at *
 obtain ⟨hcj1,hcj,hbn,hbl,hX⟩:=zaw hbW HRE.out HB0.out hcf HZ.out
 have HX:=yb hX
 clear hcf hX
 go_wp2_with fail
 refine (HRN.out _ HX.out.bel).mono ?_
 rintro e w' ⟨rfl,rfl⟩
 clear hcj1 hcj hbn hbl
 generalize W1.alloc _=W2 at *
 generalize W1.heap.size=p at *
 clear HZ HB0
 go_wp2_with fail
 refine (HRN2.out _ HX.out.bel).mono ?_
 rintro e w' ⟨rfl,rfl⟩
 have HNM:=yb (zfl (HCU.out _ HX.out.bel) (by rw [HGL.out];omega))
 rw [HGL.out] at HNM
 rw [HN.out] at HNM
 unfold zdA at HNM
 go_wp2_with fail
 refine HNM.out.mono ?_
 clear HNM HN
 cases N with
 | none =>
  rintro e w3 ⟨hb3,rfl⟩
  unfold valC zbe
  have HX3:=yb ((HX.out.on hb3).alloc (.cells #[.int .i64 0,.int .i64 0,.string ⟨#[]⟩,.slice none 0 0] 27))
  have HV:=yb (HVV.out.trans (zaZ (e:=17) HFL.out HC0.out (by rw [HT.out];rfl) (by decide)))
  clear hb3
  obtain ⟨⟨k0,k1,k2,k3,k4,k5,k6,k7⟩,m0,m1,m2,m3,m4,m5,m6,m7⟩:=zag HX3.out.blk
  obtain ⟨⟨n0,n1,n2,n3,n4,n5,n6,n7⟩,-⟩:=zag HX3.out.no
  go_wp2
  refine yi (zaa rfl _ _ r 111 _ (0,0) _ rfl (set8 HX3.out.blk _ _ _ _ _ _ _ _) Tryz.underlying111 rfl zaq _ rfl) rfl ?_
  exact zat (x:={ kind:=0 }) HX3.out.bel HX3.out.wr HV.out _ _ _ _ _ _ _ _
 | some o =>
  rintro e w3 ⟨hb3,rfl⟩
  unfold valC
  have HX3:=yb ((HX.out.on hb3).alloc (.cells #[.int .i64 5,.int .i64 0,.string (mkB o),.slice none 0 0] 27))
  have HV:=yb (HVV.out.trans (za8 HFL.out HC0.out (x:={ kind:=1,vk:=5,vs:=o }) (j:=E) (by rw [HT.out];rfl) HEL.out))
  clear hb3
  obtain ⟨⟨k0,k1,k2,k3,k4,k5,k6,k7⟩,m0,m1,m2,m3,m4,m5,m6,m7⟩:=zag HX3.out.blk
  obtain ⟨⟨n0,n1,n2,n3,n4,n5,n6,n7⟩,-⟩:=zag HX3.out.no
  go_wp2
  refine yi (zaa rfl _ _ r 111 _ (0,0) _ rfl (set8 HX3.out.blk _ _ _ _ _ _ _ _) Tryz.underlying111 rfl zaq _ rfl) rfl ?_
  exact zat (x:={ kind:=1,vk:=5,vs:=o }) HX3.out.bel HX3.out.wr HV.out _ _ _ _ _ _ _ _
theorem zfT {w:World} {a:Option Addr} {cap:Nat} {bs:List UInt8} (hr:Row w 1 a bs.length cap (bs.map u8C)) (hn:bs.length<=400000) {k:Int} (yq:Bool) (hk0:0<=k) (hk1:k<=bs.length) {f:Nat} (hf:zaM bs k=f) (hfl:f<bs.length) {V:Tk×Int×Int×Int} (hV:V=zbm bs f yq) (hc0:bs.getD f 0=47) (hne:f+1+runN (bs.drop (f+1))=bs.length->yq=false->False) (h1:f+1+runN (bs.drop (f+1))=bs.length) (hla:yq=true) (hcf1:¬cap=f+1) :
  Calls Tryz.prog 84 #[.slice a bs.length cap,.int .i64 k,.bool yq] w (zaB w V):=by
 obtain ⟨N,hN⟩:∃N,zdz (regs (bs.drop (f+1)))=N:=⟨_,rfl⟩
 have ht:tokV yq 47 (bs.drop (f+1))=nmK N (bs.drop (f+1+runN (bs.drop (f+1)))):=by
  rw [tokV_name (fun h=>hne (by have h1:=h.1;rw [ym] at h1;omega) h.2) hN,List.drop_drop]
 have HT:=yb ht
 have HN:=yb hN
 have HC0:=yb hc0
 have HVV:=yb hV
 have HFL:=yb hfl
 clear ht hN hne
 obtain ⟨b,off,R,r,x,rfl,hbW,hx,hR,hRL,hrr,hcap,hcm,hkd,hkd2,hff,hffn,hfi,hf9,hrl,hS,hRN,hc,hcf,hZ,hB0⟩:=zaC hr hn hk0 hk1 hf hfl
 have HRW:=yb hr
 have HC:=yb hc
 have HS:=yb hS
 have HRN:=yb hRN
 have HRR:=yb hR
 have HRL:=yb hRL
 have HRE:=yb hrr
 have HZ:=yb hZ
 have HB0:=yb hB0
 clear hS hRN hRL hZ hB0
 obtain rfl:x=47:=by rw [<-hx,hc0];rfl
 have hrl2:=zbn (bs.drop (f+1))
 rw [ym] at hrl2
 have HRN2:=yb (fun (W:World) (h:Below w.heap.size w W)=>zdJ (HRW.out.mono h) hn (f+1) (by omega))
 obtain ⟨E,hE⟩:∃E,E=f+1+runN (bs.drop (f+1)):=⟨_,rfl⟩
 rw [<-hE] at HRN2
 have hEl:E<=bs.length:=by omega
 have hEf:f+1<=E:=by omega
 rw [<-hE] at HT
 have HEL:=yb hEl
 subst hla
 have HCU:=yb (fun (W:World) (h:Below w.heap.size w W)=>(HRW.out.mono h).cut (f+1) (E-(f+1)) (by omega))
 have hrg:(bs.drop (f+1)).take (E-(f+1))=regs (bs.drop (f+1)):=by rw [zbc,hE,Nat.add_sub_cancel_left]
 rw [hrg] at HCU
 have hrgl:(regs (bs.drop (f+1))).length=E-(f+1):=by show runN _=_;omega
 have HGL:=yb hrgl
 have hce:¬cap=f+1:=hcf1
 clear hcf1 hrg hrgl
 obtain rfl:E=bs.length:=hE.trans h1
 clear h1 hE hrl2
 clear hr hf hR hrr hrl hk0 hk1 hc hV hx
 go_enter Tryz.func84,Tryz.ntmps84
 go_wp2_with fail
 refine (HS.out _ HB0.out).mono ?_
 rintro e w' ⟨rfl,rfl⟩
 rw [<-HRE.out]
 generalize w.alloc _=W1 at *
 obtain ⟨hcj1,hcj,hbn,hbl,hX⟩:=zaw hbW HRE.out HB0.out hcf HZ.out
 have HX:=yb hX
 clear hcf hX
 go_wp2_with fail
 refine (HRN.out _ HX.out.bel).mono ?_
 rintro e w' ⟨rfl,rfl⟩
 clear hcj1 hcj hbn hbl
 generalize W1.alloc _=W2 at *
 generalize W1.heap.size=p at *
 clear HZ HB0
 go_wp2_with fail
 refine (HRN2.out _ HX.out.bel).mono ?_
 rintro e w' ⟨rfl,rfl⟩
 have HNM:=yb (zfl (HCU.out _ HX.out.bel) (by rw [HGL.out];omega))
 rw [HGL.out] at HNM
 rw [HN.out] at HNM
 unfold zdA at HNM
 go_wp2_with fail
 refine HNM.out.mono ?_
 clear HNM HN
 cases N with
 | none =>
  rintro e w3 ⟨hb3,rfl⟩
  unfold valC zbe
  have HX3:=yb ((HX.out.on hb3).alloc (.cells #[.int .i64 0,.int .i64 0,.string ⟨#[]⟩,.slice none 0 0] 27))
  have HV:=yb (HVV.out.trans (zaZ (e:=17) HFL.out HC0.out (by rw [HT.out];rfl) (by decide)))
  clear hb3
  obtain ⟨⟨k0,k1,k2,k3,k4,k5,k6,k7⟩,m0,m1,m2,m3,m4,m5,m6,m7⟩:=zag HX3.out.blk
  obtain ⟨⟨n0,n1,n2,n3,n4,n5,n6,n7⟩,-⟩:=zag HX3.out.no
  go_wp2
  refine yi (zaa rfl _ _ r 111 _ (0,0) _ rfl (set8 HX3.out.blk _ _ _ _ _ _ _ _) Tryz.underlying111 rfl zaq _ rfl) rfl ?_
  exact zat (x:={ kind:=0 }) HX3.out.bel HX3.out.wr HV.out _ _ _ _ _ _ _ _
 | some o =>
  rintro e w3 ⟨hb3,rfl⟩
  unfold valC
  have HX3:=yb ((HX.out.on hb3).alloc (.cells #[.int .i64 5,.int .i64 0,.string (mkB o),.slice none 0 0] 27))
  have HV:=yb (HVV.out.trans (za8 HFL.out HC0.out (x:={ kind:=1,vk:=5,vs:=o }) (j:=bs.length) (by rw [HT.out];rfl) HEL.out))
  clear hb3
  obtain ⟨⟨k0,k1,k2,k3,k4,k5,k6,k7⟩,m0,m1,m2,m3,m4,m5,m6,m7⟩:=zag HX3.out.blk
  obtain ⟨⟨n0,n1,n2,n3,n4,n5,n6,n7⟩,-⟩:=zag HX3.out.no
  go_wp2
  refine yi (zaa rfl _ _ r 111 _ (0,0) _ rfl (set8 HX3.out.blk _ _ _ _ _ _ _ _) Tryz.underlying111 rfl zaq _ rfl) rfl ?_
  exact zat (x:={ kind:=1,vk:=5,vs:=o }) HX3.out.bel HX3.out.wr HV.out _ _ _ _ _ _ _ _
theorem zgC {w:World} {a:Option Addr} {cap:Nat} {bs:List UInt8} (hr:Row w 1 a bs.length cap (bs.map u8C)) (hn:bs.length<=400000) {k:Int} (yq:Bool) (hk0:0<=k) (hk1:k<=bs.length) {f:Nat} (hf:zaM bs k=f) (hfl:f<bs.length) {V:Tk×Int×Int×Int} (hV:V=zbm bs f yq) (hc0:bs.getD f 0=47) (hla:yq=true) (hcf1:cap=f+1) :
  Calls Tryz.prog 84 #[.slice a bs.length cap,.int .i64 k,.bool yq] w (zaB w V):=by
 have hcap0:=hr.2.1
 have HV:=yb (hV.trans (za8 (yq:=yq) hfl hc0 (x:={ kind:=1,vk:=5,vs:=[] }) (j:=bs.length) (by rw [zbd (by omega),List.drop_length,hla];rfl) (by omega)))
 subst hla
 obtain ⟨b,off,R,r,x,rfl,hbW,hx,hR,hRL,hrr,hcap,hcm,hkd,hkd2,hff,hffn,hfi,hf9,hrl,hS,hRN,hc,hcf,hZ,hB0⟩:=zaC hr hn hk0 hk1 hf hfl
 have HRW:=yb hr
 have HC:=yb hc
 have HS:=yb hS
 have HRN:=yb hRN
 have HRR:=yb hR
 have HRL:=yb hRL
 have HRE:=yb hrr
 have HZ:=yb hZ
 have HB0:=yb hB0
 clear hS hRN hRL hZ hB0
 obtain rfl:x=47:=by rw [<-hx,hc0];rfl
 have HRN2:=yb (fun (W:World) (h:Below w.heap.size w W)=>zdJ (HRW.out.mono h) hn bs.length (yp _))
 rw [show bs.length+runN (bs.drop bs.length)=bs.length by rw [List.drop_length];rfl] at HRN2
 have hfe:f+1=bs.length:=by omega
 have hfei:(f:Int)+1=(bs.length:Int):=by omega
 obtain rfl:cap=bs.length:=hcf1.trans hfe
 clear hcf1 hcap0
 clear hr hf hR hrr hrl hk0 hk1 hc hV hx
 go_enter Tryz.func84,Tryz.ntmps84
 go_wp2_with fail
 refine (HS.out _ HB0.out).mono ?_
 rintro e w' ⟨rfl,rfl⟩
 rw [<-HRE.out]
 generalize w.alloc _=W1 at *
 obtain ⟨hcj1,hcj,hbn,hbl,hX⟩:=zaw hbW HRE.out HB0.out hcf HZ.out
 have HX:=yb hX
 clear hcf hX
 go_wp2_with fail
 refine (HRN.out _ HX.out.bel).mono ?_
 rintro e w' ⟨rfl,rfl⟩
 clear hcj1 hcj hbn hbl
 generalize W1.alloc _=W2 at *
 generalize W1.heap.size=p at *
 clear HZ HB0
 go_wp2_with fail
 refine (HRN2.out _ HX.out.bel).mono ?_
 rintro e w' ⟨rfl,rfl⟩
 have HNM:=yb (zfl (bs:=[]) (Row.none1 W2 ⟨b,off,none⟩) (by simp))
 rw [show zdz []=some [] from rfl] at HNM
 unfold zdA at HNM
 go_wp2_with fail
 refine HNM.out.mono ?_
 clear HNM
 rintro e w3 ⟨hb3,rfl⟩
 unfold valC
 have HX3:=yb ((HX.out.on hb3).alloc (.cells #[.int .i64 5,.int .i64 0,.string (mkB []),.slice none 0 0] 27))
 clear hb3
 obtain ⟨⟨k0,k1,k2,k3,k4,k5,k6,k7⟩,m0,m1,m2,m3,m4,m5,m6,m7⟩:=zag HX3.out.blk
 obtain ⟨⟨n0,n1,n2,n3,n4,n5,n6,n7⟩,-⟩:=zag HX3.out.no
 go_wp2
 refine yi (zaa rfl _ _ r 111 _ (0,0) _ rfl (set8 HX3.out.blk _ _ _ _ _ _ _ _) Tryz.underlying111 rfl zaq _ rfl) rfl ?_
 exact zat (x:={ kind:=1,vk:=5,vs:=[] }) HX3.out.bel HX3.out.wr HV.out _ _ _ _ _ _ _ _
theorem zg7 {w:World} {a:Option Addr} {cap:Nat} {bs:List UInt8} (hr:Row w 1 a bs.length cap (bs.map u8C)) (hn:bs.length<=400000) {k:Int} (yq:Bool) (hk0:0<=k) (hk1:k<=bs.length) {f:Nat} (hf:zaM bs k=f) (hfl:f<bs.length) {V:Tk×Int×Int×Int} (hV:V=zbm bs f yq) (hreg:isRg (bs.getD f 0)=true) (h1:f+runN (bs.drop f)=bs.length) (hla:yq=false) :
  Calls Tryz.prog 84 #[.slice a bs.length cap,.int .i64 k,.bool yq] w (zaB w V):=by
 have HT:=yb (show tokV yq (bs.getD f 0) (bs.drop (f+1))=_ from zbt (X:=⟨none,0,bs,yq⟩) (k:=f) hfl hreg)
 have HV:=yb (hV.trans (zaZ (e:=6) hfl rfl (by rw [HT.out];unfold rgV;rw [yg ⟨show runN (bs.drop f)=(bs.drop f).length by rw [ym];omega,hla⟩]) (by decide)))
 clear HT
 subst hla
 have hdl:isDl (bs.getD f 0)=false:=by
  have h:=hreg
  unfold isRg at h
  cases hh:isDl (bs.getD f 0) with
  | false=>rfl
  | true=>rw [hh] at h;simp at h
 have n91:bs.getD f 0≠91:=fun e=>by rw [e] at hreg;exact absurd hreg (by decide)
 have n93:bs.getD f 0≠93:=fun e=>by rw [e] at hreg;exact absurd hreg (by decide)
 have n60:bs.getD f 0≠60:=fun e=>by rw [e] at hreg;exact absurd hreg (by decide)
 have n62:bs.getD f 0≠62:=fun e=>by rw [e] at hreg;exact absurd hreg (by decide)
 have n40:bs.getD f 0≠40:=fun e=>by rw [e] at hreg;exact absurd hreg (by decide)
 have n47:bs.getD f 0≠47:=fun e=>by rw [e] at hreg;exact absurd hreg (by decide)
 have e91:=zau n91 91 rfl
 have e93:=zau n93 93 rfl
 have e60:=zau n60 60 rfl
 have e62:=zau n62 62 rfl
 have e40:=zau n40 40 rfl
 have e47:=zau n47 47 rfl
 obtain ⟨b,off,R,r,x,rfl,hbW,hx,hR,hRL,hrr,hcap,hcm,hkd,hkd2,hff,hffn,hfi,hf9,hrl,hS,hRN,hc,hcf,hZ,hB0⟩:=zaC hr hn hk0 hk1 hf hfl
 have HRW:=yb hr
 have HC:=yb hc
 have HS:=yb hS
 have HRN:=yb hRN
 have HRR:=yb hR
 have HRL:=yb hRL
 have HRE:=yb hrr
 have HZ:=yb hZ
 have HB0:=yb hB0
 clear hS hRN hRL hZ hB0
 have HDL:=yb (fun W=>zaS (bs.getD f 0).toNat W)
 rw [<-zbV,hdl] at HDL
 rw [hx] at HDL e91 e93 e60 e62 e40 e47
 clear n91 n93 n60 n62 n40 n47 hdl hreg
 obtain rfl:R=bs.length:=hR.trans h1
 clear h1
 clear hr hf hR hrr hrl hk0 hk1 hc hV hx
 go_enter Tryz.func84,Tryz.ntmps84
 go_wp2_with fail
 refine (HS.out _ HB0.out).mono ?_
 rintro e w' ⟨rfl,rfl⟩
 rw [<-HRE.out]
 generalize w.alloc _=W1 at *
 obtain ⟨hcj1,hcj,hbn,hbl,hX⟩:=zaw hbW HRE.out HB0.out hcf HZ.out
 have HX:=yb hX
 clear hcf hX
 go_wp2_with fail
 refine (HRN.out _ HX.out.bel).mono ?_
 rintro e w' ⟨rfl,rfl⟩
 clear hcj1 hcj hbn hbl
 generalize W1.alloc _=W2 at *
 generalize W1.heap.size=p at *
 clear HZ HB0
 obtain ⟨⟨k0,k1,k2,k3,k4,k5,k6,k7⟩,m0,m1,m2,m3,m4,m5,m6,m7⟩:=zag HX.out.blk
 obtain ⟨⟨n0,n1,n2,n3,n4,n5,n6,n7⟩,-⟩:=zag HX.out.no
 go_wp2_with (go_at_call 126;refine (HDL.out _).mono ?_;rintro e w' ⟨rfl,rfl⟩)
 refine yi (zaa rfl _ _ r 111 _ (0,0) _ rfl (set8 HX.out.blk _ _ _ _ _ _ _ _) Tryz.underlying111 rfl zaq _ rfl) rfl ?_
 exact zat (x:={ kind:=0 }) HX.out.bel HX.out.wr HV.out _ _ _ _ _ _ _ _
theorem zfQ {w:World} {a:Option Addr} {cap:Nat} {bs:List UInt8} (hr:Row w 1 a bs.length cap (bs.map u8C)) (hn:bs.length<=400000) {k:Int} (yq:Bool) (hk0:0<=k) (hk1:k<=bs.length) {f:Nat} (hf:zaM bs k=f) (hfl:f<bs.length) {V:Tk×Int×Int×Int} (hV:V=zbm bs f yq) (hreg:isRg (bs.getD f 0)=true) (h1:f+runN (bs.drop f)≠bs.length) (hd:48<=(bs.getD f 0).toNat/\(bs.getD f 0).toNat<=57) :
  Calls Tryz.prog 84 #[.slice a bs.length cap,.int .i64 k,.bool yq] w (zaB w V):=by
 have HT:=yb (show tokV yq (bs.getD f 0) (bs.drop (f+1))=_ from zbt (X:=⟨none,0,bs,yq⟩) (k:=f) hfl hreg)
 have hnl:¬(runN ((⟨none,0,bs,yq⟩:Src).bs.drop f)=((⟨none,0,bs,yq⟩:Src).bs.drop f).length/\(⟨none,0,bs,yq⟩:Src).yq=false):=by
  show ¬(runN (bs.drop f)=(bs.drop f).length/\yq=false)
  rw [ym]
  intro h;exact h1 (by omega)
 have hnum:(isDg (bs.getD f 0)=true\/bs.getD f 0=43\/bs.getD f 0=45\/bs.getD f 0=46):=by
  exact .inl (by unfold isDg;simp;exact hd)
 have ht:=HT.out
 unfold rgV at ht
 rw [yh hnl,yg hnum] at ht
 rw [List.drop_drop] at ht
 clear HT hnl hnum
 obtain ⟨P,hP⟩:∃P,zaP (regs (bs.drop f))=P:=⟨_,rfl⟩
 have ht2:tokV yq (bs.getD f 0) (bs.drop (f+1))=(P.2.2,{ kind:=1,vk:=P.1,vn:=P.2.1 },bs.drop (f+runN (bs.drop f))):=by rw [<-hP];exact ht
 have HP:=yb hP
 have HT:=yb ht2
 clear ht ht2 hP
 have HVV:=yb hV
 have HFL:=yb hfl
 have hdl:isDl (bs.getD f 0)=false:=by
  have h:=hreg
  unfold isRg at h
  cases hh:isDl (bs.getD f 0) with
  | false=>rfl
  | true=>rw [hh] at h;simp at h
 have n91:bs.getD f 0≠91:=fun e=>by rw [e] at hreg;exact absurd hreg (by decide)
 have n93:bs.getD f 0≠93:=fun e=>by rw [e] at hreg;exact absurd hreg (by decide)
 have n60:bs.getD f 0≠60:=fun e=>by rw [e] at hreg;exact absurd hreg (by decide)
 have n62:bs.getD f 0≠62:=fun e=>by rw [e] at hreg;exact absurd hreg (by decide)
 have n40:bs.getD f 0≠40:=fun e=>by rw [e] at hreg;exact absurd hreg (by decide)
 have n47:bs.getD f 0≠47:=fun e=>by rw [e] at hreg;exact absurd hreg (by decide)
 have e91:=zau n91 91 rfl
 have e93:=zau n93 93 rfl
 have e60:=zau n60 60 rfl
 have e62:=zau n62 62 rfl
 have e40:=zau n40 40 rfl
 have e47:=zau n47 47 rfl
 obtain ⟨b,off,R,r,x,rfl,hbW,hx,hR,hRL,hrr,hcap,hcm,hkd,hkd2,hff,hffn,hfi,hf9,hrl,hS,hRN,hc,hcf,hZ,hB0⟩:=zaC hr hn hk0 hk1 hf hfl
 have HRW:=yb hr
 have HC:=yb hc
 have HS:=yb hS
 have HRN:=yb hRN
 have HRR:=yb hR
 have HRL:=yb hRL
 have HRE:=yb hrr
 have HZ:=yb hZ
 have HB0:=yb hB0
 clear hS hRN hRL hZ hB0
 have HDL:=yb (fun W=>zaS (bs.getD f 0).toNat W)
 rw [<-zbV,hdl] at HDL
 rw [hx] at HDL e91 e93 e60 e62 e40 e47
 clear n91 n93 n60 n62 n40 n47 hdl hreg
 rw [<-hR] at HT
 have hRt:(bs.drop f).take (R-f)=regs (bs.drop f):=by rw [zbc,hR,Nat.add_sub_cancel_left]
 have HRT:=yb hRt
 have hrt:=zbn (bs.drop f)
 have hRf:f<=R:=by omega
 have hRl2:R<=bs.length:=HRL.out
 have hcf1:¬cap=f:=by omega
 have HRlen:=yb (show (regs (bs.drop f)).length<=400000 by show runN _<=_;omega)
 clear hRt hrt
 rw [hx] at hd
 have d1:decide ((48:Int)<=x)=true:=yd (by omega)
 have d2:decide ((x:Int)<=57)=true:=yd (by omega)
 clear hd
 have q1:((R:Int)==(bs.length:Int))=false:=by rw [yf];omega
 have q2:decide (R=bs.length)=false:=ye (by omega)
 clear h1
 clear hr hf hR hrr hrl hk0 hk1 hc hV hx
 go_enter Tryz.func84,Tryz.ntmps84
 go_wp2_with fail
 refine (HS.out _ HB0.out).mono ?_
 rintro e w' ⟨rfl,rfl⟩
 rw [<-HRE.out]
 generalize w.alloc _=W1 at *
 obtain ⟨hcj1,hcj,hbn,hbl,hX⟩:=zaw hbW HRE.out HB0.out hcf HZ.out
 have HX:=yb hX
 clear hcf hX
 go_wp2_with fail
 refine (HRN.out _ HX.out.bel).mono ?_
 rintro e w' ⟨rfl,rfl⟩
 clear hcj1 hcj hbn hbl
 generalize W1.alloc _=W2 at *
 generalize W1.heap.size=p at *
 clear HZ HB0
 have hcv:(convert 22 9 (.slice (some ⟨b,off+f,none⟩) (R-f) (cap-f))).run Tryz.prog W2=.ok (.string (mkB ((bs.drop f).take (R-f)))) W2:=zaW (X:=⟨none,0,bs,true⟩) HC.out f (R-f) (by have:=HRL.out;show f+_<=bs.length;omega) W2 HX.out.bel
 rw [HRT.out] at hcv
 obtain ⟨s,hs⟩:∃s,mkB (regs (bs.drop f))=s:=⟨_,rfl⟩
 have hsb:bl s=regs (bs.drop f):=by rw [<-hs];rfl
 have HPA:=yb (zbC s W2 (by rw [<-zaG,hsb];exact HRlen.out))
 rw [hsb,HP.out] at HPA
 rw [hs] at hcv
 unfold zbr valC zbe at HPA
 clear hs hsb
 go_wp2_with (go_at_call 126;refine (HDL.out _).mono ?_;rintro e w' ⟨rfl,rfl⟩)
 refine HPA.out.mono ?_
 rintro e w3 ⟨rfl,hb3⟩
 have HX3:=yb ((HX.out.on hb3).alloc (.cells #[.int .i64 P.1,.int .i64 P.2.1,.string ⟨#[]⟩,.slice none 0 0] 27))
 clear hb3 hcv HPA
 by_cases her:P.2.2=0
 ·have HV:=yb (HVV.out.trans (za8 HFL.out rfl (x:={ kind:=1,vk:=P.1,vn:=P.2.1 }) (j:=R) (by rw [HT.out,her]) HRL.out))
  rw [her]
  clear her
  obtain ⟨⟨k0,k1,k2,k3,k4,k5,k6,k7⟩,m0,m1,m2,m3,m4,m5,m6,m7⟩:=zag HX3.out.blk
  obtain ⟨⟨n0,n1,n2,n3,n4,n5,n6,n7⟩,-⟩:=zag HX3.out.no
  go_wp2
  refine yi (zaa rfl _ _ r 111 _ (0,0) _ rfl (set8 HX3.out.blk _ _ _ _ _ _ _ _) Tryz.underlying111 rfl zaq _ rfl) rfl ?_
  exact zat (x:={ kind:=1,vk:=P.1,vn:=P.2.1 }) HX3.out.bel HX3.out.wr HV.out _ _ _ _ _ _ _ _
 ·have HV:=yb (HVV.out.trans (zaZ (e:=P.2.2) HFL.out rfl (by rw [HT.out]) her))
  have er1:(P.2.2==0)=false:=by rw [yf];exact her
  have er2:(P.2.2 != 0)=true:=by simp only [bne,er1,yj]
  clear her
  obtain ⟨⟨k0,k1,k2,k3,k4,k5,k6,k7⟩,m0,m1,m2,m3,m4,m5,m6,m7⟩:=zag HX3.out.blk
  obtain ⟨⟨n0,n1,n2,n3,n4,n5,n6,n7⟩,-⟩:=zag HX3.out.no
  go_wp2
  refine yi (zaa rfl _ _ r 111 _ (0,0) _ rfl (set8 HX3.out.blk _ _ _ _ _ _ _ _) Tryz.underlying111 rfl zaq _ rfl) rfl ?_
  exact zat (x:={ kind:=0 }) HX3.out.bel HX3.out.wr HV.out _ _ _ _ _ _ _ _
theorem rnext_43_in {w:World} {a:Option Addr} {cap:Nat} {bs:List UInt8} (hr:Row w 1 a bs.length cap (bs.map u8C)) (hn:bs.length<=400000) {k:Int} (yq:Bool) (hk0:0<=k) (hk1:k<=bs.length) {f:Nat} (hf:zaM bs k=f) (hfl:f<bs.length) {V:Tk×Int×Int×Int} (hV:V=zbm bs f yq) (hreg:isRg (bs.getD f 0)=true) (h1:f+runN (bs.drop f)≠bs.length) (hc0:bs.getD f 0=43) :
  Calls Tryz.prog 84 #[.slice a bs.length cap,.int .i64 k,.bool yq] w (zaB w V):=by
 have HT:=yb (show tokV yq (bs.getD f 0) (bs.drop (f+1))=_ from zbt (X:=⟨none,0,bs,yq⟩) (k:=f) hfl hreg)
 have hnl:¬(runN ((⟨none,0,bs,yq⟩:Src).bs.drop f)=((⟨none,0,bs,yq⟩:Src).bs.drop f).length/\(⟨none,0,bs,yq⟩:Src).yq=false):=by
  show ¬(runN (bs.drop f)=(bs.drop f).length/\yq=false)
  rw [ym]
  intro h;exact h1 (by omega)
 have hnum:(isDg (bs.getD f 0)=true\/bs.getD f 0=43\/bs.getD f 0=45\/bs.getD f 0=46):=by
  exact .inr (.inl hc0)
 have ht:=HT.out
 unfold rgV at ht
 rw [yh hnl,yg hnum] at ht
 rw [List.drop_drop] at ht
 clear HT hnl hnum
 obtain ⟨P,hP⟩:∃P,zaP (regs (bs.drop f))=P:=⟨_,rfl⟩
 have ht2:tokV yq (bs.getD f 0) (bs.drop (f+1))=(P.2.2,{ kind:=1,vk:=P.1,vn:=P.2.1 },bs.drop (f+runN (bs.drop f))):=by rw [<-hP];exact ht
 have HP:=yb hP
 have HT:=yb ht2
 clear ht ht2 hP
 have HVV:=yb hV
 have HFL:=yb hfl
 have hdl:isDl (bs.getD f 0)=false:=by
  have h:=hreg
  unfold isRg at h
  cases hh:isDl (bs.getD f 0) with
  | false=>rfl
  | true=>rw [hh] at h;simp at h
 have n91:bs.getD f 0≠91:=fun e=>by rw [e] at hreg;exact absurd hreg (by decide)
 have n93:bs.getD f 0≠93:=fun e=>by rw [e] at hreg;exact absurd hreg (by decide)
 have n60:bs.getD f 0≠60:=fun e=>by rw [e] at hreg;exact absurd hreg (by decide)
 have n62:bs.getD f 0≠62:=fun e=>by rw [e] at hreg;exact absurd hreg (by decide)
 have n40:bs.getD f 0≠40:=fun e=>by rw [e] at hreg;exact absurd hreg (by decide)
 have n47:bs.getD f 0≠47:=fun e=>by rw [e] at hreg;exact absurd hreg (by decide)
 have e91:=zau n91 91 rfl
 have e93:=zau n93 93 rfl
 have e60:=zau n60 60 rfl
 have e62:=zau n62 62 rfl
 have e40:=zau n40 40 rfl
 have e47:=zau n47 47 rfl
 obtain ⟨b,off,R,r,x,rfl,hbW,hx,hR,hRL,hrr,hcap,hcm,hkd,hkd2,hff,hffn,hfi,hf9,hrl,hS,hRN,hc,hcf,hZ,hB0⟩:=zaC hr hn hk0 hk1 hf hfl
 have HRW:=yb hr
 have HC:=yb hc
 have HS:=yb hS
 have HRN:=yb hRN
 have HRR:=yb hR
 have HRL:=yb hRL
 have HRE:=yb hrr
 have HZ:=yb hZ
 have HB0:=yb hB0
 clear hS hRN hRL hZ hB0
 have HDL:=yb (fun W=>zaS (bs.getD f 0).toNat W)
 rw [<-zbV,hdl] at HDL
 rw [hx] at HDL e91 e93 e60 e62 e40 e47
 clear n91 n93 n60 n62 n40 n47 hdl hreg
 rw [<-hR] at HT
 have hRt:(bs.drop f).take (R-f)=regs (bs.drop f):=by rw [zbc,hR,Nat.add_sub_cancel_left]
 have HRT:=yb hRt
 have hrt:=zbn (bs.drop f)
 have hRf:f<=R:=by omega
 have hRl2:R<=bs.length:=HRL.out
 have hcf1:¬cap=f:=by omega
 have HRlen:=yb (show (regs (bs.drop f)).length<=400000 by show runN _<=_;omega)
 clear hRt hrt
 obtain rfl:x=43:=by rw [<-hx,hc0];rfl
 clear hc0
 have q1:((R:Int)==(bs.length:Int))=false:=by rw [yf];omega
 have q2:decide (R=bs.length)=false:=ye (by omega)
 clear h1
 clear hr hf hR hrr hrl hk0 hk1 hc hV hx
 go_enter Tryz.func84,Tryz.ntmps84
 go_wp2_with fail
 refine (HS.out _ HB0.out).mono ?_
 rintro e w' ⟨rfl,rfl⟩
 rw [<-HRE.out]
 generalize w.alloc _=W1 at *
 obtain ⟨hcj1,hcj,hbn,hbl,hX⟩:=zaw hbW HRE.out HB0.out hcf HZ.out
 have HX:=yb hX
 clear hcf hX
 go_wp2_with fail
 refine (HRN.out _ HX.out.bel).mono ?_
 rintro e w' ⟨rfl,rfl⟩
 clear hcj1 hcj hbn hbl
 generalize W1.alloc _=W2 at *
 generalize W1.heap.size=p at *
 clear HZ HB0
 have hcv:(convert 22 9 (.slice (some ⟨b,off+f,none⟩) (R-f) (cap-f))).run Tryz.prog W2=.ok (.string (mkB ((bs.drop f).take (R-f)))) W2:=zaW (X:=⟨none,0,bs,true⟩) HC.out f (R-f) (by have:=HRL.out;show f+_<=bs.length;omega) W2 HX.out.bel
 rw [HRT.out] at hcv
 obtain ⟨s,hs⟩:∃s,mkB (regs (bs.drop f))=s:=⟨_,rfl⟩
 have hsb:bl s=regs (bs.drop f):=by rw [<-hs];rfl
 have HPA:=yb (zbC s W2 (by rw [<-zaG,hsb];exact HRlen.out))
 rw [hsb,HP.out] at HPA
 rw [hs] at hcv
 unfold zbr valC zbe at HPA
 clear hs hsb
 go_wp2_with (go_at_call 126;refine (HDL.out _).mono ?_;rintro e w' ⟨rfl,rfl⟩)
 refine HPA.out.mono ?_
 rintro e w3 ⟨rfl,hb3⟩
 have HX3:=yb ((HX.out.on hb3).alloc (.cells #[.int .i64 P.1,.int .i64 P.2.1,.string ⟨#[]⟩,.slice none 0 0] 27))
 clear hb3 hcv HPA
 by_cases her:P.2.2=0
 ·have HV:=yb (HVV.out.trans (za8 HFL.out rfl (x:={ kind:=1,vk:=P.1,vn:=P.2.1 }) (j:=R) (by rw [HT.out,her]) HRL.out))
  rw [her]
  clear her
  obtain ⟨⟨k0,k1,k2,k3,k4,k5,k6,k7⟩,m0,m1,m2,m3,m4,m5,m6,m7⟩:=zag HX3.out.blk
  obtain ⟨⟨n0,n1,n2,n3,n4,n5,n6,n7⟩,-⟩:=zag HX3.out.no
  go_wp2
  refine yi (zaa rfl _ _ r 111 _ (0,0) _ rfl (set8 HX3.out.blk _ _ _ _ _ _ _ _) Tryz.underlying111 rfl zaq _ rfl) rfl ?_
  exact zat (x:={ kind:=1,vk:=P.1,vn:=P.2.1 }) HX3.out.bel HX3.out.wr HV.out _ _ _ _ _ _ _ _
 ·have HV:=yb (HVV.out.trans (zaZ (e:=P.2.2) HFL.out rfl (by rw [HT.out]) her))
  have er1:(P.2.2==0)=false:=by rw [yf];exact her
  have er2:(P.2.2 != 0)=true:=by simp only [bne,er1,yj]
  clear her
  obtain ⟨⟨k0,k1,k2,k3,k4,k5,k6,k7⟩,m0,m1,m2,m3,m4,m5,m6,m7⟩:=zag HX3.out.blk
  obtain ⟨⟨n0,n1,n2,n3,n4,n5,n6,n7⟩,-⟩:=zag HX3.out.no
  go_wp2
  refine yi (zaa rfl _ _ r 111 _ (0,0) _ rfl (set8 HX3.out.blk _ _ _ _ _ _ _ _) Tryz.underlying111 rfl zaq _ rfl) rfl ?_
  exact zat (x:={ kind:=0 }) HX3.out.bel HX3.out.wr HV.out _ _ _ _ _ _ _ _
theorem rnext_45_in {w:World} {a:Option Addr} {cap:Nat} {bs:List UInt8} (hr:Row w 1 a bs.length cap (bs.map u8C)) (hn:bs.length<=400000) {k:Int} (yq:Bool) (hk0:0<=k) (hk1:k<=bs.length) {f:Nat} (hf:zaM bs k=f) (hfl:f<bs.length) {V:Tk×Int×Int×Int} (hV:V=zbm bs f yq) (hreg:isRg (bs.getD f 0)=true) (h1:f+runN (bs.drop f)≠bs.length) (hc0:bs.getD f 0=45) :
  Calls Tryz.prog 84 #[.slice a bs.length cap,.int .i64 k,.bool yq] w (zaB w V):=by
 have HT:=yb (show tokV yq (bs.getD f 0) (bs.drop (f+1))=_ from zbt (X:=⟨none,0,bs,yq⟩) (k:=f) hfl hreg)
 have hnl:¬(runN ((⟨none,0,bs,yq⟩:Src).bs.drop f)=((⟨none,0,bs,yq⟩:Src).bs.drop f).length/\(⟨none,0,bs,yq⟩:Src).yq=false):=by
  show ¬(runN (bs.drop f)=(bs.drop f).length/\yq=false)
  rw [ym]
  intro h;exact h1 (by omega)
 have hnum:(isDg (bs.getD f 0)=true\/bs.getD f 0=43\/bs.getD f 0=45\/bs.getD f 0=46):=by
  exact .inr (.inr (.inl hc0))
 have ht:=HT.out
 unfold rgV at ht
 rw [yh hnl,yg hnum] at ht
 rw [List.drop_drop] at ht
 clear HT hnl hnum
 obtain ⟨P,hP⟩:∃P,zaP (regs (bs.drop f))=P:=⟨_,rfl⟩
 have ht2:tokV yq (bs.getD f 0) (bs.drop (f+1))=(P.2.2,{ kind:=1,vk:=P.1,vn:=P.2.1 },bs.drop (f+runN (bs.drop f))):=by rw [<-hP];exact ht
 have HP:=yb hP
 have HT:=yb ht2
 clear ht ht2 hP
 have HVV:=yb hV
 have HFL:=yb hfl
 have hdl:isDl (bs.getD f 0)=false:=by
  have h:=hreg
  unfold isRg at h
  cases hh:isDl (bs.getD f 0) with
  | false=>rfl
  | true=>rw [hh] at h;simp at h
 have n91:bs.getD f 0≠91:=fun e=>by rw [e] at hreg;exact absurd hreg (by decide)
 have n93:bs.getD f 0≠93:=fun e=>by rw [e] at hreg;exact absurd hreg (by decide)
 have n60:bs.getD f 0≠60:=fun e=>by rw [e] at hreg;exact absurd hreg (by decide)
 have n62:bs.getD f 0≠62:=fun e=>by rw [e] at hreg;exact absurd hreg (by decide)
 have n40:bs.getD f 0≠40:=fun e=>by rw [e] at hreg;exact absurd hreg (by decide)
 have n47:bs.getD f 0≠47:=fun e=>by rw [e] at hreg;exact absurd hreg (by decide)
 have e91:=zau n91 91 rfl
 have e93:=zau n93 93 rfl
 have e60:=zau n60 60 rfl
 have e62:=zau n62 62 rfl
 have e40:=zau n40 40 rfl
 have e47:=zau n47 47 rfl
 obtain ⟨b,off,R,r,x,rfl,hbW,hx,hR,hRL,hrr,hcap,hcm,hkd,hkd2,hff,hffn,hfi,hf9,hrl,hS,hRN,hc,hcf,hZ,hB0⟩:=zaC hr hn hk0 hk1 hf hfl
 have HRW:=yb hr
 have HC:=yb hc
 have HS:=yb hS
 have HRN:=yb hRN
 have HRR:=yb hR
 have HRL:=yb hRL
 have HRE:=yb hrr
 have HZ:=yb hZ
 have HB0:=yb hB0
 clear hS hRN hRL hZ hB0
 have HDL:=yb (fun W=>zaS (bs.getD f 0).toNat W)
 rw [<-zbV,hdl] at HDL
 rw [hx] at HDL e91 e93 e60 e62 e40 e47
 clear n91 n93 n60 n62 n40 n47 hdl hreg
 rw [<-hR] at HT
 have hRt:(bs.drop f).take (R-f)=regs (bs.drop f):=by rw [zbc,hR,Nat.add_sub_cancel_left]
 have HRT:=yb hRt
 have hrt:=zbn (bs.drop f)
 have hRf:f<=R:=by omega
 have hRl2:R<=bs.length:=HRL.out
 have hcf1:¬cap=f:=by omega
 have HRlen:=yb (show (regs (bs.drop f)).length<=400000 by show runN _<=_;omega)
 clear hRt hrt
 obtain rfl:x=45:=by rw [<-hx,hc0];rfl
 clear hc0
 have q1:((R:Int)==(bs.length:Int))=false:=by rw [yf];omega
 have q2:decide (R=bs.length)=false:=ye (by omega)
 clear h1
 clear hr hf hR hrr hrl hk0 hk1 hc hV hx
 go_enter Tryz.func84,Tryz.ntmps84
 go_wp2_with fail
 refine (HS.out _ HB0.out).mono ?_
 rintro e w' ⟨rfl,rfl⟩
 rw [<-HRE.out]
 generalize w.alloc _=W1 at *
 obtain ⟨hcj1,hcj,hbn,hbl,hX⟩:=zaw hbW HRE.out HB0.out hcf HZ.out
 have HX:=yb hX
 clear hcf hX
 go_wp2_with fail
 refine (HRN.out _ HX.out.bel).mono ?_
 rintro e w' ⟨rfl,rfl⟩
 clear hcj1 hcj hbn hbl
 generalize W1.alloc _=W2 at *
 generalize W1.heap.size=p at *
 clear HZ HB0
 have hcv:(convert 22 9 (.slice (some ⟨b,off+f,none⟩) (R-f) (cap-f))).run Tryz.prog W2=.ok (.string (mkB ((bs.drop f).take (R-f)))) W2:=zaW (X:=⟨none,0,bs,true⟩) HC.out f (R-f) (by have:=HRL.out;show f+_<=bs.length;omega) W2 HX.out.bel
 rw [HRT.out] at hcv
 obtain ⟨s,hs⟩:∃s,mkB (regs (bs.drop f))=s:=⟨_,rfl⟩
 have hsb:bl s=regs (bs.drop f):=by rw [<-hs];rfl
 have HPA:=yb (zbC s W2 (by rw [<-zaG,hsb];exact HRlen.out))
 rw [hsb,HP.out] at HPA
 rw [hs] at hcv
 unfold zbr valC zbe at HPA
 clear hs hsb
 go_wp2_with (go_at_call 126;refine (HDL.out _).mono ?_;rintro e w' ⟨rfl,rfl⟩)
 refine HPA.out.mono ?_
 rintro e w3 ⟨rfl,hb3⟩
 have HX3:=yb ((HX.out.on hb3).alloc (.cells #[.int .i64 P.1,.int .i64 P.2.1,.string ⟨#[]⟩,.slice none 0 0] 27))
 clear hb3 hcv HPA
 by_cases her:P.2.2=0
 ·have HV:=yb (HVV.out.trans (za8 HFL.out rfl (x:={ kind:=1,vk:=P.1,vn:=P.2.1 }) (j:=R) (by rw [HT.out,her]) HRL.out))
  rw [her]
  clear her
  obtain ⟨⟨k0,k1,k2,k3,k4,k5,k6,k7⟩,m0,m1,m2,m3,m4,m5,m6,m7⟩:=zag HX3.out.blk
  obtain ⟨⟨n0,n1,n2,n3,n4,n5,n6,n7⟩,-⟩:=zag HX3.out.no
  go_wp2
  refine yi (zaa rfl _ _ r 111 _ (0,0) _ rfl (set8 HX3.out.blk _ _ _ _ _ _ _ _) Tryz.underlying111 rfl zaq _ rfl) rfl ?_
  exact zat (x:={ kind:=1,vk:=P.1,vn:=P.2.1 }) HX3.out.bel HX3.out.wr HV.out _ _ _ _ _ _ _ _
 ·have HV:=yb (HVV.out.trans (zaZ (e:=P.2.2) HFL.out rfl (by rw [HT.out]) her))
  have er1:(P.2.2==0)=false:=by rw [yf];exact her
  have er2:(P.2.2 != 0)=true:=by simp only [bne,er1,yj]
  clear her
  obtain ⟨⟨k0,k1,k2,k3,k4,k5,k6,k7⟩,m0,m1,m2,m3,m4,m5,m6,m7⟩:=zag HX3.out.blk
  obtain ⟨⟨n0,n1,n2,n3,n4,n5,n6,n7⟩,-⟩:=zag HX3.out.no
  go_wp2
  refine yi (zaa rfl _ _ r 111 _ (0,0) _ rfl (set8 HX3.out.blk _ _ _ _ _ _ _ _) Tryz.underlying111 rfl zaq _ rfl) rfl ?_
  exact zat (x:={ kind:=0 }) HX3.out.bel HX3.out.wr HV.out _ _ _ _ _ _ _ _
theorem rnext_46_in {w:World} {a:Option Addr} {cap:Nat} {bs:List UInt8} (hr:Row w 1 a bs.length cap (bs.map u8C)) (hn:bs.length<=400000) {k:Int} (yq:Bool) (hk0:0<=k) (hk1:k<=bs.length) {f:Nat} (hf:zaM bs k=f) (hfl:f<bs.length) {V:Tk×Int×Int×Int} (hV:V=zbm bs f yq) (hreg:isRg (bs.getD f 0)=true) (h1:f+runN (bs.drop f)≠bs.length) (hc0:bs.getD f 0=46) :
  Calls Tryz.prog 84 #[.slice a bs.length cap,.int .i64 k,.bool yq] w (zaB w V):=by
 have HT:=yb (show tokV yq (bs.getD f 0) (bs.drop (f+1))=_ from zbt (X:=⟨none,0,bs,yq⟩) (k:=f) hfl hreg)
 have hnl:¬(runN ((⟨none,0,bs,yq⟩:Src).bs.drop f)=((⟨none,0,bs,yq⟩:Src).bs.drop f).length/\(⟨none,0,bs,yq⟩:Src).yq=false):=by
  show ¬(runN (bs.drop f)=(bs.drop f).length/\yq=false)
  rw [ym]
  intro h;exact h1 (by omega)
 have hnum:(isDg (bs.getD f 0)=true\/bs.getD f 0=43\/bs.getD f 0=45\/bs.getD f 0=46):=by
  exact .inr (.inr (.inr hc0))
 have ht:=HT.out
 unfold rgV at ht
 rw [yh hnl,yg hnum] at ht
 rw [List.drop_drop] at ht
 clear HT hnl hnum
 obtain ⟨P,hP⟩:∃P,zaP (regs (bs.drop f))=P:=⟨_,rfl⟩
 have ht2:tokV yq (bs.getD f 0) (bs.drop (f+1))=(P.2.2,{ kind:=1,vk:=P.1,vn:=P.2.1 },bs.drop (f+runN (bs.drop f))):=by rw [<-hP];exact ht
 have HP:=yb hP
 have HT:=yb ht2
 clear ht ht2 hP
 have HVV:=yb hV
 have HFL:=yb hfl
 have hdl:isDl (bs.getD f 0)=false:=by
  have h:=hreg
  unfold isRg at h
  cases hh:isDl (bs.getD f 0) with
  | false=>rfl
  | true=>rw [hh] at h;simp at h
 have n91:bs.getD f 0≠91:=fun e=>by rw [e] at hreg;exact absurd hreg (by decide)
 have n93:bs.getD f 0≠93:=fun e=>by rw [e] at hreg;exact absurd hreg (by decide)
 have n60:bs.getD f 0≠60:=fun e=>by rw [e] at hreg;exact absurd hreg (by decide)
 have n62:bs.getD f 0≠62:=fun e=>by rw [e] at hreg;exact absurd hreg (by decide)
 have n40:bs.getD f 0≠40:=fun e=>by rw [e] at hreg;exact absurd hreg (by decide)
 have n47:bs.getD f 0≠47:=fun e=>by rw [e] at hreg;exact absurd hreg (by decide)
 have e91:=zau n91 91 rfl
 have e93:=zau n93 93 rfl
 have e60:=zau n60 60 rfl
 have e62:=zau n62 62 rfl
 have e40:=zau n40 40 rfl
 have e47:=zau n47 47 rfl
 obtain ⟨b,off,R,r,x,rfl,hbW,hx,hR,hRL,hrr,hcap,hcm,hkd,hkd2,hff,hffn,hfi,hf9,hrl,hS,hRN,hc,hcf,hZ,hB0⟩:=zaC hr hn hk0 hk1 hf hfl
 have HRW:=yb hr
 have HC:=yb hc
 have HS:=yb hS
 have HRN:=yb hRN
 have HRR:=yb hR
 have HRL:=yb hRL
 have HRE:=yb hrr
 have HZ:=yb hZ
 have HB0:=yb hB0
 clear hS hRN hRL hZ hB0
 have HDL:=yb (fun W=>zaS (bs.getD f 0).toNat W)
 rw [<-zbV,hdl] at HDL
 rw [hx] at HDL e91 e93 e60 e62 e40 e47
 clear n91 n93 n60 n62 n40 n47 hdl hreg
 rw [<-hR] at HT
 have hRt:(bs.drop f).take (R-f)=regs (bs.drop f):=by rw [zbc,hR,Nat.add_sub_cancel_left]
 have HRT:=yb hRt
 have hrt:=zbn (bs.drop f)
 have hRf:f<=R:=by omega
 have hRl2:R<=bs.length:=HRL.out
 have hcf1:¬cap=f:=by omega
 have HRlen:=yb (show (regs (bs.drop f)).length<=400000 by show runN _<=_;omega)
 clear hRt hrt
 obtain rfl:x=46:=by rw [<-hx,hc0];rfl
 clear hc0
 have q1:((R:Int)==(bs.length:Int))=false:=by rw [yf];omega
 have q2:decide (R=bs.length)=false:=ye (by omega)
 clear h1
 clear hr hf hR hrr hrl hk0 hk1 hc hV hx
 go_enter Tryz.func84,Tryz.ntmps84
 go_wp2_with fail
 refine (HS.out _ HB0.out).mono ?_
 rintro e w' ⟨rfl,rfl⟩
 rw [<-HRE.out]
 generalize w.alloc _=W1 at *
 obtain ⟨hcj1,hcj,hbn,hbl,hX⟩:=zaw hbW HRE.out HB0.out hcf HZ.out
 have HX:=yb hX
 clear hcf hX
 go_wp2_with fail
 refine (HRN.out _ HX.out.bel).mono ?_
 rintro e w' ⟨rfl,rfl⟩
 clear hcj1 hcj hbn hbl
 generalize W1.alloc _=W2 at *
 generalize W1.heap.size=p at *
 clear HZ HB0
 have hcv:(convert 22 9 (.slice (some ⟨b,off+f,none⟩) (R-f) (cap-f))).run Tryz.prog W2=.ok (.string (mkB ((bs.drop f).take (R-f)))) W2:=zaW (X:=⟨none,0,bs,true⟩) HC.out f (R-f) (by have:=HRL.out;show f+_<=bs.length;omega) W2 HX.out.bel
 rw [HRT.out] at hcv
 obtain ⟨s,hs⟩:∃s,mkB (regs (bs.drop f))=s:=⟨_,rfl⟩
 have hsb:bl s=regs (bs.drop f):=by rw [<-hs];rfl
 have HPA:=yb (zbC s W2 (by rw [<-zaG,hsb];exact HRlen.out))
 rw [hsb,HP.out] at HPA
 rw [hs] at hcv
 unfold zbr valC zbe at HPA
 clear hs hsb
 go_wp2_with (go_at_call 126;refine (HDL.out _).mono ?_;rintro e w' ⟨rfl,rfl⟩)
 refine HPA.out.mono ?_
 rintro e w3 ⟨rfl,hb3⟩
 have HX3:=yb ((HX.out.on hb3).alloc (.cells #[.int .i64 P.1,.int .i64 P.2.1,.string ⟨#[]⟩,.slice none 0 0] 27))
 clear hb3 hcv HPA
 by_cases her:P.2.2=0
 ·have HV:=yb (HVV.out.trans (za8 HFL.out rfl (x:={ kind:=1,vk:=P.1,vn:=P.2.1 }) (j:=R) (by rw [HT.out,her]) HRL.out))
  rw [her]
  clear her
  obtain ⟨⟨k0,k1,k2,k3,k4,k5,k6,k7⟩,m0,m1,m2,m3,m4,m5,m6,m7⟩:=zag HX3.out.blk
  obtain ⟨⟨n0,n1,n2,n3,n4,n5,n6,n7⟩,-⟩:=zag HX3.out.no
  go_wp2
  refine yi (zaa rfl _ _ r 111 _ (0,0) _ rfl (set8 HX3.out.blk _ _ _ _ _ _ _ _) Tryz.underlying111 rfl zaq _ rfl) rfl ?_
  exact zat (x:={ kind:=1,vk:=P.1,vn:=P.2.1 }) HX3.out.bel HX3.out.wr HV.out _ _ _ _ _ _ _ _
 ·have HV:=yb (HVV.out.trans (zaZ (e:=P.2.2) HFL.out rfl (by rw [HT.out]) her))
  have er1:(P.2.2==0)=false:=by rw [yf];exact her
  have er2:(P.2.2 != 0)=true:=by simp only [bne,er1,yj]
  clear her
  obtain ⟨⟨k0,k1,k2,k3,k4,k5,k6,k7⟩,m0,m1,m2,m3,m4,m5,m6,m7⟩:=zag HX3.out.blk
  obtain ⟨⟨n0,n1,n2,n3,n4,n5,n6,n7⟩,-⟩:=zag HX3.out.no
  go_wp2
  refine yi (zaa rfl _ _ r 111 _ (0,0) _ rfl (set8 HX3.out.blk _ _ _ _ _ _ _ _) Tryz.underlying111 rfl zaq _ rfl) rfl ?_
  exact zat (x:={ kind:=0 }) HX3.out.bel HX3.out.wr HV.out _ _ _ _ _ _ _ _
theorem rnext_low_in {w:World} {a:Option Addr} {cap:Nat} {bs:List UInt8} (hr:Row w 1 a bs.length cap (bs.map u8C)) (hn:bs.length<=400000) {k:Int} (yq:Bool) (hk0:0<=k) (hk1:k<=bs.length) {f:Nat} (hf:zaM bs k=f) (hfl:f<bs.length) {V:Tk×Int×Int×Int} (hV:V=zbm bs f yq) (hreg:isRg (bs.getD f 0)=true) (h1:f+runN (bs.drop f)≠bs.length) (hd:(bs.getD f 0).toNat<48/\bs.getD f 0≠43/\bs.getD f 0≠45/\bs.getD f 0≠46) :
  Calls Tryz.prog 84 #[.slice a bs.length cap,.int .i64 k,.bool yq] w (zaB w V):=by
 have HT:=yb (show tokV yq (bs.getD f 0) (bs.drop (f+1))=_ from zbt (X:=⟨none,0,bs,yq⟩) (k:=f) hfl hreg)
 have hnl:¬(runN ((⟨none,0,bs,yq⟩:Src).bs.drop f)=((⟨none,0,bs,yq⟩:Src).bs.drop f).length/\(⟨none,0,bs,yq⟩:Src).yq=false):=by
  show ¬(runN (bs.drop f)=(bs.drop f).length/\yq=false)
  rw [ym]
  intro h;exact h1 (by omega)
 have hnum:¬(isDg (bs.getD f 0)=true\/bs.getD f 0=43\/bs.getD f 0=45\/bs.getD f 0=46):=by
  rintro (h|h|h|h)
  ·have h2:=za9.1 h;have:=hd.1;omega
  ·exact hd.2.1 h
  ·exact hd.2.2.1 h
  ·exact hd.2.2.2 h
 have ht:=HT.out
 unfold rgV at ht
 rw [yh hnl,yh hnum] at ht
 rw [List.drop_drop] at ht
 clear HT hnl hnum
 have HT:=yb (show tokV yq (bs.getD f 0) (bs.drop (f+1))=(0,{ kind:=6,s:=regs (bs.drop f) },bs.drop (f+runN (bs.drop f))) from ht)
 clear ht
 have HVV:=yb hV
 have HFL:=yb hfl
 have hdl:isDl (bs.getD f 0)=false:=by
  have h:=hreg
  unfold isRg at h
  cases hh:isDl (bs.getD f 0) with
  | false=>rfl
  | true=>rw [hh] at h;simp at h
 have n91:bs.getD f 0≠91:=fun e=>by rw [e] at hreg;exact absurd hreg (by decide)
 have n93:bs.getD f 0≠93:=fun e=>by rw [e] at hreg;exact absurd hreg (by decide)
 have n60:bs.getD f 0≠60:=fun e=>by rw [e] at hreg;exact absurd hreg (by decide)
 have n62:bs.getD f 0≠62:=fun e=>by rw [e] at hreg;exact absurd hreg (by decide)
 have n40:bs.getD f 0≠40:=fun e=>by rw [e] at hreg;exact absurd hreg (by decide)
 have n47:bs.getD f 0≠47:=fun e=>by rw [e] at hreg;exact absurd hreg (by decide)
 have e91:=zau n91 91 rfl
 have e93:=zau n93 93 rfl
 have e60:=zau n60 60 rfl
 have e62:=zau n62 62 rfl
 have e40:=zau n40 40 rfl
 have e47:=zau n47 47 rfl
 have e43:=zau hd.2.1 43 rfl
 have e45:=zau hd.2.2.1 45 rfl
 have e46:=zau hd.2.2.2 46 rfl
 have hd0:=hd.1
 clear hd
 obtain ⟨b,off,R,r,x,rfl,hbW,hx,hR,hRL,hrr,hcap,hcm,hkd,hkd2,hff,hffn,hfi,hf9,hrl,hS,hRN,hc,hcf,hZ,hB0⟩:=zaC hr hn hk0 hk1 hf hfl
 have HRW:=yb hr
 have HC:=yb hc
 have HS:=yb hS
 have HRN:=yb hRN
 have HRR:=yb hR
 have HRL:=yb hRL
 have HRE:=yb hrr
 have HZ:=yb hZ
 have HB0:=yb hB0
 clear hS hRN hRL hZ hB0
 have HDL:=yb (fun W=>zaS (bs.getD f 0).toNat W)
 rw [<-zbV,hdl] at HDL
 rw [hx] at HDL e91 e93 e60 e62 e40 e47
 clear n91 n93 n60 n62 n40 n47 hdl hreg
 rw [<-hR] at HT
 have hRt:(bs.drop f).take (R-f)=regs (bs.drop f):=by rw [zbc,hR,Nat.add_sub_cancel_left]
 have HRT:=yb hRt
 have hrt:=zbn (bs.drop f)
 have hRf:f<=R:=by omega
 have hRl2:R<=bs.length:=HRL.out
 have hcf1:¬cap=f:=by omega
 have HRlen:=yb (show (regs (bs.drop f)).length<=400000 by show runN _<=_;omega)
 clear hRt hrt
 rw [hx] at hd0 e43 e45 e46
 have d1:decide ((48:Int)<=x)=false:=ye (by omega)
 clear hd0
 have q1:((R:Int)==(bs.length:Int))=false:=by rw [yf];omega
 have q2:decide (R=bs.length)=false:=ye (by omega)
 clear h1
 clear hr hf hR hrr hrl hk0 hk1 hc hV hx
 go_enter Tryz.func84,Tryz.ntmps84
 go_wp2_with fail
 refine (HS.out _ HB0.out).mono ?_
 rintro e w' ⟨rfl,rfl⟩
 rw [<-HRE.out]
 generalize w.alloc _=W1 at *
 obtain ⟨hcj1,hcj,hbn,hbl,hX⟩:=zaw hbW HRE.out HB0.out hcf HZ.out
 have HX:=yb hX
 clear hcf hX
 go_wp2_with fail
 refine (HRN.out _ HX.out.bel).mono ?_
 rintro e w' ⟨rfl,rfl⟩
 clear hcj1 hcj hbn hbl
 generalize W1.alloc _=W2 at *
 generalize W1.heap.size=p at *
 clear HZ HB0
 have hcv:(convert 22 9 (.slice (some ⟨b,off+f,none⟩) (R-f) (cap-f))).run Tryz.prog W2=.ok (.string (mkB ((bs.drop f).take (R-f)))) W2:=zaW (X:=⟨none,0,bs,true⟩) HC.out f (R-f) (by have:=HRL.out;show f+_<=bs.length;omega) W2 HX.out.bel
 rw [HRT.out] at hcv
 have HV:=yb (HVV.out.trans (za8 HFL.out rfl (x:={ kind:=6,s:=regs (bs.drop f) }) (j:=R) HT.out HRL.out))
 obtain ⟨⟨k0,k1,k2,k3,k4,k5,k6,k7⟩,m0,m1,m2,m3,m4,m5,m6,m7⟩:=zag HX.out.blk
 obtain ⟨⟨n0,n1,n2,n3,n4,n5,n6,n7⟩,-⟩:=zag HX.out.no
 go_wp2_with (go_at_call 126;refine (HDL.out _).mono ?_;rintro e w' ⟨rfl,rfl⟩)
 refine yi (zaa rfl _ _ r 111 _ (0,0) _ rfl (set8 HX.out.blk _ _ _ _ _ _ _ _) Tryz.underlying111 rfl zaq _ rfl) rfl ?_
 exact zat (x:={ kind:=6,s:=regs (bs.drop f) }) HX.out.bel HX.out.wr HV.out _ _ _ _ _ _ _ _
theorem zhc {w:World} {a:Option Addr} {cap:Nat} {bs:List UInt8} (hr:Row w 1 a bs.length cap (bs.map u8C)) (hn:bs.length<=400000) {k:Int} (yq:Bool) (hk0:0<=k) (hk1:k<=bs.length) {f:Nat} (hf:zaM bs k=f) (hfl:f<bs.length) {V:Tk×Int×Int×Int} (hV:V=zbm bs f yq) (hreg:isRg (bs.getD f 0)=true) (h1:f+runN (bs.drop f)≠bs.length) (hd:57<(bs.getD f 0).toNat) :
  Calls Tryz.prog 84 #[.slice a bs.length cap,.int .i64 k,.bool yq] w (zaB w V):=by
 have HT:=yb (show tokV yq (bs.getD f 0) (bs.drop (f+1))=_ from zbt (X:=⟨none,0,bs,yq⟩) (k:=f) hfl hreg)
 have hnl:¬(runN ((⟨none,0,bs,yq⟩:Src).bs.drop f)=((⟨none,0,bs,yq⟩:Src).bs.drop f).length/\(⟨none,0,bs,yq⟩:Src).yq=false):=by
  show ¬(runN (bs.drop f)=(bs.drop f).length/\yq=false)
  rw [ym]
  intro h;exact h1 (by omega)
 have hnum:¬(isDg (bs.getD f 0)=true\/bs.getD f 0=43\/bs.getD f 0=45\/bs.getD f 0=46):=by
  rintro (h|h|h|h)
  ·have h2:=za9.1 h;omega
  ·rw [h] at hd;exact absurd hd (by decide)
  ·rw [h] at hd;exact absurd hd (by decide)
  ·rw [h] at hd;exact absurd hd (by decide)
 have ht:=HT.out
 unfold rgV at ht
 rw [yh hnl,yh hnum] at ht
 rw [List.drop_drop] at ht
 clear HT hnl hnum
 have HT:=yb (show tokV yq (bs.getD f 0) (bs.drop (f+1))=(0,{ kind:=6,s:=regs (bs.drop f) },bs.drop (f+runN (bs.drop f))) from ht)
 clear ht
 have HVV:=yb hV
 have HFL:=yb hfl
 have hdl:isDl (bs.getD f 0)=false:=by
  have h:=hreg
  unfold isRg at h
  cases hh:isDl (bs.getD f 0) with
  | false=>rfl
  | true=>rw [hh] at h;simp at h
 have n91:bs.getD f 0≠91:=fun e=>by rw [e] at hreg;exact absurd hreg (by decide)
 have n93:bs.getD f 0≠93:=fun e=>by rw [e] at hreg;exact absurd hreg (by decide)
 have n60:bs.getD f 0≠60:=fun e=>by rw [e] at hreg;exact absurd hreg (by decide)
 have n62:bs.getD f 0≠62:=fun e=>by rw [e] at hreg;exact absurd hreg (by decide)
 have n40:bs.getD f 0≠40:=fun e=>by rw [e] at hreg;exact absurd hreg (by decide)
 have n47:bs.getD f 0≠47:=fun e=>by rw [e] at hreg;exact absurd hreg (by decide)
 have e91:=zau n91 91 rfl
 have e93:=zau n93 93 rfl
 have e60:=zau n60 60 rfl
 have e62:=zau n62 62 rfl
 have e40:=zau n40 40 rfl
 have e47:=zau n47 47 rfl
 obtain ⟨b,off,R,r,x,rfl,hbW,hx,hR,hRL,hrr,hcap,hcm,hkd,hkd2,hff,hffn,hfi,hf9,hrl,hS,hRN,hc,hcf,hZ,hB0⟩:=zaC hr hn hk0 hk1 hf hfl
 have HRW:=yb hr
 have HC:=yb hc
 have HS:=yb hS
 have HRN:=yb hRN
 have HRR:=yb hR
 have HRL:=yb hRL
 have HRE:=yb hrr
 have HZ:=yb hZ
 have HB0:=yb hB0
 clear hS hRN hRL hZ hB0
 have HDL:=yb (fun W=>zaS (bs.getD f 0).toNat W)
 rw [<-zbV,hdl] at HDL
 rw [hx] at HDL e91 e93 e60 e62 e40 e47
 clear n91 n93 n60 n62 n40 n47 hdl hreg
 rw [<-hR] at HT
 have hRt:(bs.drop f).take (R-f)=regs (bs.drop f):=by rw [zbc,hR,Nat.add_sub_cancel_left]
 have HRT:=yb hRt
 have hrt:=zbn (bs.drop f)
 have hRf:f<=R:=by omega
 have hRl2:R<=bs.length:=HRL.out
 have hcf1:¬cap=f:=by omega
 have HRlen:=yb (show (regs (bs.drop f)).length<=400000 by show runN _<=_;omega)
 clear hRt hrt
 rw [hx] at hd
 have d1:decide ((48:Int)<=x)=true:=yd (by omega)
 have d2:decide ((x:Int)<=57)=false:=ye (by omega)
 have e43:((x:Int)==43)=false:=by rw [yf];omega
 have e45:((x:Int)==45)=false:=by rw [yf];omega
 have e46:((x:Int)==46)=false:=by rw [yf];omega
 clear hd
 have q1:((R:Int)==(bs.length:Int))=false:=by rw [yf];omega
 have q2:decide (R=bs.length)=false:=ye (by omega)
 clear h1
 clear hr hf hR hrr hrl hk0 hk1 hc hV hx
 go_enter Tryz.func84,Tryz.ntmps84
 go_wp2_with fail
 refine (HS.out _ HB0.out).mono ?_
 rintro e w' ⟨rfl,rfl⟩
 rw [<-HRE.out]
 generalize w.alloc _=W1 at *
 obtain ⟨hcj1,hcj,hbn,hbl,hX⟩:=zaw hbW HRE.out HB0.out hcf HZ.out
 have HX:=yb hX
 clear hcf hX
 go_wp2_with fail
 refine (HRN.out _ HX.out.bel).mono ?_
 rintro e w' ⟨rfl,rfl⟩
 clear hcj1 hcj hbn hbl
 generalize W1.alloc _=W2 at *
 generalize W1.heap.size=p at *
 clear HZ HB0
 have hcv:(convert 22 9 (.slice (some ⟨b,off+f,none⟩) (R-f) (cap-f))).run Tryz.prog W2=.ok (.string (mkB ((bs.drop f).take (R-f)))) W2:=zaW (X:=⟨none,0,bs,true⟩) HC.out f (R-f) (by have:=HRL.out;show f+_<=bs.length;omega) W2 HX.out.bel
 rw [HRT.out] at hcv
 have HV:=yb (HVV.out.trans (za8 HFL.out rfl (x:={ kind:=6,s:=regs (bs.drop f) }) (j:=R) HT.out HRL.out))
 obtain ⟨⟨k0,k1,k2,k3,k4,k5,k6,k7⟩,m0,m1,m2,m3,m4,m5,m6,m7⟩:=zag HX.out.blk
 obtain ⟨⟨n0,n1,n2,n3,n4,n5,n6,n7⟩,-⟩:=zag HX.out.no
 go_wp2_with (go_at_call 126;refine (HDL.out _).mono ?_;rintro e w' ⟨rfl,rfl⟩)
 refine yi (zaa rfl _ _ r 111 _ (0,0) _ rfl (set8 HX.out.blk _ _ _ _ _ _ _ _) Tryz.underlying111 rfl zaq _ rfl) rfl ?_
 exact zat (x:={ kind:=6,s:=regs (bs.drop f) }) HX.out.bel HX.out.wr HV.out _ _ _ _ _ _ _ _
theorem ze7 {w:World} {a:Option Addr} {cap:Nat} {bs:List UInt8} (hr:Row w 1 a bs.length cap (bs.map u8C)) (hn:bs.length<=400000) {k:Int} (yq:Bool) (hk0:0<=k) (hk1:k<=bs.length) {f:Nat} (hf:zaM bs k=f) (hfl:f<bs.length) {V:Tk×Int×Int×Int} (hV:V=zbm bs f yq) (hreg:isRg (bs.getD f 0)=true) (h1:f+runN (bs.drop f)=bs.length) (hla:yq=true) (hd:48<=(bs.getD f 0).toNat/\(bs.getD f 0).toNat<=57) :
  Calls Tryz.prog 84 #[.slice a bs.length cap,.int .i64 k,.bool yq] w (zaB w V):=by
 have HT:=yb (show tokV yq (bs.getD f 0) (bs.drop (f+1))=_ from zbt (X:=⟨none,0,bs,yq⟩) (k:=f) hfl hreg)
 have hnl:¬(runN ((⟨none,0,bs,yq⟩:Src).bs.drop f)=((⟨none,0,bs,yq⟩:Src).bs.drop f).length/\(⟨none,0,bs,yq⟩:Src).yq=false):=by
  show ¬(runN (bs.drop f)=(bs.drop f).length/\yq=false)
  rw [ym]
  rw [hla];simp
 have hnum:(isDg (bs.getD f 0)=true\/bs.getD f 0=43\/bs.getD f 0=45\/bs.getD f 0=46):=by
  exact .inl (by unfold isDg;simp;exact hd)
 have ht:=HT.out
 unfold rgV at ht
 rw [yh hnl,yg hnum] at ht
 rw [List.drop_drop] at ht
 clear HT hnl hnum
 obtain ⟨P,hP⟩:∃P,zaP (regs (bs.drop f))=P:=⟨_,rfl⟩
 have ht2:tokV yq (bs.getD f 0) (bs.drop (f+1))=(P.2.2,{ kind:=1,vk:=P.1,vn:=P.2.1 },bs.drop (f+runN (bs.drop f))):=by rw [<-hP];exact ht
 have HP:=yb hP
 have HT:=yb ht2
 clear ht ht2 hP
 have HVV:=yb hV
 have HFL:=yb hfl
 subst hla
 have hdl:isDl (bs.getD f 0)=false:=by
  have h:=hreg
  unfold isRg at h
  cases hh:isDl (bs.getD f 0) with
  | false=>rfl
  | true=>rw [hh] at h;simp at h
 have n91:bs.getD f 0≠91:=fun e=>by rw [e] at hreg;exact absurd hreg (by decide)
 have n93:bs.getD f 0≠93:=fun e=>by rw [e] at hreg;exact absurd hreg (by decide)
 have n60:bs.getD f 0≠60:=fun e=>by rw [e] at hreg;exact absurd hreg (by decide)
 have n62:bs.getD f 0≠62:=fun e=>by rw [e] at hreg;exact absurd hreg (by decide)
 have n40:bs.getD f 0≠40:=fun e=>by rw [e] at hreg;exact absurd hreg (by decide)
 have n47:bs.getD f 0≠47:=fun e=>by rw [e] at hreg;exact absurd hreg (by decide)
 have e91:=zau n91 91 rfl
 have e93:=zau n93 93 rfl
 have e60:=zau n60 60 rfl
 have e62:=zau n62 62 rfl
 have e40:=zau n40 40 rfl
 have e47:=zau n47 47 rfl
 obtain ⟨b,off,R,r,x,rfl,hbW,hx,hR,hRL,hrr,hcap,hcm,hkd,hkd2,hff,hffn,hfi,hf9,hrl,hS,hRN,hc,hcf,hZ,hB0⟩:=zaC hr hn hk0 hk1 hf hfl
 have HRW:=yb hr
 have HC:=yb hc
 have HS:=yb hS
 have HRN:=yb hRN
 have HRR:=yb hR
 have HRL:=yb hRL
 have HRE:=yb hrr
 have HZ:=yb hZ
 have HB0:=yb hB0
 clear hS hRN hRL hZ hB0
 have HDL:=yb (fun W=>zaS (bs.getD f 0).toNat W)
 rw [<-zbV,hdl] at HDL
 rw [hx] at HDL e91 e93 e60 e62 e40 e47
 clear n91 n93 n60 n62 n40 n47 hdl hreg
 rw [<-hR] at HT
 have hRt:(bs.drop f).take (R-f)=regs (bs.drop f):=by rw [zbc,hR,Nat.add_sub_cancel_left]
 have HRT:=yb hRt
 have hrt:=zbn (bs.drop f)
 have hRf:f<=R:=by omega
 have hRl2:R<=bs.length:=HRL.out
 have hcf1:¬cap=f:=by omega
 have HRlen:=yb (show (regs (bs.drop f)).length<=400000 by show runN _<=_;omega)
 clear hRt hrt
 rw [hx] at hd
 have d1:decide ((48:Int)<=x)=true:=yd (by omega)
 have d2:decide ((x:Int)<=57)=true:=yd (by omega)
 clear hd
 obtain rfl:R=bs.length:=hR.trans h1
 clear h1
 clear hr hf hR hrr hrl hk0 hk1 hc hV hx
 go_enter Tryz.func84,Tryz.ntmps84
 go_wp2_with fail
 refine (HS.out _ HB0.out).mono ?_
 rintro e w' ⟨rfl,rfl⟩
 rw [<-HRE.out]
 generalize w.alloc _=W1 at *
 obtain ⟨hcj1,hcj,hbn,hbl,hX⟩:=zaw hbW HRE.out HB0.out hcf HZ.out
 have HX:=yb hX
 clear hcf hX
 go_wp2_with fail
 refine (HRN.out _ HX.out.bel).mono ?_
 rintro e w' ⟨rfl,rfl⟩
 clear hcj1 hcj hbn hbl
 generalize W1.alloc _=W2 at *
 generalize W1.heap.size=p at *
 clear HZ HB0
 have hcv:(convert 22 9 (.slice (some ⟨b,off+f,none⟩) (bs.length-f) (cap-f))).run Tryz.prog W2=.ok (.string (mkB ((bs.drop f).take (bs.length-f)))) W2:=zaW (X:=⟨none,0,bs,true⟩) HC.out f (bs.length-f) (by have:=HRL.out;show f+_<=bs.length;omega) W2 HX.out.bel
 rw [HRT.out] at hcv
 obtain ⟨s,hs⟩:∃s,mkB (regs (bs.drop f))=s:=⟨_,rfl⟩
 have hsb:bl s=regs (bs.drop f):=by rw [<-hs];rfl
 have HPA:=yb (zbC s W2 (by rw [<-zaG,hsb];exact HRlen.out))
 rw [hsb,HP.out] at HPA
 rw [hs] at hcv
 unfold zbr valC zbe at HPA
 clear hs hsb
 go_wp2_with (go_at_call 126;refine (HDL.out _).mono ?_;rintro e w' ⟨rfl,rfl⟩)
 refine HPA.out.mono ?_
 rintro e w3 ⟨rfl,hb3⟩
 have HX3:=yb ((HX.out.on hb3).alloc (.cells #[.int .i64 P.1,.int .i64 P.2.1,.string ⟨#[]⟩,.slice none 0 0] 27))
 clear hb3 hcv HPA
 by_cases her:P.2.2=0
 ·have HV:=yb (HVV.out.trans (za8 HFL.out rfl (x:={ kind:=1,vk:=P.1,vn:=P.2.1 }) (j:=bs.length) (by rw [HT.out,her]) HRL.out))
  rw [her]
  clear her
  obtain ⟨⟨k0,k1,k2,k3,k4,k5,k6,k7⟩,m0,m1,m2,m3,m4,m5,m6,m7⟩:=zag HX3.out.blk
  obtain ⟨⟨n0,n1,n2,n3,n4,n5,n6,n7⟩,-⟩:=zag HX3.out.no
  go_wp2
  refine yi (zaa rfl _ _ r 111 _ (0,0) _ rfl (set8 HX3.out.blk _ _ _ _ _ _ _ _) Tryz.underlying111 rfl zaq _ rfl) rfl ?_
  exact zat (x:={ kind:=1,vk:=P.1,vn:=P.2.1 }) HX3.out.bel HX3.out.wr HV.out _ _ _ _ _ _ _ _
 ·have HV:=yb (HVV.out.trans (zaZ (e:=P.2.2) HFL.out rfl (by rw [HT.out]) her))
  have er1:(P.2.2==0)=false:=by rw [yf];exact her
  have er2:(P.2.2 != 0)=true:=by simp only [bne,er1,yj]
  clear her
  obtain ⟨⟨k0,k1,k2,k3,k4,k5,k6,k7⟩,m0,m1,m2,m3,m4,m5,m6,m7⟩:=zag HX3.out.blk
  obtain ⟨⟨n0,n1,n2,n3,n4,n5,n6,n7⟩,-⟩:=zag HX3.out.no
  go_wp2
  refine yi (zaa rfl _ _ r 111 _ (0,0) _ rfl (set8 HX3.out.blk _ _ _ _ _ _ _ _) Tryz.underlying111 rfl zaq _ rfl) rfl ?_
  exact zat (x:={ kind:=0 }) HX3.out.bel HX3.out.wr HV.out _ _ _ _ _ _ _ _
theorem rnext_43_end {w:World} {a:Option Addr} {cap:Nat} {bs:List UInt8} (hr:Row w 1 a bs.length cap (bs.map u8C)) (hn:bs.length<=400000) {k:Int} (yq:Bool) (hk0:0<=k) (hk1:k<=bs.length) {f:Nat} (hf:zaM bs k=f) (hfl:f<bs.length) {V:Tk×Int×Int×Int} (hV:V=zbm bs f yq) (hreg:isRg (bs.getD f 0)=true) (h1:f+runN (bs.drop f)=bs.length) (hla:yq=true) (hc0:bs.getD f 0=43) :
  Calls Tryz.prog 84 #[.slice a bs.length cap,.int .i64 k,.bool yq] w (zaB w V):=by
 have HT:=yb (show tokV yq (bs.getD f 0) (bs.drop (f+1))=_ from zbt (X:=⟨none,0,bs,yq⟩) (k:=f) hfl hreg)
 have hnl:¬(runN ((⟨none,0,bs,yq⟩:Src).bs.drop f)=((⟨none,0,bs,yq⟩:Src).bs.drop f).length/\(⟨none,0,bs,yq⟩:Src).yq=false):=by
  show ¬(runN (bs.drop f)=(bs.drop f).length/\yq=false)
  rw [ym]
  rw [hla];simp
 have hnum:(isDg (bs.getD f 0)=true\/bs.getD f 0=43\/bs.getD f 0=45\/bs.getD f 0=46):=by
  exact .inr (.inl hc0)
 have ht:=HT.out
 unfold rgV at ht
 rw [yh hnl,yg hnum] at ht
 rw [List.drop_drop] at ht
 clear HT hnl hnum
 obtain ⟨P,hP⟩:∃P,zaP (regs (bs.drop f))=P:=⟨_,rfl⟩
 have ht2:tokV yq (bs.getD f 0) (bs.drop (f+1))=(P.2.2,{ kind:=1,vk:=P.1,vn:=P.2.1 },bs.drop (f+runN (bs.drop f))):=by rw [<-hP];exact ht
 have HP:=yb hP
 have HT:=yb ht2
 clear ht ht2 hP
 have HVV:=yb hV
 have HFL:=yb hfl
 subst hla
 have hdl:isDl (bs.getD f 0)=false:=by
  have h:=hreg
  unfold isRg at h
  cases hh:isDl (bs.getD f 0) with
  | false=>rfl
  | true=>rw [hh] at h;simp at h
 have n91:bs.getD f 0≠91:=fun e=>by rw [e] at hreg;exact absurd hreg (by decide)
 have n93:bs.getD f 0≠93:=fun e=>by rw [e] at hreg;exact absurd hreg (by decide)
 have n60:bs.getD f 0≠60:=fun e=>by rw [e] at hreg;exact absurd hreg (by decide)
 have n62:bs.getD f 0≠62:=fun e=>by rw [e] at hreg;exact absurd hreg (by decide)
 have n40:bs.getD f 0≠40:=fun e=>by rw [e] at hreg;exact absurd hreg (by decide)
 have n47:bs.getD f 0≠47:=fun e=>by rw [e] at hreg;exact absurd hreg (by decide)
 have e91:=zau n91 91 rfl
 have e93:=zau n93 93 rfl
 have e60:=zau n60 60 rfl
 have e62:=zau n62 62 rfl
 have e40:=zau n40 40 rfl
 have e47:=zau n47 47 rfl
 obtain ⟨b,off,R,r,x,rfl,hbW,hx,hR,hRL,hrr,hcap,hcm,hkd,hkd2,hff,hffn,hfi,hf9,hrl,hS,hRN,hc,hcf,hZ,hB0⟩:=zaC hr hn hk0 hk1 hf hfl
 have HRW:=yb hr
 have HC:=yb hc
 have HS:=yb hS
 have HRN:=yb hRN
 have HRR:=yb hR
 have HRL:=yb hRL
 have HRE:=yb hrr
 have HZ:=yb hZ
 have HB0:=yb hB0
 clear hS hRN hRL hZ hB0
 have HDL:=yb (fun W=>zaS (bs.getD f 0).toNat W)
 rw [<-zbV,hdl] at HDL
 rw [hx] at HDL e91 e93 e60 e62 e40 e47
 clear n91 n93 n60 n62 n40 n47 hdl hreg
 rw [<-hR] at HT
 have hRt:(bs.drop f).take (R-f)=regs (bs.drop f):=by rw [zbc,hR,Nat.add_sub_cancel_left]
 have HRT:=yb hRt
 have hrt:=zbn (bs.drop f)
 have hRf:f<=R:=by omega
 have hRl2:R<=bs.length:=HRL.out
 have hcf1:¬cap=f:=by omega
 have HRlen:=yb (show (regs (bs.drop f)).length<=400000 by show runN _<=_;omega)
 clear hRt hrt
 obtain rfl:x=43:=by rw [<-hx,hc0];rfl
 clear hc0
 obtain rfl:R=bs.length:=hR.trans h1
 clear h1
 clear hr hf hR hrr hrl hk0 hk1 hc hV hx
 go_enter Tryz.func84,Tryz.ntmps84
 go_wp2_with fail
 refine (HS.out _ HB0.out).mono ?_
 rintro e w' ⟨rfl,rfl⟩
 rw [<-HRE.out]
 generalize w.alloc _=W1 at *
 obtain ⟨hcj1,hcj,hbn,hbl,hX⟩:=zaw hbW HRE.out HB0.out hcf HZ.out
 have HX:=yb hX
 clear hcf hX
 go_wp2_with fail
 refine (HRN.out _ HX.out.bel).mono ?_
 rintro e w' ⟨rfl,rfl⟩
 clear hcj1 hcj hbn hbl
 generalize W1.alloc _=W2 at *
 generalize W1.heap.size=p at *
 clear HZ HB0
 have hcv:(convert 22 9 (.slice (some ⟨b,off+f,none⟩) (bs.length-f) (cap-f))).run Tryz.prog W2=.ok (.string (mkB ((bs.drop f).take (bs.length-f)))) W2:=zaW (X:=⟨none,0,bs,true⟩) HC.out f (bs.length-f) (by have:=HRL.out;show f+_<=bs.length;omega) W2 HX.out.bel
 rw [HRT.out] at hcv
 obtain ⟨s,hs⟩:∃s,mkB (regs (bs.drop f))=s:=⟨_,rfl⟩
 have hsb:bl s=regs (bs.drop f):=by rw [<-hs];rfl
 have HPA:=yb (zbC s W2 (by rw [<-zaG,hsb];exact HRlen.out))
 rw [hsb,HP.out] at HPA
 rw [hs] at hcv
 unfold zbr valC zbe at HPA
 clear hs hsb
 go_wp2_with (go_at_call 126;refine (HDL.out _).mono ?_;rintro e w' ⟨rfl,rfl⟩)
 refine HPA.out.mono ?_
 rintro e w3 ⟨rfl,hb3⟩
 have HX3:=yb ((HX.out.on hb3).alloc (.cells #[.int .i64 P.1,.int .i64 P.2.1,.string ⟨#[]⟩,.slice none 0 0] 27))
 clear hb3 hcv HPA
 by_cases her:P.2.2=0
 ·have HV:=yb (HVV.out.trans (za8 HFL.out rfl (x:={ kind:=1,vk:=P.1,vn:=P.2.1 }) (j:=bs.length) (by rw [HT.out,her]) HRL.out))
  rw [her]
  clear her
  obtain ⟨⟨k0,k1,k2,k3,k4,k5,k6,k7⟩,m0,m1,m2,m3,m4,m5,m6,m7⟩:=zag HX3.out.blk
  obtain ⟨⟨n0,n1,n2,n3,n4,n5,n6,n7⟩,-⟩:=zag HX3.out.no
  go_wp2
  refine yi (zaa rfl _ _ r 111 _ (0,0) _ rfl (set8 HX3.out.blk _ _ _ _ _ _ _ _) Tryz.underlying111 rfl zaq _ rfl) rfl ?_
  exact zat (x:={ kind:=1,vk:=P.1,vn:=P.2.1 }) HX3.out.bel HX3.out.wr HV.out _ _ _ _ _ _ _ _
 ·have HV:=yb (HVV.out.trans (zaZ (e:=P.2.2) HFL.out rfl (by rw [HT.out]) her))
  have er1:(P.2.2==0)=false:=by rw [yf];exact her
  have er2:(P.2.2 != 0)=true:=by simp only [bne,er1,yj]
  clear her
  obtain ⟨⟨k0,k1,k2,k3,k4,k5,k6,k7⟩,m0,m1,m2,m3,m4,m5,m6,m7⟩:=zag HX3.out.blk
  obtain ⟨⟨n0,n1,n2,n3,n4,n5,n6,n7⟩,-⟩:=zag HX3.out.no
  go_wp2
  refine yi (zaa rfl _ _ r 111 _ (0,0) _ rfl (set8 HX3.out.blk _ _ _ _ _ _ _ _) Tryz.underlying111 rfl zaq _ rfl) rfl ?_
  exact zat (x:={ kind:=0 }) HX3.out.bel HX3.out.wr HV.out _ _ _ _ _ _ _ _
theorem rnext_45_end {w:World} {a:Option Addr} {cap:Nat} {bs:List UInt8} (hr:Row w 1 a bs.length cap (bs.map u8C)) (hn:bs.length<=400000) {k:Int} (yq:Bool) (hk0:0<=k) (hk1:k<=bs.length) {f:Nat} (hf:zaM bs k=f) (hfl:f<bs.length) {V:Tk×Int×Int×Int} (hV:V=zbm bs f yq) (hreg:isRg (bs.getD f 0)=true) (h1:f+runN (bs.drop f)=bs.length) (hla:yq=true) (hc0:bs.getD f 0=45) :
  Calls Tryz.prog 84 #[.slice a bs.length cap,.int .i64 k,.bool yq] w (zaB w V):=by
 have HT:=yb (show tokV yq (bs.getD f 0) (bs.drop (f+1))=_ from zbt (X:=⟨none,0,bs,yq⟩) (k:=f) hfl hreg)
 have hnl:¬(runN ((⟨none,0,bs,yq⟩:Src).bs.drop f)=((⟨none,0,bs,yq⟩:Src).bs.drop f).length/\(⟨none,0,bs,yq⟩:Src).yq=false):=by
  show ¬(runN (bs.drop f)=(bs.drop f).length/\yq=false)
  rw [ym]
  rw [hla];simp
 have hnum:(isDg (bs.getD f 0)=true\/bs.getD f 0=43\/bs.getD f 0=45\/bs.getD f 0=46):=by
  exact .inr (.inr (.inl hc0))
 have ht:=HT.out
 unfold rgV at ht
 rw [yh hnl,yg hnum] at ht
 rw [List.drop_drop] at ht
 clear HT hnl hnum
 obtain ⟨P,hP⟩:∃P,zaP (regs (bs.drop f))=P:=⟨_,rfl⟩
 have ht2:tokV yq (bs.getD f 0) (bs.drop (f+1))=(P.2.2,{ kind:=1,vk:=P.1,vn:=P.2.1 },bs.drop (f+runN (bs.drop f))):=by rw [<-hP];exact ht
 have HP:=yb hP
 have HT:=yb ht2
 clear ht ht2 hP
 have HVV:=yb hV
 have HFL:=yb hfl
 subst hla
 have hdl:isDl (bs.getD f 0)=false:=by
  have h:=hreg
  unfold isRg at h
  cases hh:isDl (bs.getD f 0) with
  | false=>rfl
  | true=>rw [hh] at h;simp at h
 have n91:bs.getD f 0≠91:=fun e=>by rw [e] at hreg;exact absurd hreg (by decide)
 have n93:bs.getD f 0≠93:=fun e=>by rw [e] at hreg;exact absurd hreg (by decide)
 have n60:bs.getD f 0≠60:=fun e=>by rw [e] at hreg;exact absurd hreg (by decide)
 have n62:bs.getD f 0≠62:=fun e=>by rw [e] at hreg;exact absurd hreg (by decide)
 have n40:bs.getD f 0≠40:=fun e=>by rw [e] at hreg;exact absurd hreg (by decide)
 have n47:bs.getD f 0≠47:=fun e=>by rw [e] at hreg;exact absurd hreg (by decide)
 have e91:=zau n91 91 rfl
 have e93:=zau n93 93 rfl
 have e60:=zau n60 60 rfl
 have e62:=zau n62 62 rfl
 have e40:=zau n40 40 rfl
 have e47:=zau n47 47 rfl
 obtain ⟨b,off,R,r,x,rfl,hbW,hx,hR,hRL,hrr,hcap,hcm,hkd,hkd2,hff,hffn,hfi,hf9,hrl,hS,hRN,hc,hcf,hZ,hB0⟩:=zaC hr hn hk0 hk1 hf hfl
 have HRW:=yb hr
 have HC:=yb hc
 have HS:=yb hS
 have HRN:=yb hRN
 have HRR:=yb hR
 have HRL:=yb hRL
 have HRE:=yb hrr
 have HZ:=yb hZ
 have HB0:=yb hB0
 clear hS hRN hRL hZ hB0
 have HDL:=yb (fun W=>zaS (bs.getD f 0).toNat W)
 rw [<-zbV,hdl] at HDL
 rw [hx] at HDL e91 e93 e60 e62 e40 e47
 clear n91 n93 n60 n62 n40 n47 hdl hreg
 rw [<-hR] at HT
 have hRt:(bs.drop f).take (R-f)=regs (bs.drop f):=by rw [zbc,hR,Nat.add_sub_cancel_left]
 have HRT:=yb hRt
 have hrt:=zbn (bs.drop f)
 have hRf:f<=R:=by omega
 have hRl2:R<=bs.length:=HRL.out
 have hcf1:¬cap=f:=by omega
 have HRlen:=yb (show (regs (bs.drop f)).length<=400000 by show runN _<=_;omega)
 clear hRt hrt
 obtain rfl:x=45:=by rw [<-hx,hc0];rfl
 clear hc0
 obtain rfl:R=bs.length:=hR.trans h1
 clear h1
 clear hr hf hR hrr hrl hk0 hk1 hc hV hx
 go_enter Tryz.func84,Tryz.ntmps84
 go_wp2_with fail
 refine (HS.out _ HB0.out).mono ?_
 rintro e w' ⟨rfl,rfl⟩
 rw [<-HRE.out]
 generalize w.alloc _=W1 at *
 obtain ⟨hcj1,hcj,hbn,hbl,hX⟩:=zaw hbW HRE.out HB0.out hcf HZ.out
 have HX:=yb hX
 clear hcf hX
 go_wp2_with fail
 refine (HRN.out _ HX.out.bel).mono ?_
 rintro e w' ⟨rfl,rfl⟩
 clear hcj1 hcj hbn hbl
 generalize W1.alloc _=W2 at *
 generalize W1.heap.size=p at *
 clear HZ HB0
 have hcv:(convert 22 9 (.slice (some ⟨b,off+f,none⟩) (bs.length-f) (cap-f))).run Tryz.prog W2=.ok (.string (mkB ((bs.drop f).take (bs.length-f)))) W2:=zaW (X:=⟨none,0,bs,true⟩) HC.out f (bs.length-f) (by have:=HRL.out;show f+_<=bs.length;omega) W2 HX.out.bel
 rw [HRT.out] at hcv
 obtain ⟨s,hs⟩:∃s,mkB (regs (bs.drop f))=s:=⟨_,rfl⟩
 have hsb:bl s=regs (bs.drop f):=by rw [<-hs];rfl
 have HPA:=yb (zbC s W2 (by rw [<-zaG,hsb];exact HRlen.out))
 rw [hsb,HP.out] at HPA
 rw [hs] at hcv
 unfold zbr valC zbe at HPA
 clear hs hsb
 go_wp2_with (go_at_call 126;refine (HDL.out _).mono ?_;rintro e w' ⟨rfl,rfl⟩)
 refine HPA.out.mono ?_
 rintro e w3 ⟨rfl,hb3⟩
 have HX3:=yb ((HX.out.on hb3).alloc (.cells #[.int .i64 P.1,.int .i64 P.2.1,.string ⟨#[]⟩,.slice none 0 0] 27))
 clear hb3 hcv HPA
 by_cases her:P.2.2=0
 ·have HV:=yb (HVV.out.trans (za8 HFL.out rfl (x:={ kind:=1,vk:=P.1,vn:=P.2.1 }) (j:=bs.length) (by rw [HT.out,her]) HRL.out))
  rw [her]
  clear her
  obtain ⟨⟨k0,k1,k2,k3,k4,k5,k6,k7⟩,m0,m1,m2,m3,m4,m5,m6,m7⟩:=zag HX3.out.blk
  obtain ⟨⟨n0,n1,n2,n3,n4,n5,n6,n7⟩,-⟩:=zag HX3.out.no
  go_wp2
  refine yi (zaa rfl _ _ r 111 _ (0,0) _ rfl (set8 HX3.out.blk _ _ _ _ _ _ _ _) Tryz.underlying111 rfl zaq _ rfl) rfl ?_
  exact zat (x:={ kind:=1,vk:=P.1,vn:=P.2.1 }) HX3.out.bel HX3.out.wr HV.out _ _ _ _ _ _ _ _
 ·have HV:=yb (HVV.out.trans (zaZ (e:=P.2.2) HFL.out rfl (by rw [HT.out]) her))
  have er1:(P.2.2==0)=false:=by rw [yf];exact her
  have er2:(P.2.2 != 0)=true:=by simp only [bne,er1,yj]
  clear her
  obtain ⟨⟨k0,k1,k2,k3,k4,k5,k6,k7⟩,m0,m1,m2,m3,m4,m5,m6,m7⟩:=zag HX3.out.blk
  obtain ⟨⟨n0,n1,n2,n3,n4,n5,n6,n7⟩,-⟩:=zag HX3.out.no
  go_wp2
  refine yi (zaa rfl _ _ r 111 _ (0,0) _ rfl (set8 HX3.out.blk _ _ _ _ _ _ _ _) Tryz.underlying111 rfl zaq _ rfl) rfl ?_
  exact zat (x:={ kind:=0 }) HX3.out.bel HX3.out.wr HV.out _ _ _ _ _ _ _ _
theorem rnext_46_end {w:World} {a:Option Addr} {cap:Nat} {bs:List UInt8} (hr:Row w 1 a bs.length cap (bs.map u8C)) (hn:bs.length<=400000) {k:Int} (yq:Bool) (hk0:0<=k) (hk1:k<=bs.length) {f:Nat} (hf:zaM bs k=f) (hfl:f<bs.length) {V:Tk×Int×Int×Int} (hV:V=zbm bs f yq) (hreg:isRg (bs.getD f 0)=true) (h1:f+runN (bs.drop f)=bs.length) (hla:yq=true) (hc0:bs.getD f 0=46) :
  Calls Tryz.prog 84 #[.slice a bs.length cap,.int .i64 k,.bool yq] w (zaB w V):=by
 have HT:=yb (show tokV yq (bs.getD f 0) (bs.drop (f+1))=_ from zbt (X:=⟨none,0,bs,yq⟩) (k:=f) hfl hreg)
 have hnl:¬(runN ((⟨none,0,bs,yq⟩:Src).bs.drop f)=((⟨none,0,bs,yq⟩:Src).bs.drop f).length/\(⟨none,0,bs,yq⟩:Src).yq=false):=by
  show ¬(runN (bs.drop f)=(bs.drop f).length/\yq=false)
  rw [ym]
  rw [hla];simp
 have hnum:(isDg (bs.getD f 0)=true\/bs.getD f 0=43\/bs.getD f 0=45\/bs.getD f 0=46):=by
  exact .inr (.inr (.inr hc0))
 have ht:=HT.out
 unfold rgV at ht
 rw [yh hnl,yg hnum] at ht
 rw [List.drop_drop] at ht
 clear HT hnl hnum
 obtain ⟨P,hP⟩:∃P,zaP (regs (bs.drop f))=P:=⟨_,rfl⟩
 have ht2:tokV yq (bs.getD f 0) (bs.drop (f+1))=(P.2.2,{ kind:=1,vk:=P.1,vn:=P.2.1 },bs.drop (f+runN (bs.drop f))):=by rw [<-hP];exact ht
 have HP:=yb hP
 have HT:=yb ht2
 clear ht ht2 hP
 have HVV:=yb hV
 have HFL:=yb hfl
 subst hla
 have hdl:isDl (bs.getD f 0)=false:=by
  have h:=hreg
  unfold isRg at h
  cases hh:isDl (bs.getD f 0) with
  | false=>rfl
  | true=>rw [hh] at h;simp at h
 have n91:bs.getD f 0≠91:=fun e=>by rw [e] at hreg;exact absurd hreg (by decide)
 have n93:bs.getD f 0≠93:=fun e=>by rw [e] at hreg;exact absurd hreg (by decide)
 have n60:bs.getD f 0≠60:=fun e=>by rw [e] at hreg;exact absurd hreg (by decide)
 have n62:bs.getD f 0≠62:=fun e=>by rw [e] at hreg;exact absurd hreg (by decide)
 have n40:bs.getD f 0≠40:=fun e=>by rw [e] at hreg;exact absurd hreg (by decide)
 have n47:bs.getD f 0≠47:=fun e=>by rw [e] at hreg;exact absurd hreg (by decide)
 have e91:=zau n91 91 rfl
 have e93:=zau n93 93 rfl
 have e60:=zau n60 60 rfl
 have e62:=zau n62 62 rfl
 have e40:=zau n40 40 rfl
 have e47:=zau n47 47 rfl
 obtain ⟨b,off,R,r,x,rfl,hbW,hx,hR,hRL,hrr,hcap,hcm,hkd,hkd2,hff,hffn,hfi,hf9,hrl,hS,hRN,hc,hcf,hZ,hB0⟩:=zaC hr hn hk0 hk1 hf hfl
 have HRW:=yb hr
 have HC:=yb hc
 have HS:=yb hS
 have HRN:=yb hRN
 have HRR:=yb hR
 have HRL:=yb hRL
 have HRE:=yb hrr
 have HZ:=yb hZ
 have HB0:=yb hB0
 clear hS hRN hRL hZ hB0
 have HDL:=yb (fun W=>zaS (bs.getD f 0).toNat W)
 rw [<-zbV,hdl] at HDL
 rw [hx] at HDL e91 e93 e60 e62 e40 e47
 clear n91 n93 n60 n62 n40 n47 hdl hreg
 rw [<-hR] at HT
 have hRt:(bs.drop f).take (R-f)=regs (bs.drop f):=by rw [zbc,hR,Nat.add_sub_cancel_left]
 have HRT:=yb hRt
 have hrt:=zbn (bs.drop f)
 have hRf:f<=R:=by omega
 have hRl2:R<=bs.length:=HRL.out
 have hcf1:¬cap=f:=by omega
 have HRlen:=yb (show (regs (bs.drop f)).length<=400000 by show runN _<=_;omega)
 clear hRt hrt
 obtain rfl:x=46:=by rw [<-hx,hc0];rfl
 clear hc0
 obtain rfl:R=bs.length:=hR.trans h1
 clear h1
 clear hr hf hR hrr hrl hk0 hk1 hc hV hx
 go_enter Tryz.func84,Tryz.ntmps84
 go_wp2_with fail
 refine (HS.out _ HB0.out).mono ?_
 rintro e w' ⟨rfl,rfl⟩
 rw [<-HRE.out]
 generalize w.alloc _=W1 at *
 obtain ⟨hcj1,hcj,hbn,hbl,hX⟩:=zaw hbW HRE.out HB0.out hcf HZ.out
 have HX:=yb hX
 clear hcf hX
 go_wp2_with fail
 refine (HRN.out _ HX.out.bel).mono ?_
 rintro e w' ⟨rfl,rfl⟩
 clear hcj1 hcj hbn hbl
 generalize W1.alloc _=W2 at *
 generalize W1.heap.size=p at *
 clear HZ HB0
 have hcv:(convert 22 9 (.slice (some ⟨b,off+f,none⟩) (bs.length-f) (cap-f))).run Tryz.prog W2=.ok (.string (mkB ((bs.drop f).take (bs.length-f)))) W2:=zaW (X:=⟨none,0,bs,true⟩) HC.out f (bs.length-f) (by have:=HRL.out;show f+_<=bs.length;omega) W2 HX.out.bel
 rw [HRT.out] at hcv
 obtain ⟨s,hs⟩:∃s,mkB (regs (bs.drop f))=s:=⟨_,rfl⟩
 have hsb:bl s=regs (bs.drop f):=by rw [<-hs];rfl
 have HPA:=yb (zbC s W2 (by rw [<-zaG,hsb];exact HRlen.out))
 rw [hsb,HP.out] at HPA
 rw [hs] at hcv
 unfold zbr valC zbe at HPA
 clear hs hsb
 go_wp2_with (go_at_call 126;refine (HDL.out _).mono ?_;rintro e w' ⟨rfl,rfl⟩)
 refine HPA.out.mono ?_
 rintro e w3 ⟨rfl,hb3⟩
 have HX3:=yb ((HX.out.on hb3).alloc (.cells #[.int .i64 P.1,.int .i64 P.2.1,.string ⟨#[]⟩,.slice none 0 0] 27))
 clear hb3 hcv HPA
 by_cases her:P.2.2=0
 ·have HV:=yb (HVV.out.trans (za8 HFL.out rfl (x:={ kind:=1,vk:=P.1,vn:=P.2.1 }) (j:=bs.length) (by rw [HT.out,her]) HRL.out))
  rw [her]
  clear her
  obtain ⟨⟨k0,k1,k2,k3,k4,k5,k6,k7⟩,m0,m1,m2,m3,m4,m5,m6,m7⟩:=zag HX3.out.blk
  obtain ⟨⟨n0,n1,n2,n3,n4,n5,n6,n7⟩,-⟩:=zag HX3.out.no
  go_wp2
  refine yi (zaa rfl _ _ r 111 _ (0,0) _ rfl (set8 HX3.out.blk _ _ _ _ _ _ _ _) Tryz.underlying111 rfl zaq _ rfl) rfl ?_
  exact zat (x:={ kind:=1,vk:=P.1,vn:=P.2.1 }) HX3.out.bel HX3.out.wr HV.out _ _ _ _ _ _ _ _
 ·have HV:=yb (HVV.out.trans (zaZ (e:=P.2.2) HFL.out rfl (by rw [HT.out]) her))
  have er1:(P.2.2==0)=false:=by rw [yf];exact her
  have er2:(P.2.2 != 0)=true:=by simp only [bne,er1,yj]
  clear her
  obtain ⟨⟨k0,k1,k2,k3,k4,k5,k6,k7⟩,m0,m1,m2,m3,m4,m5,m6,m7⟩:=zag HX3.out.blk
  obtain ⟨⟨n0,n1,n2,n3,n4,n5,n6,n7⟩,-⟩:=zag HX3.out.no
  go_wp2
  refine yi (zaa rfl _ _ r 111 _ (0,0) _ rfl (set8 HX3.out.blk _ _ _ _ _ _ _ _) Tryz.underlying111 rfl zaq _ rfl) rfl ?_
  exact zat (x:={ kind:=0 }) HX3.out.bel HX3.out.wr HV.out _ _ _ _ _ _ _ _
theorem zhe {w:World} {a:Option Addr} {cap:Nat} {bs:List UInt8} (hr:Row w 1 a bs.length cap (bs.map u8C)) (hn:bs.length<=400000) {k:Int} (yq:Bool) (hk0:0<=k) (hk1:k<=bs.length) {f:Nat} (hf:zaM bs k=f) (hfl:f<bs.length) {V:Tk×Int×Int×Int} (hV:V=zbm bs f yq) (hreg:isRg (bs.getD f 0)=true) (h1:f+runN (bs.drop f)=bs.length) (hla:yq=true) (hd:(bs.getD f 0).toNat<48/\bs.getD f 0≠43/\bs.getD f 0≠45/\bs.getD f 0≠46) :
  Calls Tryz.prog 84 #[.slice a bs.length cap,.int .i64 k,.bool yq] w (zaB w V):=by
 have HT:=yb (show tokV yq (bs.getD f 0) (bs.drop (f+1))=_ from zbt (X:=⟨none,0,bs,yq⟩) (k:=f) hfl hreg)
 have hnl:¬(runN ((⟨none,0,bs,yq⟩:Src).bs.drop f)=((⟨none,0,bs,yq⟩:Src).bs.drop f).length/\(⟨none,0,bs,yq⟩:Src).yq=false):=by
  show ¬(runN (bs.drop f)=(bs.drop f).length/\yq=false)
  rw [ym]
  rw [hla];simp
 have hnum:¬(isDg (bs.getD f 0)=true\/bs.getD f 0=43\/bs.getD f 0=45\/bs.getD f 0=46):=by
  rintro (h|h|h|h)
  ·have h2:=za9.1 h;have:=hd.1;omega
  ·exact hd.2.1 h
  ·exact hd.2.2.1 h
  ·exact hd.2.2.2 h
 have ht:=HT.out
 unfold rgV at ht
 rw [yh hnl,yh hnum] at ht
 rw [List.drop_drop] at ht
 clear HT hnl hnum
 have HT:=yb (show tokV yq (bs.getD f 0) (bs.drop (f+1))=(0,{ kind:=6,s:=regs (bs.drop f) },bs.drop (f+runN (bs.drop f))) from ht)
 clear ht
 have HVV:=yb hV
 have HFL:=yb hfl
 subst hla
 have hdl:isDl (bs.getD f 0)=false:=by
  have h:=hreg
  unfold isRg at h
  cases hh:isDl (bs.getD f 0) with
  | false=>rfl
  | true=>rw [hh] at h;simp at h
 have n91:bs.getD f 0≠91:=fun e=>by rw [e] at hreg;exact absurd hreg (by decide)
 have n93:bs.getD f 0≠93:=fun e=>by rw [e] at hreg;exact absurd hreg (by decide)
 have n60:bs.getD f 0≠60:=fun e=>by rw [e] at hreg;exact absurd hreg (by decide)
 have n62:bs.getD f 0≠62:=fun e=>by rw [e] at hreg;exact absurd hreg (by decide)
 have n40:bs.getD f 0≠40:=fun e=>by rw [e] at hreg;exact absurd hreg (by decide)
 have n47:bs.getD f 0≠47:=fun e=>by rw [e] at hreg;exact absurd hreg (by decide)
 have e91:=zau n91 91 rfl
 have e93:=zau n93 93 rfl
 have e60:=zau n60 60 rfl
 have e62:=zau n62 62 rfl
 have e40:=zau n40 40 rfl
 have e47:=zau n47 47 rfl
 have e43:=zau hd.2.1 43 rfl
 have e45:=zau hd.2.2.1 45 rfl
 have e46:=zau hd.2.2.2 46 rfl
 have hd0:=hd.1
 clear hd
 obtain ⟨b,off,R,r,x,rfl,hbW,hx,hR,hRL,hrr,hcap,hcm,hkd,hkd2,hff,hffn,hfi,hf9,hrl,hS,hRN,hc,hcf,hZ,hB0⟩:=zaC hr hn hk0 hk1 hf hfl
 have HRW:=yb hr
 have HC:=yb hc
 have HS:=yb hS
 have HRN:=yb hRN
 have HRR:=yb hR
 have HRL:=yb hRL
 have HRE:=yb hrr
 have HZ:=yb hZ
 have HB0:=yb hB0
 clear hS hRN hRL hZ hB0
 have HDL:=yb (fun W=>zaS (bs.getD f 0).toNat W)
 rw [<-zbV,hdl] at HDL
 rw [hx] at HDL e91 e93 e60 e62 e40 e47
 clear n91 n93 n60 n62 n40 n47 hdl hreg
 rw [<-hR] at HT
 have hRt:(bs.drop f).take (R-f)=regs (bs.drop f):=by rw [zbc,hR,Nat.add_sub_cancel_left]
 have HRT:=yb hRt
 have hrt:=zbn (bs.drop f)
 have hRf:f<=R:=by omega
 have hRl2:R<=bs.length:=HRL.out
 have hcf1:¬cap=f:=by omega
 have HRlen:=yb (show (regs (bs.drop f)).length<=400000 by show runN _<=_;omega)
 clear hRt hrt
 rw [hx] at hd0 e43 e45 e46
 have d1:decide ((48:Int)<=x)=false:=ye (by omega)
 clear hd0
 obtain rfl:R=bs.length:=hR.trans h1
 clear h1
 clear hr hf hR hrr hrl hk0 hk1 hc hV hx
 go_enter Tryz.func84,Tryz.ntmps84
 go_wp2_with fail
 refine (HS.out _ HB0.out).mono ?_
 rintro e w' ⟨rfl,rfl⟩
 rw [<-HRE.out]
 generalize w.alloc _=W1 at *
 obtain ⟨hcj1,hcj,hbn,hbl,hX⟩:=zaw hbW HRE.out HB0.out hcf HZ.out
 have HX:=yb hX
 clear hcf hX
 go_wp2_with fail
 refine (HRN.out _ HX.out.bel).mono ?_
 rintro e w' ⟨rfl,rfl⟩
 clear hcj1 hcj hbn hbl
 generalize W1.alloc _=W2 at *
 generalize W1.heap.size=p at *
 clear HZ HB0
 have hcv:(convert 22 9 (.slice (some ⟨b,off+f,none⟩) (bs.length-f) (cap-f))).run Tryz.prog W2=.ok (.string (mkB ((bs.drop f).take (bs.length-f)))) W2:=zaW (X:=⟨none,0,bs,true⟩) HC.out f (bs.length-f) (by have:=HRL.out;show f+_<=bs.length;omega) W2 HX.out.bel
 rw [HRT.out] at hcv
 have HV:=yb (HVV.out.trans (za8 HFL.out rfl (x:={ kind:=6,s:=regs (bs.drop f) }) (j:=bs.length) HT.out HRL.out))
 obtain ⟨⟨k0,k1,k2,k3,k4,k5,k6,k7⟩,m0,m1,m2,m3,m4,m5,m6,m7⟩:=zag HX.out.blk
 obtain ⟨⟨n0,n1,n2,n3,n4,n5,n6,n7⟩,-⟩:=zag HX.out.no
 go_wp2_with (go_at_call 126;refine (HDL.out _).mono ?_;rintro e w' ⟨rfl,rfl⟩)
 refine yi (zaa rfl _ _ r 111 _ (0,0) _ rfl (set8 HX.out.blk _ _ _ _ _ _ _ _) Tryz.underlying111 rfl zaq _ rfl) rfl ?_
 exact zat (x:={ kind:=6,s:=regs (bs.drop f) }) HX.out.bel HX.out.wr HV.out _ _ _ _ _ _ _ _
theorem zfW {w:World} {a:Option Addr} {cap:Nat} {bs:List UInt8} (hr:Row w 1 a bs.length cap (bs.map u8C)) (hn:bs.length<=400000) {k:Int} (yq:Bool) (hk0:0<=k) (hk1:k<=bs.length) {f:Nat} (hf:zaM bs k=f) (hfl:f<bs.length) {V:Tk×Int×Int×Int} (hV:V=zbm bs f yq) (hreg:isRg (bs.getD f 0)=true) (h1:f+runN (bs.drop f)=bs.length) (hla:yq=true) (hd:57<(bs.getD f 0).toNat) :
  Calls Tryz.prog 84 #[.slice a bs.length cap,.int .i64 k,.bool yq] w (zaB w V):=by
 have HT:=yb (show tokV yq (bs.getD f 0) (bs.drop (f+1))=_ from zbt (X:=⟨none,0,bs,yq⟩) (k:=f) hfl hreg)
 have hnl:¬(runN ((⟨none,0,bs,yq⟩:Src).bs.drop f)=((⟨none,0,bs,yq⟩:Src).bs.drop f).length/\(⟨none,0,bs,yq⟩:Src).yq=false):=by
  show ¬(runN (bs.drop f)=(bs.drop f).length/\yq=false)
  rw [ym]
  rw [hla];simp
 have hnum:¬(isDg (bs.getD f 0)=true\/bs.getD f 0=43\/bs.getD f 0=45\/bs.getD f 0=46):=by
  rintro (h|h|h|h)
  ·have h2:=za9.1 h;omega
  ·rw [h] at hd;exact absurd hd (by decide)
  ·rw [h] at hd;exact absurd hd (by decide)
  ·rw [h] at hd;exact absurd hd (by decide)
 have ht:=HT.out
 unfold rgV at ht
 rw [yh hnl,yh hnum] at ht
 rw [List.drop_drop] at ht
 clear HT hnl hnum
 have HT:=yb (show tokV yq (bs.getD f 0) (bs.drop (f+1))=(0,{ kind:=6,s:=regs (bs.drop f) },bs.drop (f+runN (bs.drop f))) from ht)
 clear ht
 have HVV:=yb hV
 have HFL:=yb hfl
 subst hla
 have hdl:isDl (bs.getD f 0)=false:=by
  have h:=hreg
  unfold isRg at h
  cases hh:isDl (bs.getD f 0) with
  | false=>rfl
  | true=>rw [hh] at h;simp at h
 have n91:bs.getD f 0≠91:=fun e=>by rw [e] at hreg;exact absurd hreg (by decide)
 have n93:bs.getD f 0≠93:=fun e=>by rw [e] at hreg;exact absurd hreg (by decide)
 have n60:bs.getD f 0≠60:=fun e=>by rw [e] at hreg;exact absurd hreg (by decide)
 have n62:bs.getD f 0≠62:=fun e=>by rw [e] at hreg;exact absurd hreg (by decide)
 have n40:bs.getD f 0≠40:=fun e=>by rw [e] at hreg;exact absurd hreg (by decide)
 have n47:bs.getD f 0≠47:=fun e=>by rw [e] at hreg;exact absurd hreg (by decide)
 have e91:=zau n91 91 rfl
 have e93:=zau n93 93 rfl
 have e60:=zau n60 60 rfl
 have e62:=zau n62 62 rfl
 have e40:=zau n40 40 rfl
 have e47:=zau n47 47 rfl
 obtain ⟨b,off,R,r,x,rfl,hbW,hx,hR,hRL,hrr,hcap,hcm,hkd,hkd2,hff,hffn,hfi,hf9,hrl,hS,hRN,hc,hcf,hZ,hB0⟩:=zaC hr hn hk0 hk1 hf hfl
 have HRW:=yb hr
 have HC:=yb hc
 have HS:=yb hS
 have HRN:=yb hRN
 have HRR:=yb hR
 have HRL:=yb hRL
 have HRE:=yb hrr
 have HZ:=yb hZ
 have HB0:=yb hB0
 clear hS hRN hRL hZ hB0
 have HDL:=yb (fun W=>zaS (bs.getD f 0).toNat W)
 rw [<-zbV,hdl] at HDL
 rw [hx] at HDL e91 e93 e60 e62 e40 e47
 clear n91 n93 n60 n62 n40 n47 hdl hreg
 rw [<-hR] at HT
 have hRt:(bs.drop f).take (R-f)=regs (bs.drop f):=by rw [zbc,hR,Nat.add_sub_cancel_left]
 have HRT:=yb hRt
 have hrt:=zbn (bs.drop f)
 have hRf:f<=R:=by omega
 have hRl2:R<=bs.length:=HRL.out
 have hcf1:¬cap=f:=by omega
 have HRlen:=yb (show (regs (bs.drop f)).length<=400000 by show runN _<=_;omega)
 clear hRt hrt
 rw [hx] at hd
 have d1:decide ((48:Int)<=x)=true:=yd (by omega)
 have d2:decide ((x:Int)<=57)=false:=ye (by omega)
 have e43:((x:Int)==43)=false:=by rw [yf];omega
 have e45:((x:Int)==45)=false:=by rw [yf];omega
 have e46:((x:Int)==46)=false:=by rw [yf];omega
 clear hd
 obtain rfl:R=bs.length:=hR.trans h1
 clear h1
 clear hr hf hR hrr hrl hk0 hk1 hc hV hx
 go_enter Tryz.func84,Tryz.ntmps84
 go_wp2_with fail
 refine (HS.out _ HB0.out).mono ?_
 rintro e w' ⟨rfl,rfl⟩
 rw [<-HRE.out]
 generalize w.alloc _=W1 at *
 obtain ⟨hcj1,hcj,hbn,hbl,hX⟩:=zaw hbW HRE.out HB0.out hcf HZ.out
 have HX:=yb hX
 clear hcf hX
 go_wp2_with fail
 refine (HRN.out _ HX.out.bel).mono ?_
 rintro e w' ⟨rfl,rfl⟩
 clear hcj1 hcj hbn hbl
 generalize W1.alloc _=W2 at *
 generalize W1.heap.size=p at *
 clear HZ HB0
 have hcv:(convert 22 9 (.slice (some ⟨b,off+f,none⟩) (bs.length-f) (cap-f))).run Tryz.prog W2=.ok (.string (mkB ((bs.drop f).take (bs.length-f)))) W2:=zaW (X:=⟨none,0,bs,true⟩) HC.out f (bs.length-f) (by have:=HRL.out;show f+_<=bs.length;omega) W2 HX.out.bel
 rw [HRT.out] at hcv
 have HV:=yb (HVV.out.trans (za8 HFL.out rfl (x:={ kind:=6,s:=regs (bs.drop f) }) (j:=bs.length) HT.out HRL.out))
 obtain ⟨⟨k0,k1,k2,k3,k4,k5,k6,k7⟩,m0,m1,m2,m3,m4,m5,m6,m7⟩:=zag HX.out.blk
 obtain ⟨⟨n0,n1,n2,n3,n4,n5,n6,n7⟩,-⟩:=zag HX.out.no
 go_wp2_with (go_at_call 126;refine (HDL.out _).mono ?_;rintro e w' ⟨rfl,rfl⟩)
 refine yi (zaa rfl _ _ r 111 _ (0,0) _ rfl (set8 HX.out.blk _ _ _ _ _ _ _ _) Tryz.underlying111 rfl zaq _ rfl) rfl ?_
 exact zat (x:={ kind:=6,s:=regs (bs.drop f) }) HX.out.bel HX.out.wr HV.out _ _ _ _ _ _ _ _
theorem rnext_out {w:World} {a:Option Addr} {cap n:Nat} {k:Int} (yq:Bool) (_:(n:Int)<=9223372036854775807) (h:k<0\/(n:Int)<k) {V:Tk×Int×Int×Int} (hV:V=({ kind:=0 },0,0,2)) :
  Calls Tryz.prog 84 #[.slice a n cap,.int .i64 k,.bool yq] w (zaB w V):=by
 have HV:=yb hV
 have HZ:=yb (show (w.alloc (.cells #[.int .i64 0,.int .i64 0,.int .i64 0,.int .i64 0,.int .i64 0,.string ⟨#[]⟩,.slice none 0 0,.string ⟨#[]⟩] 111)).heap[w.heap.size]?=some (.cells #[.int .i64 0,.int .i64 0,.int .i64 0,.int .i64 0,.int .i64 0,.string ⟨#[]⟩,.slice none 0 0,.string ⟨#[]⟩] 111 (0,0)) from zac _ rfl)
 have HB0:=yb (zam w (.cells #[.int .i64 0,.int .i64 0,.int .i64 0,.int .i64 0,.int .i64 0,.string ⟨#[]⟩,.slice none 0 0,.string ⟨#[]⟩] 111))
 clear hV
 by_cases hk0:k<0
 ·have hkd:decide (k<0)=true:=yd hk0
  clear h
  go_enter Tryz.func84,Tryz.ntmps84
  go_wp2
  refine yi (zaa rfl _ _ w.heap.size 111 _ (0,0) _ rfl (zac _ rfl) Tryz.underlying111 rfl (by exact zaq) _ rfl) rfl ?_
  rw [HV.out]
  exact ⟨rfl,zam _ _⟩
 ·have hk1:(n:Int)<k:=by omega
  have hkd:decide (k<0)=false:=ye hk0
  have hkd2:decide ((n:Int)<k)=true:=yd hk1
  clear h hk0 hk1
  go_enter Tryz.func84,Tryz.ntmps84
  go_wp2
  refine yi (zaa rfl _ _ w.heap.size 111 _ (0,0) _ rfl (zac _ rfl) Tryz.underlying111 rfl (by exact zaq) _ rfl) rfl ?_
  rw [HV.out]
  exact ⟨rfl,zam _ _⟩
theorem rnext_end {w:World} {a:Option Addr} {cap:Nat} {bs:List UInt8} (hr:Row w 1 a bs.length cap (bs.map u8C)) (hn:bs.length<=400000) {k:Int} (yq:Bool) (hk0:0<=k) (hk1:k<=bs.length) (hf:zaM bs k=bs.length) {V:Tk×Int×Int×Int} (hV:V=zbm bs bs.length yq) :
  Calls Tryz.prog 84 #[.slice a bs.length cap,.int .i64 k,.bool yq] w (zaB w V):=by
 rw [zdP yq (by simp)] at hV
 have HV:=yb hV
 have HRW:=yb hr
 have hcm:=hr.i64c
 have hkd:decide (k<0)=false:=ye (by omega)
 have hkd2:decide ((bs.length:Int)<k)=false:=ye (by omega)
 have HS:=yb (fun (W:World) (h:Below w.heap.size w W)=>rskip_any (HRW.out.mono h) hn k)
 rw [hf] at HS
 obtain ⟨r,hrr⟩:∃r,r=w.heap.size:=⟨_,rfl⟩
 have HRE:=yb hrr
 have HZ:=yb (show (w.alloc (.cells #[.int .i64 0,.int .i64 0,.int .i64 0,.int .i64 0,.int .i64 0,.string ⟨#[]⟩,.slice none 0 0,.string ⟨#[]⟩] 111)).heap[r]?=some (.cells #[.int .i64 0,.int .i64 0,.int .i64 0,.int .i64 0,.int .i64 0,.string ⟨#[]⟩,.slice none 0 0,.string ⟨#[]⟩] 111 (0,0)) from zac _ hrr)
 have HB0:=yb (zam w (.cells #[.int .i64 0,.int .i64 0,.int .i64 0,.int .i64 0,.int .i64 0,.string ⟨#[]⟩,.slice none 0 0,.string ⟨#[]⟩] 111))
 clear hr hf hrr hk0 hk1 hV
 generalize bs.length=f at *
 go_enter Tryz.func84,Tryz.ntmps84
 go_wp2_with fail
 refine (HS.out _ HB0.out).mono ?_
 rintro e w' ⟨rfl,rfl⟩
 rw [<-HRE.out]
 generalize w.alloc _=W1 at *
 have HX:=yb (show Rx w r W1.heap.size f (W1.alloc (.cells #[.int .i64 0,.int .i64 f,.int .i64 f,.int .i64 0,.int .i64 0,.string ⟨#[]⟩,.slice none 0 0,.string ⟨#[]⟩] 111)) from ⟨zak _ HZ.out,zac _ rfl,HB0.out.alloc HB0.out.size _,by rw [HRE.out];exact yp _⟩)
 obtain ⟨⟨k0,k1,k2,k3,k4,k5,k6,k7⟩,m0,m1,m2,m3,m4,m5,m6,m7⟩:=zag HX.out.blk
 obtain ⟨⟨n0,n1,n2,n3,n4,n5,n6,n7⟩,-⟩:=zag HX.out.no
 cases yq
 ·go_wp2
  refine yi (zaa rfl _ _ r 111 _ (0,0) _ rfl (set8 HX.out.blk _ _ _ _ _ _ _ _) Tryz.underlying111 rfl zaq _ rfl) rfl ?_
  exact zat (x:={ kind:=0 }) HX.out.bel HX.out.wr HV.out _ _ _ _ _ _ _ _
 ·go_wp2
  refine yi (zaa rfl _ _ r 111 _ (0,0) _ rfl (set8 HX.out.blk _ _ _ _ _ _ _ _) Tryz.underlying111 rfl zaq _ rfl) rfl ?_
  exact zat (x:={ kind:=0 }) HX.out.bel HX.out.wr HV.out _ _ _ _ _ _ _ _
theorem zcb {w:World} {a:Option Addr} {cap:Nat} {bs:List UInt8} (hr:Row w 1 a bs.length cap (bs.map u8C)) (hn:bs.length<=400000) (k:Int) (yq:Bool) :
  Calls Tryz.prog 84 #[.slice a bs.length cap,.int .i64 k,.bool yq] w (zaB w (zal bs k yq)):=by
 by_cases hk:k<0\/(bs.length:Int)<k
 ·exact rnext_out yq hr.i64 hk (by unfold zal;rw [yg hk])
 have hk0:0<=k:=by omega
 have hk1:k<=bs.length:=by omega
 have hV:=zd1 (bs:=bs) yq hk0 hk1
 have hfle:=(zeV hk0 hk1).2
 have hsh:=fun f hf hl=>skip_here (bs:=bs) (f:=f) hk0 hk1 hf hl
 rw [hV]
 obtain ⟨f,hf⟩:∃f,zaM bs k=f:=⟨_,rfl⟩
 by_cases hfe:f=bs.length
 ·subst hfe
  exact rnext_end hr hn yq hk0 hk1 hf (by rw [hf])
 have hfl:f<bs.length:=by omega
 obtain ⟨h37,hsp⟩:=hsh f hf hfl
 have hV2:zbm bs (zaM bs k) yq=zbm bs f yq:=by rw [hf]
 clear hV hsh
 by_cases hrg:isRg (bs.getD f 0)=true
 ·by_cases he:f+runN (bs.drop f)=bs.length
  ·cases yq with
   | false=>exact zg7 hr hn false hk0 hk1 hf hfl hV2 hrg he rfl
   | true =>
    by_cases h43:bs.getD f 0=43
    ·exact rnext_43_end hr hn true hk0 hk1 hf hfl hV2 hrg he rfl h43
    by_cases h45:bs.getD f 0=45
    ·exact rnext_45_end hr hn true hk0 hk1 hf hfl hV2 hrg he rfl h45
    by_cases h46:bs.getD f 0=46
    ·exact rnext_46_end hr hn true hk0 hk1 hf hfl hV2 hrg he rfl h46
    by_cases hlo:(bs.getD f 0).toNat<48
    ·exact zhe hr hn true hk0 hk1 hf hfl hV2 hrg he rfl ⟨hlo,h43,h45,h46⟩
    by_cases hhi:57<(bs.getD f 0).toNat
    ·exact zfW hr hn true hk0 hk1 hf hfl hV2 hrg he rfl hhi
    exact ze7 hr hn true hk0 hk1 hf hfl hV2 hrg he rfl ⟨by omega,by omega⟩
  ·by_cases h43:bs.getD f 0=43
   ·exact rnext_43_in hr hn yq hk0 hk1 hf hfl hV2 hrg he h43
   by_cases h45:bs.getD f 0=45
   ·exact rnext_45_in hr hn yq hk0 hk1 hf hfl hV2 hrg he h45
   by_cases h46:bs.getD f 0=46
   ·exact rnext_46_in hr hn yq hk0 hk1 hf hfl hV2 hrg he h46
   by_cases hlo:(bs.getD f 0).toNat<48
   ·exact rnext_low_in hr hn yq hk0 hk1 hf hfl hV2 hrg he ⟨hlo,h43,h45,h46⟩
   by_cases hhi:57<(bs.getD f 0).toNat
   ·exact zhc hr hn yq hk0 hk1 hf hfl hV2 hrg he hhi
   exact zfQ hr hn yq hk0 hk1 hf hfl hV2 hrg he ⟨by omega,by omega⟩
 have hdl:isDl (bs.getD f 0)=true:=by
  unfold isRg at hrg
  rw [hsp] at hrg
  simpa using hrg
 by_cases h91:bs.getD f 0=91
 ·exact rnext_91 hr hn yq hk0 hk1 hf hfl hV2 h91
 by_cases h93:bs.getD f 0=93
 ·exact rnext_93 hr hn yq hk0 hk1 hf hfl hV2 h93
 by_cases h60:bs.getD f 0=60
 ·by_cases h1:f+1<bs.length
  ·by_cases h2:bs.getD (f+1) 0=60
   ·exact rnext_6060 hr hn yq hk0 hk1 hf hfl hV2 h60 h1 h2
   ·exact rnext_hex hr hn yq hk0 hk1 hf hfl hV2 h60 h1 h2
  ·exact rnext_hexend hr hn yq hk0 hk1 hf hfl hV2 h60 h1
 by_cases h62:bs.getD f 0=62
 ·by_cases h1:f+1<bs.length
  ·by_cases h2:bs.getD (f+1) 0=62
   ·exact rnext_6262 hr hn yq hk0 hk1 hf hfl hV2 h62 h1 h2
   ·exact rnext_62form hr hn yq hk0 hk1 hf hfl hV2 h62 h1 h2
  ·cases yq with
   | false=>exact rnext_62more hr hn false hk0 hk1 hf hfl hV2 h62 (by omega) rfl
   | true=>exact rnext_62last hr hn true hk0 hk1 hf hfl hV2 h62 (by omega) rfl
 by_cases h40:bs.getD f 0=40
 ·exact rnext_text hr hn yq hk0 hk1 hf hfl hV2 h40
 by_cases h47:bs.getD f 0=47
 ·by_cases h1:f+1+runN (bs.drop (f+1))=bs.length
  ·cases yq with
   | false=>exact zfO hr hn false hk0 hk1 hf hfl hV2 h47 h1 rfl
   | true =>
    by_cases hcap:cap=f+1
    ·exact zgC hr hn true hk0 hk1 hf hfl hV2 h47 rfl hcap
    ·exact zfT hr hn true hk0 hk1 hf hfl hV2 h47 (fun _ h=>by cases h) h1 rfl hcap
  ·by_cases hcap:cap=f+1
   ·exfalso
    have h2:=hr.2.1
    apply h1
    rw [zbd (by omega)]
    show f+1+0=_
    omega
   ·exact rnext_name hr hn yq hk0 hk1 hf hfl hV2 h47 (fun h _=>h1 h) h1 hcap
 exact rnext_dl hr hn yq hk0 hk1 hf hfl hV2 hdl h91 h93 h60 h62 h40 h47
theorem rwhole_tk (x:Tk) (f t:Int) (w:World):Calls Tryz.prog 99 #[.agg (tokN x f t)] w fun e w'=>e=.returned (.bool (zaK x))/\Below w.heap.size w w':=by
 unfold tokN zaK
 generalize x.kind=a0 at *
 generalize x.vk=a1 at *
 generalize x.vn=a2 at *
 generalize mkB x.vs=s1 at *
 generalize mkB x.s=s2 at *
 cases h0:(a0==1)
 ·go_enter Tryz.func99,Tryz.ntmps99
  go_wp2
  go_ret
  exact ⟨rfl,zam w _⟩
 ·go_enter Tryz.func99,Tryz.ntmps99
  go_wp2
  go_ret
  exact ⟨rfl,zam w _⟩
theorem rref_any {w:World} {a:Option Addr} {cap:Nat} {bs:List UInt8} (hr:Row w 1 a bs.length cap (bs.map u8C)) (hn:bs.length<=400000) (k:Int) (yq:Bool) (n:Int) :
  Calls Tryz.prog 130 #[.slice a bs.length cap,.int .i64 k,.bool yq,.int .i64 n] w fun e w' =>
   e=.returned (.tuple #[.bool (refD bs yq k n).1,.int .i64 (refD bs yq k n).2.1,.int .i64 (refD bs yq k n).2.2])/\Below w.heap.size w w':=by
 have HN:=yb (zcb hr hn k yq)
 have HN2:=yb (fun (W:World) (h:Below w.heap.size w W)=>zcb (hr.mono h) hn (zal bs k yq).2.2.1 yq)
 have HWH:=yb (fun (W:World)=>rwhole_tk (zal bs k yq).1 (zal bs k yq).2.1 (zal bs k yq).2.2.1 W)
 obtain ⟨R,hR⟩:∃R,R=refD bs yq k n:=⟨_,rfl⟩
 rw [<-hR]
 unfold refD at hR
 simp only at hR
 clear hr hn
 generalize zal bs (zal bs k yq).2.2.1 yq=V2 at *
 generalize zal bs k yq=V at *
 obtain ⟨x,f,t,er⟩:=V
 obtain ⟨y,f2,t2,er2⟩:=V2
 simp only at hR HN2 HWH
 unfold zaB tokN at HN HN2
 unfold tokN at HWH
 simp only at HN HN2
 have HYS:=zbP y.s [82]
 have HR:=yb hR
 have HYQ:=yb HYS
 clear hR HYS
 generalize x.kind=a0 at *
 generalize x.vk=a1 at *
 generalize x.vn=a2 at *
 generalize mkB x.vs=s1 at *
 generalize mkB x.s=s2 at *
 generalize zaK x=wh at *
 generalize y.kind=b0 at *
 generalize y.vk=b1 at *
 generalize y.vn=b2 at *
 generalize mkB y.vs=u1 at *
 generalize mkB y.s=u2 at *
 generalize y.s=ys at *
 generalize bs.length=L at *
 go_enter Tryz.func130,Tryz.ntmps130
 go_wp2_with fail
 refine HN.out.mono ?_
 rintro e w1 ⟨rfl,hb1⟩
 have HB:=yb (hb1.alloc hb1.size (.cells #[.int .i64 a0,.int .i64 f,.int .i64 t,.int .i64 a1,.int .i64 a2,.string s1,.slice none 0 0,.string s2] 111))
 have HK:=yb (zac (w:=w1) (b:=w1.heap.size) (.cells #[.int .i64 a0,.int .i64 f,.int .i64 t,.int .i64 a1,.int .i64 a2,.string s1,.slice none 0 0,.string s2] 111) rfl)
 clear hb1 HN
 by_cases h6:er=6
 ·subst h6
  have hR:=HR.out
  rw [yg rfl] at hR
  subst hR
  clear HR HK HN2 HWH HYQ
  go_wp2
  go_ret3
  exact ⟨rfl,HB.out⟩
 have e6:(er==6)=false:=by rw [yf];exact h6
 by_cases h0:er=0
 case neg =>
  have e0:(er==0)=false:=by rw [yf];exact h0
  have e1:(er != 0)=true:=by simp only [bne,e0,yj]
  have hR:=HR.out
  rw [yh h6,yg (.inl h0)] at hR
  subst hR
  clear HR HK HN2 HWH HYQ h6 h0
  go_wp2
  go_ret3
  exact ⟨rfl,HB.out⟩
 subst h0
 obtain ⟨r1,hr1⟩:∃r1,r1=w1.heap.size:=⟨_,rfl⟩
 rw [<-hr1] at HK
 obtain ⟨W1,hW1⟩:∃W1,W1=w1.alloc (.cells #[.int .i64 a0,.int .i64 f,.int .i64 t,.int .i64 a1,.int .i64 a2,.string s1,.slice none 0 0,.string s2] 111):=⟨_,rfl⟩
 rw [<-hW1] at HK HB
 clear h6
 have HW1:=yb hW1
 have HR1:=yb hr1
 clear hW1 hr1
 cases wh with
 | false =>
  have hR:=HR.out
  rw [yh (by decide),yg (.inr rfl)] at hR
  subst hR
  clear HR HN2 HYQ
  go_upto_region 2 with fail
  rw [<-HW1.out,<-HR1.out]
  obtain ⟨⟨k0,k1,k2,k3,k4,k5,k6,k7⟩,-⟩:=zag HK.out
  go_wp2_with fail
  refine (HWH.out _).mono ?_
  rintro e w2 ⟨rfl,hb2⟩
  have HB2:=yo HB hb2
  clear hb2 k0 k1 k2 k3 k4 k5 k6 k7
  go_wp2
  go_ret3
  exact ⟨rfl,HB2.out⟩
 | true =>
  have hR:=HR.out
  rw [yh (by decide),yh (by simp)] at hR
  have HR:=yb hR
  clear hR
  go_upto_region 2 with fail
  rw [<-HW1.out,<-HR1.out]
  obtain ⟨⟨k0,k1,k2,k3,k4,k5,k6,k7⟩,-⟩:=zag HK.out
  go_wp2_with fail
  refine (HWH.out _).mono ?_
  rintro e w2 ⟨rfl,hb2⟩
  have HB2:=yo HB hb2
  have HK2:=yb (zab hb2 HK.out)
  clear hb2 k0 k1 k2 k3 k4 k5 k6 k7 HK HW1 HR1 HB HWH
  obtain ⟨⟨k0,k1,k2,k3,k4,k5,k6,k7⟩,-⟩:=zag HK2.out
  go_wp2_with fail
  refine (HN2.out _ HB2.out).mono ?_
  rintro e w3 ⟨rfl,hb3⟩
  have hb3a:=hb3.alloc hb3.size (.cells #[.int .i64 b0,.int .i64 f2,.int .i64 t2,.int .i64 b1,.int .i64 b2,.string u1,.slice none 0 0,.string u2] 111)
  have HB3:=yo HB2 hb3a
  have HK3:=yb (zab hb3a HK2.out)
  have HKN:=yb (zac (w:=w3) (b:=w3.heap.size) (.cells #[.int .i64 b0,.int .i64 f2,.int .i64 t2,.int .i64 b1,.int .i64 b2,.string u1,.slice none 0 0,.string u2] 111) rfl)
  clear hb3 hb3a k0 k1 k2 k3 k4 k5 k6 k7 HK2 HB2 HN2
  by_cases h6:er2=6
  ·subst h6
   have hR:=HR.out
   rw [yg rfl] at hR
   subst hR
   clear HR HK3 HKN HYQ
   go_wp2
   go_ret3
   exact ⟨rfl,HB3.out⟩
  have e6:(er2==6)=false:=by rw [yf];exact h6
  by_cases h0:er2=0
  case neg =>
   have e0:(er2==0)=false:=by rw [yf];exact h0
   have e1:(er2 != 0)=true:=by simp only [bne,e0,yj]
   have hR:=HR.out
   rw [yh h6,yg (.inl h0)] at hR
   subst hR
   clear HR HK3 HKN HYQ h6 h0
   go_wp2
   go_ret3
   exact ⟨rfl,HB3.out⟩
  subst h0
  obtain ⟨r3,hr3⟩:∃r3,r3=w3.heap.size:=⟨_,rfl⟩
  rw [<-hr3] at HKN
  obtain ⟨W3,hW3⟩:∃W3,W3=w3.alloc (.cells #[.int .i64 b0,.int .i64 f2,.int .i64 t2,.int .i64 b1,.int .i64 b2,.string u1,.slice none 0 0,.string u2] 111):=⟨_,rfl⟩
  rw [<-hW3] at HK3 HKN HB3
  have HW3:=yb hW3
  have HR3:=yb hr3
  clear h6 hW3 hr3
  by_cases hc:b0=6
  case neg =>
   have c1:(b0==6)=false:=by rw [yf];exact hc
   have c2:(b0 != 6)=true:=by simp only [bne,c1,yj]
   have hR:=HR.out
   rw [yh (by decide),yg (.inr (.inl hc))] at hR
   subst hR
   clear HR hc HYQ HK3
   go_upto_region 7 with fail
   rw [<-HW3.out,<-HR3.out]
   obtain ⟨⟨k0,k1,k2,k3,k4,k5,k6,k7⟩,-⟩:=zag HKN.out
   go_wp2
   go_ret3
   exact ⟨rfl,HB3.out⟩
  subst hc
  have hyq:=HYQ.out
  by_cases hs:ys=[82]
  case neg =>
   rw [ye hs] at hyq
   have c2:(u2.toList != [82])=true:=by simp only [bne,hyq,yj]
   have hR:=HR.out
   rw [yh (by decide),yg (.inr (.inr hs))] at hR
   subst hR
   clear HR hs HYQ HK3
   go_upto_region 7 with fail
   rw [<-HW3.out,<-HR3.out]
   obtain ⟨⟨k0,k1,k2,k3,k4,k5,k6,k7⟩,-⟩:=zag HKN.out
   go_wp2
   go_ret3
   exact ⟨rfl,HB3.out⟩
  rw [yd hs] at hyq
  have c2:(u2.toList != [82])=false:=by simp only [bne,hyq,Bool.not_true]
  have hR:=HR.out
  rw [yh (by decide),yh (by rintro (h|h|h);exact h rfl;exact h rfl;exact h hs)] at hR
  have HR:=yb hR
  clear hR hs HYQ
  go_upto_region 7 with fail
  rw [<-HW3.out,<-HR3.out]
  obtain ⟨⟨k0,k1,k2,k3,k4,k5,k6,k7⟩,-⟩:=zag HKN.out
  obtain ⟨⟨m0,m1,m2,m3,m4,m5,m6,m7⟩,-⟩:=zag HK3.out
  have hR:=HR.out
  by_cases q1:n<1
  ·have d1:decide (n<1)=true:=yd q1
   rw [yg (.inl q1)] at hR
   subst hR
   clear HR q1
   go_wp2
   go_ret3
   exact ⟨rfl,HB3.out⟩
  have d1:decide (n<1)=false:=ye q1
  by_cases q2:4096<n
  ·have d2:decide (4096<n)=true:=yd q2
   rw [yg (.inr (.inl q2))] at hR
   subst hR
   clear HR q1 q2
   go_wp2
   go_ret3
   exact ⟨rfl,HB3.out⟩
  have d2:decide (4096<n)=false:=ye q2
  by_cases q3:a2=0
  case neg =>
   have d3:(a2==0)=false:=by rw [yf];exact q3
   have d4:(a2 != 0)=true:=by simp only [bne,d3,yj]
   rw [yg (.inr (.inr q3))] at hR
   subst hR
   clear HR q1 q2 q3
   go_wp2
   go_ret3
   exact ⟨rfl,HB3.out⟩
  subst q3
  rw [yh (by rintro (h|h|h);exact q1 h;exact q2 h;exact h rfl)] at hR
  subst hR
  clear HR q1 q2
  go_wp2
  go_quiet (fail)
  go_wp2
  go_ret3
  exact ⟨rfl,zah HB3.out _⟩
end Go.Proofs.YtfafdeemfeaedaaGreat
namespace Go.Proofs.YtfafdeemfeaedaaGreat
mutual
def zbq:PV->PV->Int
 | .mk k n s l,.mk k2 n2 s2 l2 =>
  if k<k2\/(k=k2/\(n<n2\/(n=n2/\sLt s s2=true))) then -1
  else if k≠k2\/n≠n2\/s≠s2 then 1
  else zb4 l l2
def zb4:List PV->List PV->Int
 | [],[]=>0
 | [],_::_=>-1
 | _::_,[]=>1
 | x::l,y::m=>if zbq x y≠0 then zbq x y else zb4 l m
end
mutual
theorem zeL:∀a:PV,zbq a a=0
 | .mk k n s l=>by
  simp only [zbq]
  rw [yh (by rintro (h|⟨-,h|⟨-,h⟩⟩);omega;omega;rw [zgo] at h;cases h),yh (by simp)]
  exact zea l
theorem zea:∀l:List PV,zb4 l l=0
 | []=>rfl
 | x::l=>by
  simp only [zb4]
  rw [yh (by simp [zeL x])]
  exact zea l
end
end Go.Proofs.YtfafdeemfeaedaaGreat
namespace Go.Proofs.YtfafdeemfeaedaaGreat
open Go.RowKit
theorem zde:∀a b:List UInt8,Op.bytesLess a b=sLt a b
 | [],[]=>rfl
 | [],_::_=>rfl
 | _::_,[]=>rfl
 | a::l,b::m=>by
  simp only [Op.bytesLess,sLt]
  rw [zde l m]
  by_cases h:a.toNat<b.toNat
  ·rw [yg h]
   have:(a<b):=h
   simp [this]
  ·rw [yh h]
   have h':¬(a<b):=h
   by_cases h2:b.toNat<a.toNat
   ·rw [yg h2]
    have:(a==b)=false:=by rw [yf];intro e;subst e;omega
    simp [h',this]
   ·rw [yh h2]
    have:a=b:=UInt8.toNat_inj.1 (by omega)
    subst this
    simp
theorem zaH (l:List UInt8):(mkB l).toList=l:=by unfold mkB;exact ByteArray.toList_eq _
structure Box4 (w:World) (b:Nat) (v:PV) (sl:Value):Prop where
 blk:w.heap[b]?=some (.cells #[.int .i64 v.kind,.int .i64 v.n,.string (mkB v.s),sl] 27 (0,0))
theorem Box4.cells {w:World} {b:Nat} {v:PV} {sl:Value} (h:Box4 w b v sl):w.cell? ⟨b,0,none⟩=some (.int .i64 v.kind)/\w.cell? ⟨b,1,none⟩=some (.int .i64 v.n)/\w.cell? ⟨b,2,none⟩=some (.string (mkB v.s))/\w.cell? ⟨b,3,none⟩=some sl:=by
 refine ⟨?_,?_,?_,?_⟩
 ·rw [cell_of_row w b 0 _ _ _ h.blk];rfl
 ·rw [cell_of_row w b 1 _ _ _ h.blk];rfl
 ·rw [cell_of_row w b 2 _ _ _ h.blk];rfl
 ·rw [cell_of_row w b 3 _ _ _ h.blk];rfl
theorem cmpL_step {l m:List PV} {k:Nat} {x y:PV} (h1:l[k]?=some x) (h2:m[k]?=some y) :
  zb4 (l.drop k) (m.drop k)=if zbq x y≠0 then zbq x y else zb4 (l.drop (k+1)) (m.drop (k+1)):=by
 obtain ⟨g1,e1⟩:=List.getElem?_eq_some_iff.1 h1
 obtain ⟨g2,e2⟩:=List.getElem?_eq_some_iff.1 h2
 rw [List.drop_eq_getElem_cons g1,List.drop_eq_getElem_cons g2,e1,e2]
 rfl
theorem cmpL_end {l m:List PV} {k:Nat} (h:¬(k<l.length/\k<m.length)) (h1:k<=l.length) (h2:k<=m.length) :
  zb4 (l.drop k) (m.drop k)=if l.length<m.length then -1 else if m.length<l.length then 1 else 0:=by
 by_cases g1:k<l.length
 ·have g2:k=m.length:=by omega
  rw [List.drop_eq_getElem_cons g1,List.drop_of_length_le (l:=m) (by omega),yh (by omega),yg (by omega)]
  rfl
 ·rw [List.drop_of_length_le (l:=l) (by omega)]
  by_cases g2:k<m.length
  ·rw [List.drop_eq_getElem_cons g2,yg (by omega)]
   rfl
  ·rw [List.drop_of_length_le (l:=m) (by omega),yh (by omega),yh (by omega)]
   rfl
def anyF:Nat->Prop:=fun _=>True
theorem IsV.any {w:World} {F:Nat->Prop} {v:PV} {sl:Value} (h:IsV w F v sl):IsV w anyF v sl:=h.weaken fun _ _=>trivial
theorem sizeOf_mem {v x:PV} {k:Nat} (h:v.l[k]?=some x):SizeOf.sizeOf x<SizeOf.sizeOf v:=by
 obtain ⟨a,b,c,l⟩:=v
 have:SizeOf.sizeOf x<SizeOf.sizeOf l:=List.sizeOf_lt_of_mem (List.mem_of_getElem? (h:l[k]?=some x))
 simp only [PV.mk.sizeOf_spec];omega
theorem compare_any:∀(N:Nat) (a b:PV) (sa sb:Value) (w:World),SizeOf.sizeOf a<=N->IsV w anyF a sa->IsV w anyF b sb ->
  Calls Tryz.prog 88 #[pvA a sa,pvA b sb] w fun e w'=>e=.returned (.int .i64 (zbq a b))/\Below w.heap.size w w':=by
 intro N
 induction N with
 | zero=>intro a b sa sb w h;obtain ⟨_,_,_,_⟩:=a;simp at h
 | succ N ih =>
 intro a b sa sb w hN ha hb
 obtain ⟨a1,cap1,e1,g1,g2,g3⟩:=ha.len
 obtain ⟨a2,cap2,e2,g4,g5,g6⟩:=hb.len
 have HA:=yb ha
 have HB:=yb hb
 have HIH:=yb ih
 have HN:=yb hN
 have hC:zbq a b=if a.kind<b.kind\/(a.kind=b.kind/\(a.n<b.n\/(a.n=b.n/\sLt a.s b.s=true))) then -1
  else if a.kind≠b.kind\/a.n≠b.n\/a.s≠b.s then 1 else zb4 a.l b.l:=by
  obtain ⟨_,_,_,_⟩:=a;obtain ⟨_,_,_,_⟩:=b;simp only [zbq];rfl
 have HSA:=yb (fun (k:Nat) (x:PV) (h:a.l[k]?=some x)=>sizeOf_mem h)
 subst e1 e2
 obtain ⟨la,hla⟩:∃la,la=a.l:=⟨_,rfl⟩
 obtain ⟨lb,hlb⟩:∃lb,lb=b.l:=⟨_,rfl⟩
 rw [<-hla] at g1 HA |-
 rw [<-hlb] at g4 HB |-
 rw [<-hla,<-hlb] at hC
 have HLA:=yb hla
 have HLB:=yb hlb
 have m1:(la.length:Int)<=9223372036854775807:=by unfold maxLen at g2;omega
 have m2:(lb.length:Int)<=9223372036854775807:=by unfold maxLen at g5;omega
 have hl2:Op.bytesLess (mkB a.s).toList (mkB b.s).toList=sLt a.s b.s:=by rw [zaH,zaH,zde]
 have hl3:((mkB a.s).toList==(mkB b.s).toList)=decide (a.s=b.s):=by rw [zaH,zaH];by_cases h:a.s=b.s<;>simp [h]
 clear ih hN hla hlb ha hb
 unfold pvA
 generalize zbq a b=V at *
 generalize a.kind=ka at *
 generalize b.kind=kb at *
 generalize a.n=na at *
 generalize b.n=nb at *
 generalize a.s=s1 at *
 generalize b.s=s2 at *
 by_cases h1:ka<kb
 ·have hd:decide (ka<kb)=true:=yd h1
  rw [yg (.inl h1)] at hC
  have HC:=yb hC
  clear h1 hC hl2 hl3
  go_enter Tryz.func88,Tryz.ntmps88
  go_wp2
  go_ret
  exact ⟨by rw [HC.out];rfl,za0 w _ _⟩
 have hf1:decide (ka<kb)=false:=ye h1
 by_cases h2:kb<ka
 ·have hq:(ka==kb)=false:=by rw [yf];omega
  have hq2:(ka != kb)=true:=by simp [bne,hq]
  rw [yh (by omega),yg (.inl (by omega))] at hC
  have HC:=yb hC
  clear h1 h2 hC hl2 hl3
  go_enter Tryz.func88,Tryz.ntmps88
  go_wp2
  go_ret
  exact ⟨by rw [HC.out];rfl,za0 w _ _⟩
 obtain rfl:ka=kb:=by omega
 clear h1 h2 hf1
 by_cases h1:na<nb
 ·have hd:decide (na<nb)=true:=yd h1
  rw [yg (.inr ⟨rfl,.inl h1⟩)] at hC
  have HC:=yb hC
  clear h1 hC hl2 hl3
  go_enter Tryz.func88,Tryz.ntmps88
  go_wp2
  go_ret
  exact ⟨by rw [HC.out];rfl,za0 w _ _⟩
 have hf1:decide (na<nb)=false:=ye h1
 by_cases h2:nb<na
 ·have hq:(na==nb)=false:=by rw [yf];omega
  have hq2:(na != nb)=true:=by simp [bne,hq]
  rw [yh (by rintro (h|⟨-,h|⟨h,-⟩⟩)<;>omega),yg (.inr (.inl (by omega)))] at hC
  have HC:=yb hC
  clear h1 h2 hC hl2 hl3
  go_enter Tryz.func88,Tryz.ntmps88
  go_wp2
  go_ret
  exact ⟨by rw [HC.out];rfl,za0 w _ _⟩
 obtain rfl:na=nb:=by omega
 clear h1 h2 hf1
 by_cases h1:sLt s1 s2=true
 ·rw [yg (.inr ⟨rfl,.inr ⟨rfl,h1⟩⟩)] at hC
  rw [h1] at hl2
  have HC:=yb hC
  clear h1 hC hl3
  go_enter Tryz.func88,Tryz.ntmps88
  go_wp2
  go_ret
  exact ⟨by rw [HC.out];rfl,za0 w _ _⟩
 rw [yh (by rintro (h|⟨-,h|⟨-,h⟩⟩);omega;omega;exact h1 h)] at hC
 rw [show sLt s1 s2=false by simpa using h1] at hl2
 clear h1
 by_cases h2:s1=s2
 case neg =>
  rw [yg (.inr (.inr h2))] at hC
  rw [ye h2] at hl3
  have hl4:((mkB s1).toList != (mkB s2).toList)=true:=by simp [bne,hl3]
  have HC:=yb hC
  clear h2 hC
  go_enter Tryz.func88,Tryz.ntmps88
  go_wp2
  go_ret
  exact ⟨by rw [HC.out];rfl,za0 w _ _⟩
 subst h2
 rw [yh (by simp)] at hC
 have HC:=yb hC
 clear hC hl3
 go_enter Tryz.func88,Tryz.ntmps88
 go_wp2
 obtain ⟨B,hB⟩:∃B,B=w.heap.size:=⟨_,rfl⟩
 rw [<-hB]
 have hx1:((w.alloc (.cells #[.int .i64 ka,.int .i64 na,.string (mkB s1),.slice a1 la.length cap1] 27)).alloc (.cells #[.int .i64 ka,.int .i64 na,.string (mkB s1),.slice a2 lb.length cap2] 27)).heap[B]?=some (.cells #[.int .i64 ka,.int .i64 na,.string (mkB s1),.slice a1 la.length cap1] 27 (0,0)):=zak _ (zac _ hB)
 have hx2:((w.alloc (.cells #[.int .i64 ka,.int .i64 na,.string (mkB s1),.slice a1 la.length cap1] 27)).alloc (.cells #[.int .i64 ka,.int .i64 na,.string (mkB s1),.slice a2 lb.length cap2] 27)).heap[B+1]?=some (.cells #[.int .i64 ka,.int .i64 na,.string (mkB s1),.slice a2 lb.length cap2] 27 (0,0)):=zac _ (by rw [zan,hB])
 have HX1:=yb hx1
 have HX2:=yb hx2
 have HW:=yb (za0 w (.cells #[.int .i64 ka,.int .i64 na,.string (mkB s1),.slice a1 la.length cap1] 27) (.cells #[.int .i64 ka,.int .i64 na,.string (mkB s1),.slice a2 lb.length cap2] 27))
 have HBB:=yb hB
 clear hx1 hx2 hB
 generalize (w.alloc _).alloc _=W1 at *
 go_loopw [5] (fun vk wr=>∃k:Nat,vk=.int .i64 k/\k<=la.length/\k<=lb.length/\Hid (Below w.heap.size w wr)/\Hid (Below W1.heap.size W1 wr)/\Hid (V=zb4 (la.drop k) (lb.drop k))) (fun vk _=>la.length-(intOf vk).toNat)
 case atStart=>exact ⟨0,rfl,Nat.zero_le _,Nat.zero_le _,HW,Below.refl _ _,HC⟩
 case round =>
  obtain ⟨k,rfl,hk1,hk2,HWR,HW1,HV⟩:=hrel
  have hy1:=zab HW1.out HX1.out
  have hy2:=zab HW1.out HX2.out
  obtain ⟨c0,c1,c2,c3⟩:=Box4.cells (v:=.mk ka na s1 la) (sl:=.slice a1 la.length cap1) (w:=wr) (b:=B) ⟨hy1⟩
  obtain ⟨d0,d1,d2,d3⟩:=Box4.cells (v:=.mk ka na s1 lb) (sl:=.slice a2 lb.length cap2) (w:=wr) (b:=B+1) ⟨hy2⟩
  by_cases q1:k<la.length/\k<lb.length
  case neg =>
   have hv:=HV.out
   rw [cmpL_end q1 hk1 hk2] at hv
   have HV2:=yb hv
   clear hv hy1 hy2 HA HB HIH HV
   by_cases t1:la.length<lb.length
   ·have hd:decide (la.length<lb.length)=true:=yd t1
    have q2:¬k<la.length:=by omega
    go_wp2
    go_ret
    exact ⟨by rw [HV2.out,yg t1];rfl,HWR.out⟩
   ·have hd:decide (la.length<lb.length)=false:=ye t1
    by_cases t2:lb.length<la.length
    ·have hd2:decide (lb.length<la.length)=true:=yd t2
     have q2:¬k<lb.length:=by omega
     have q3:k<la.length:=by omega
     go_wp2
     go_ret
     exact ⟨by rw [HV2.out,yh t1,yg t2];rfl,HWR.out⟩
    ·have hd2:decide (lb.length<la.length)=false:=ye t2
     have q2:¬k<la.length:=by omega
     go_wp2
     go_ret
     exact ⟨by rw [HV2.out,yh t1,yh t2];rfl,HWR.out⟩
  obtain ⟨q1,q2⟩:=q1
  obtain ⟨x,hx⟩:∃x,la[k]?=some x:=⟨_,List.getElem?_eq_getElem q1⟩
  obtain ⟨y,hy⟩:∃y,lb[k]?=some y:=⟨_,List.getElem?_eq_getElem q2⟩
  have hbw:Below w.heap.size w wr:=HWR.out
  obtain ⟨-,-,-,b1,o1,rfl,-,-,hax⟩:=(HA.out.below hbw).at (by omega)
  obtain ⟨-,-,-,b2,o2,rfl,-,-,hbx⟩:=(HB.out.below hbw).at (by omega)
  rw [<-HLA.out] at hax
  rw [<-HLB.out] at hbx
  obtain ⟨sx,hsx,x0,x1,x2,x3⟩:=hax k x hx
  obtain ⟨sy,hsy,y0,y1,y2,y3⟩:=hbx k y hy
  have hlt:SizeOf.sizeOf x<SizeOf.sizeOf a:=HSA.out k x (by rw [<-HLA.out];exact hx)
  have hN:=HN.out
  have hcall:=fun (p:za7 wr)=>HIH.out x y sx sy p.w (by omega) (hsx.below p.h) (hsy.below p.h)
  have hv:=HV.out
  rw [cmpL_step hx hy] at hv
  have HV2:=yb hv
  unfold pvA at hcall
  generalize zbq x y=c at *
  have HCALL:=yb hcall
  clear hcall hv hsx hsy hlt hN hax hbx hx hy HA HB HIH HV hy1 hy2 hbw HSA HLA HLB HN
  have u3:=za7.cell c3
  have v3:=za7.cell d3
  have e0:=za7.cell x0
  have e1:=za7.cell x1
  have e2:=za7.cell x2
  have e3:=za7.cell x3
  have r0:=za7.cell y0
  have r1:=za7.cell y1
  have r2:=za7.cell y2
  have r3:=za7.cell y3
  have hkl:(0:Int)<=(k:Int):=by omega
  have hki:(k:Int)<(la.length:Int):=by omega
  have hkj:(k:Int)<(lb.length:Int):=by omega
  go_wp2
  refine zce (by kernel_rfl) (by kernel_rfl) ?_
  repeat (quiet_step ((go_at_call 88;with_reducible exact Calls.below_of (HCALL.out _))))
  refine wpQuiet_nil ?_
  rintro _ ⟨⟨w4,hb4⟩,rfl⟩
  have HW4:=yo HWR hb4
  have HW5:=yo HW1 hb4
  clear u3 v3 e0 e1 e2 e3 r0 r1 r2 r3 x0 x1 x2 x3 y0 y1 y2 y3 c0 c1 c2 c3 d0 d1 d2 d3 hb4
  by_cases hc:c=0
  ·subst hc
   go_wp2
   go_roundw
   case rel=>exact ⟨k+1,by go_num,by omega,by omega,HW4,HW5,by rw [HV2.out];rfl⟩
   case measure=>simp [intOf];omega
  ·have hc1:(c==0)=false:=by rw [yf];exact hc
   have hc2:(c != 0)=true:=by simp [bne,hc1]
   go_wp2
   go_ret
   exact ⟨by rw [HV2.out,yg hc];rfl,HW4.out⟩
theorem compare_two {a b:PV} {sa sb:Value} {w:World} {F G:Nat->Prop} (ha:IsV w F a sa) (hb:IsV w G b sb) :
  Calls Tryz.prog 88 #[pvA a sa,pvA b sb] w fun e w'=>e=.returned (.int .i64 (zbq a b))/\Below w.heap.size w w' :=
 compare_any _ a b sa sb w (yp _) ha.any hb.any
theorem same_any {a b:PV} {sa sb:Value} {w:World} {F G:Nat->Prop} (ha:IsV w F a sa) (hb:IsV w G b sb) :
  Calls Tryz.prog 51 #[pvA a sa,pvA b sb] w fun e w'=>e=.returned (.bool (zbq a b==0))/\Below w.heap.size w w':=by
 have HB0:=yb (za0 w (.cells #[.int .i64 a.kind,.int .i64 a.n,.string (mkB a.s),sa] 27) (.cells #[.int .i64 b.kind,.int .i64 b.n,.string (mkB b.s),sb] 27))
 have hc:=compare_two (ha.below HB0.out) (hb.below HB0.out)
 unfold pvA at *
 have HC:=yb hc
 clear hc ha hb
 generalize zbq a b=c at *
 generalize a.kind=a0 at *
 generalize a.n=a1 at *
 generalize mkB a.s=a2 at *
 generalize b.kind=b0 at *
 generalize b.n=b1 at *
 generalize mkB b.s=b2 at *
 go_enter Tryz.func51,Tryz.ntmps51
 go_wp2_with (go_at_call 88;refine HC.out.mono ?_;rintro e w' ⟨rfl,hb⟩)
 go_ret
 exact ⟨rfl,HB0.out.trans (hb.mono HB0.out.size)⟩
end Go.Proofs.YtfafdeemfeaedaaGreat
