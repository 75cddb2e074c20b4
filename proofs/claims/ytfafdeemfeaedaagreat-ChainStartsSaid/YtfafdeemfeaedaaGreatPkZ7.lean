/-
  Our texts LexT to LexV2, in one.
-/
import Derived.Test.YtfafdeemfeaedaaGreatPkZ6
set_option maxRecDepth 8000
set_option maxHeartbeats 8000000
namespace Go.Proofs.YtfafdeemfeaedaaGreat
open Go.RowKit
theorem rnext_91 {w:World} {a:Option Addr} {cap:Nat} {bs:List UInt8} (hr:Row w 1 a bs.length cap (bs.map u8C)) (hn:bs.length≤400000) {k:Int} (last:Bool) (hk0:0≤k) (hk1:k≤bs.length) {f:Nat} (hf:zaC bs k=f) (hfl:f<bs.length) {V:Tk×Int×Int×Int} (hV:V=zbf bs f last) (hc0:bs.getD f 0=91) :
   Calls Tryz.prog 84 #[.slice a bs.length cap,.int .i64 k,.bool last] w (zaz w V):=by
 have HV:=Lib.hid (hV.trans (zaY (j:=f+1) hfl hc0 (tokV_91 last _) (by omega)))
 obtain ⟨b,off,R,r,x,rfl,hbW,hx,hR,hRL,hrr,hcap,hcm,hkd,hkd2,hff,hffn,hfi,hf9,hrl,hS,hRN,hc,hcf,hZ,hB0⟩:=zax hr hn hk0 hk1 hf hfl
 have HRW:=Lib.hid hr
 have HC:=Lib.hid hc
 have HS:=Lib.hid hS
 have HRN:=Lib.hid hRN
 have HRR:=Lib.hid hR
 have HRL:=Lib.hid hRL
 have HRE:=Lib.hid hrr
 have HZ:=Lib.hid hZ
 have HB0:=Lib.hid hB0
 clear hS hRN hRL hZ hB0
 obtain rfl:x=91:=by rw [←hx,hc0];rfl
 clear hr hf hR hrr hrl hk0 hk1 hc hV hx
 go_enter Tryz.func84,Tryz.ntmps84
 go_wp2_with fail
 refine (HS.out _ HB0.out).mono ?_
 rintro e w' ⟨rfl,rfl⟩
 rw [←HRE.out]
 generalize w.alloc _=W1 at *
 obtain ⟨hcj1,hcj,hbn,hbl,hX⟩:=zas hbW HRE.out HB0.out hcf HZ.out
 have HX:=Lib.hid hX
 clear hcf hX
 go_wp2_with fail
 refine (HRN.out _ HX.out.bel).mono ?_
 rintro e w' ⟨rfl,rfl⟩
 clear hcj1 hcj hbn hbl
 generalize W1.alloc _=W2 at *
 generalize W1.heap.size=p at *
 clear HZ HB0
 obtain ⟨⟨k0,k1,k2,k3,k4,k5,k6,k7⟩,m0,m1,m2,m3,m4,m5,m6,m7⟩:=zag HX.out.blk
 go_wp2
 refine bodyPost_ret (zaa rfl _ _ r 111 _ (0,0) _ rfl (set8 HX.out.blk _ _ _ _ _ _ _ _) Tryz.underlying111 rfl zao _ rfl) rfl ?_
 exact zaq (x:={ kind:=2 }) HX.out.bel HX.out.wr HV.out _ _ _ _ _ _ _ _
theorem rnext_93 {w:World} {a:Option Addr} {cap:Nat} {bs:List UInt8} (hr:Row w 1 a bs.length cap (bs.map u8C)) (hn:bs.length≤400000) {k:Int} (last:Bool) (hk0:0≤k) (hk1:k≤bs.length) {f:Nat} (hf:zaC bs k=f) (hfl:f<bs.length) {V:Tk×Int×Int×Int} (hV:V=zbf bs f last) (hc0:bs.getD f 0=93) :
   Calls Tryz.prog 84 #[.slice a bs.length cap,.int .i64 k,.bool last] w (zaz w V):=by
 have HV:=Lib.hid (hV.trans (zaY (j:=f+1) hfl hc0 (tokV_93 last _) (by omega)))
 obtain ⟨b,off,R,r,x,rfl,hbW,hx,hR,hRL,hrr,hcap,hcm,hkd,hkd2,hff,hffn,hfi,hf9,hrl,hS,hRN,hc,hcf,hZ,hB0⟩:=zax hr hn hk0 hk1 hf hfl
 have HRW:=Lib.hid hr
 have HC:=Lib.hid hc
 have HS:=Lib.hid hS
 have HRN:=Lib.hid hRN
 have HRR:=Lib.hid hR
 have HRL:=Lib.hid hRL
 have HRE:=Lib.hid hrr
 have HZ:=Lib.hid hZ
 have HB0:=Lib.hid hB0
 clear hS hRN hRL hZ hB0
 obtain rfl:x=93:=by rw [←hx,hc0];rfl
 clear hr hf hR hrr hrl hk0 hk1 hc hV hx
 go_enter Tryz.func84,Tryz.ntmps84
 go_wp2_with fail
 refine (HS.out _ HB0.out).mono ?_
 rintro e w' ⟨rfl,rfl⟩
 rw [←HRE.out]
 generalize w.alloc _=W1 at *
 obtain ⟨hcj1,hcj,hbn,hbl,hX⟩:=zas hbW HRE.out HB0.out hcf HZ.out
 have HX:=Lib.hid hX
 clear hcf hX
 go_wp2_with fail
 refine (HRN.out _ HX.out.bel).mono ?_
 rintro e w' ⟨rfl,rfl⟩
 clear hcj1 hcj hbn hbl
 generalize W1.alloc _=W2 at *
 generalize W1.heap.size=p at *
 clear HZ HB0
 obtain ⟨⟨k0,k1,k2,k3,k4,k5,k6,k7⟩,m0,m1,m2,m3,m4,m5,m6,m7⟩:=zag HX.out.blk
 go_wp2
 refine bodyPost_ret (zaa rfl _ _ r 111 _ (0,0) _ rfl (set8 HX.out.blk _ _ _ _ _ _ _ _) Tryz.underlying111 rfl zao _ rfl) rfl ?_
 exact zaq (x:={ kind:=3 }) HX.out.bel HX.out.wr HV.out _ _ _ _ _ _ _ _
theorem rnext_6060 {w:World} {a:Option Addr} {cap:Nat} {bs:List UInt8} (hr:Row w 1 a bs.length cap (bs.map u8C)) (hn:bs.length≤400000) {k:Int} (last:Bool) (hk0:0≤k) (hk1:k≤bs.length) {f:Nat} (hf:zaC bs k=f) (hfl:f<bs.length) {V:Tk×Int×Int×Int} (hV:V=zbf bs f last) (hc0:bs.getD f 0=60) (h1:f+1<bs.length) (h2:bs.getD (f+1) 0=60) :
   Calls Tryz.prog 84 #[.slice a bs.length cap,.int .i64 k,.bool last] w (zaz w V):=by
 have HV:=Lib.hid (hV.trans (zaY (j:=f+2) (x:={ kind:=4 }) hfl hc0 (by rw [zat h1,h2];rfl) (by omega)))
 obtain ⟨b,off,R,r,x,rfl,hbW,hx,hR,hRL,hrr,hcap,hcm,hkd,hkd2,hff,hffn,hfi,hf9,hrl,hS,hRN,hc,hcf,hZ,hB0⟩:=zax hr hn hk0 hk1 hf hfl
 have HRW:=Lib.hid hr
 have HC:=Lib.hid hc
 have HS:=Lib.hid hS
 have HRN:=Lib.hid hRN
 have HRR:=Lib.hid hR
 have HRL:=Lib.hid hRL
 have HRE:=Lib.hid hrr
 have HZ:=Lib.hid hZ
 have HB0:=Lib.hid hB0
 clear hS hRN hRL hZ hB0
 obtain rfl:x=60:=by rw [←hx,hc0];rfl
 have hc1:=hc (f+1) h1
 rw [h2,show ((60:UInt8).toNat:Int)=60 from rfl] at hc1
 have HC1:=Lib.hid hc1
 have hn1:decide ((f:Int)+1<bs.length)=true:=decide_eq_true (by omega)
 have hn1i:(f:Int)+1<bs.length:=by omega
 clear hc1 h1 h2
 clear hr hf hR hrr hrl hk0 hk1 hc hV hx
 go_enter Tryz.func84,Tryz.ntmps84
 go_wp2_with fail
 refine (HS.out _ HB0.out).mono ?_
 rintro e w' ⟨rfl,rfl⟩
 rw [←HRE.out]
 generalize w.alloc _=W1 at *
 obtain ⟨hcj1,hcj,hbn,hbl,hX⟩:=zas hbW HRE.out HB0.out hcf HZ.out
 have HX:=Lib.hid hX
 clear hcf hX
 go_wp2_with fail
 refine (HRN.out _ HX.out.bel).mono ?_
 rintro e w' ⟨rfl,rfl⟩
 clear hcj1 hcj hbn hbl
 generalize W1.alloc _=W2 at *
 generalize W1.heap.size=p at *
 clear HZ HB0
 have hc1:=cell?_keep HX.out.bel HC1.out
 obtain ⟨⟨k0,k1,k2,k3,k4,k5,k6,k7⟩,m0,m1,m2,m3,m4,m5,m6,m7⟩:=zag HX.out.blk
 go_wp2
 refine bodyPost_ret (zaa rfl _ _ r 111 _ (0,0) _ rfl (set8 HX.out.blk _ _ _ _ _ _ _ _) Tryz.underlying111 rfl zao _ rfl) rfl ?_
 exact zaq (x:={ kind:=4 }) HX.out.bel HX.out.wr HV.out _ _ _ _ _ _ _ _
theorem rnext_6262 {w:World} {a:Option Addr} {cap:Nat} {bs:List UInt8} (hr:Row w 1 a bs.length cap (bs.map u8C)) (hn:bs.length≤400000) {k:Int} (last:Bool) (hk0:0≤k) (hk1:k≤bs.length) {f:Nat} (hf:zaC bs k=f) (hfl:f<bs.length) {V:Tk×Int×Int×Int} (hV:V=zbf bs f last) (hc0:bs.getD f 0=62) (h1:f+1<bs.length) (h2:bs.getD (f+1) 0=62) :
   Calls Tryz.prog 84 #[.slice a bs.length cap,.int .i64 k,.bool last] w (zaz w V):=by
 have HV:=Lib.hid (hV.trans (zaY (j:=f+2) (x:={ kind:=5 }) hfl hc0 (by rw [zat h1,h2];rfl) (by omega)))
 obtain ⟨b,off,R,r,x,rfl,hbW,hx,hR,hRL,hrr,hcap,hcm,hkd,hkd2,hff,hffn,hfi,hf9,hrl,hS,hRN,hc,hcf,hZ,hB0⟩:=zax hr hn hk0 hk1 hf hfl
 have HRW:=Lib.hid hr
 have HC:=Lib.hid hc
 have HS:=Lib.hid hS
 have HRN:=Lib.hid hRN
 have HRR:=Lib.hid hR
 have HRL:=Lib.hid hRL
 have HRE:=Lib.hid hrr
 have HZ:=Lib.hid hZ
 have HB0:=Lib.hid hB0
 clear hS hRN hRL hZ hB0
 obtain rfl:x=62:=by rw [←hx,hc0];rfl
 have hc1:=hc (f+1) h1
 rw [h2,show ((62:UInt8).toNat:Int)=62 from rfl] at hc1
 have HC1:=Lib.hid hc1
 have hn1:decide ((f:Int)+1<bs.length)=true:=decide_eq_true (by omega)
 have hn1i:(f:Int)+1<bs.length:=by omega
 clear hc1 h1 h2
 clear hr hf hR hrr hrl hk0 hk1 hc hV hx
 go_enter Tryz.func84,Tryz.ntmps84
 go_wp2_with fail
 refine (HS.out _ HB0.out).mono ?_
 rintro e w' ⟨rfl,rfl⟩
 rw [←HRE.out]
 generalize w.alloc _=W1 at *
 obtain ⟨hcj1,hcj,hbn,hbl,hX⟩:=zas hbW HRE.out HB0.out hcf HZ.out
 have HX:=Lib.hid hX
 clear hcf hX
 go_wp2_with fail
 refine (HRN.out _ HX.out.bel).mono ?_
 rintro e w' ⟨rfl,rfl⟩
 clear hcj1 hcj hbn hbl
 generalize W1.alloc _=W2 at *
 generalize W1.heap.size=p at *
 clear HZ HB0
 have hc1:=cell?_keep HX.out.bel HC1.out
 obtain ⟨⟨k0,k1,k2,k3,k4,k5,k6,k7⟩,m0,m1,m2,m3,m4,m5,m6,m7⟩:=zag HX.out.blk
 go_wp2
 refine bodyPost_ret (zaa rfl _ _ r 111 _ (0,0) _ rfl (set8 HX.out.blk _ _ _ _ _ _ _ _) Tryz.underlying111 rfl zao _ rfl) rfl ?_
 exact zaq (x:={ kind:=5 }) HX.out.bel HX.out.wr HV.out _ _ _ _ _ _ _ _
theorem rnext_62more {w:World} {a:Option Addr} {cap:Nat} {bs:List UInt8} (hr:Row w 1 a bs.length cap (bs.map u8C)) (hn:bs.length≤400000) {k:Int} (last:Bool) (hk0:0≤k) (hk1:k≤bs.length) {f:Nat} (hf:zaC bs k=f) (hfl:f<bs.length) {V:Tk×Int×Int×Int} (hV:V=zbf bs f last) (hc0:bs.getD f 0=62) (h1:f+1=bs.length) (hla:last=false) :
   Calls Tryz.prog 84 #[.slice a bs.length cap,.int .i64 k,.bool last] w (zaz w V):=by
 have HV:=Lib.hid (hV.trans (zaU (e:=6) hfl hc0 (by rw [tokV_62,za3 (by omega),hla];rfl) (by decide)))
 subst hla
 obtain ⟨b,off,R,r,x,rfl,hbW,hx,hR,hRL,hrr,hcap,hcm,hkd,hkd2,hff,hffn,hfi,hf9,hrl,hS,hRN,hc,hcf,hZ,hB0⟩:=zax hr hn hk0 hk1 hf hfl
 have HRW:=Lib.hid hr
 have HC:=Lib.hid hc
 have HS:=Lib.hid hS
 have HRN:=Lib.hid hRN
 have HRR:=Lib.hid hR
 have HRL:=Lib.hid hRL
 have HRE:=Lib.hid hrr
 have HZ:=Lib.hid hZ
 have HB0:=Lib.hid hB0
 clear hS hRN hRL hZ hB0
 obtain rfl:x=62:=by rw [←hx,hc0];rfl
 have hn1:decide ((f:Int)+1<bs.length)=false:=decide_eq_false (by omega)
 have hn2:((f:Int)+1==(bs.length:Int))=true:=by rw [beq_iff_eq];omega
 have hn3:decide ((f:Int)+1=(bs.length:Int))=true:=decide_eq_true (by omega)
 clear h1
 clear hr hf hR hrr hrl hk0 hk1 hc hV hx
 go_enter Tryz.func84,Tryz.ntmps84
 go_wp2_with fail
 refine (HS.out _ HB0.out).mono ?_
 rintro e w' ⟨rfl,rfl⟩
 rw [←HRE.out]
 generalize w.alloc _=W1 at *
 obtain ⟨hcj1,hcj,hbn,hbl,hX⟩:=zas hbW HRE.out HB0.out hcf HZ.out
 have HX:=Lib.hid hX
 clear hcf hX
 go_wp2_with fail
 refine (HRN.out _ HX.out.bel).mono ?_
 rintro e w' ⟨rfl,rfl⟩
 clear hcj1 hcj hbn hbl
 generalize W1.alloc _=W2 at *
 generalize W1.heap.size=p at *
 clear HZ HB0
 obtain ⟨⟨k0,k1,k2,k3,k4,k5,k6,k7⟩,m0,m1,m2,m3,m4,m5,m6,m7⟩:=zag HX.out.blk
 obtain ⟨⟨n0,n1,n2,n3,n4,n5,n6,n7⟩,-⟩:=zag HX.out.no
 go_wp2
 refine bodyPost_ret (zaa rfl _ _ r 111 _ (0,0) _ rfl (set8 HX.out.blk _ _ _ _ _ _ _ _) Tryz.underlying111 rfl zao _ rfl) rfl ?_
 exact zaq (x:={ kind:=0 }) HX.out.bel HX.out.wr HV.out _ _ _ _ _ _ _ _
theorem rnext_62last {w:World} {a:Option Addr} {cap:Nat} {bs:List UInt8} (hr:Row w 1 a bs.length cap (bs.map u8C)) (hn:bs.length≤400000) {k:Int} (last:Bool) (hk0:0≤k) (hk1:k≤bs.length) {f:Nat} (hf:zaC bs k=f) (hfl:f<bs.length) {V:Tk×Int×Int×Int} (hV:V=zbf bs f last) (hc0:bs.getD f 0=62) (h1:f+1=bs.length) (hla:last=true) :
   Calls Tryz.prog 84 #[.slice a bs.length cap,.int .i64 k,.bool last] w (zaz w V):=by
 have HV:=Lib.hid (hV.trans (zaU (e:=11) hfl hc0 (by rw [tokV_62,za3 (by omega),hla];rfl) (by decide)))
 subst hla
 obtain ⟨b,off,R,r,x,rfl,hbW,hx,hR,hRL,hrr,hcap,hcm,hkd,hkd2,hff,hffn,hfi,hf9,hrl,hS,hRN,hc,hcf,hZ,hB0⟩:=zax hr hn hk0 hk1 hf hfl
 have HRW:=Lib.hid hr
 have HC:=Lib.hid hc
 have HS:=Lib.hid hS
 have HRN:=Lib.hid hRN
 have HRR:=Lib.hid hR
 have HRL:=Lib.hid hRL
 have HRE:=Lib.hid hrr
 have HZ:=Lib.hid hZ
 have HB0:=Lib.hid hB0
 clear hS hRN hRL hZ hB0
 obtain rfl:x=62:=by rw [←hx,hc0];rfl
 have hn1:decide ((f:Int)+1<bs.length)=false:=decide_eq_false (by omega)
 have hn2:((f:Int)+1==(bs.length:Int))=true:=by rw [beq_iff_eq];omega
 have hn3:decide ((f:Int)+1=(bs.length:Int))=true:=decide_eq_true (by omega)
 have HDL:=Lib.hid (fun W=>zaM 62 W)
 rw [show dlI 62=true from rfl] at HDL
 clear h1
 clear hr hf hR hrr hrl hk0 hk1 hc hV hx
 go_enter Tryz.func84,Tryz.ntmps84
 go_wp2_with fail
 refine (HS.out _ HB0.out).mono ?_
 rintro e w' ⟨rfl,rfl⟩
 rw [←HRE.out]
 generalize w.alloc _=W1 at *
 obtain ⟨hcj1,hcj,hbn,hbl,hX⟩:=zas hbW HRE.out HB0.out hcf HZ.out
 have HX:=Lib.hid hX
 clear hcf hX
 go_wp2_with fail
 refine (HRN.out _ HX.out.bel).mono ?_
 rintro e w' ⟨rfl,rfl⟩
 clear hcj1 hcj hbn hbl
 generalize W1.alloc _=W2 at *
 generalize W1.heap.size=p at *
 clear HZ HB0
 obtain ⟨⟨k0,k1,k2,k3,k4,k5,k6,k7⟩,m0,m1,m2,m3,m4,m5,m6,m7⟩:=zag HX.out.blk
 obtain ⟨⟨n0,n1,n2,n3,n4,n5,n6,n7⟩,-⟩:=zag HX.out.no
 go_wp2_with (go_at_call 126;refine (HDL.out _).mono ?_;rintro e w' ⟨rfl,rfl⟩)
 refine bodyPost_ret (zaa rfl _ _ r 111 _ (0,0) _ rfl (set8 HX.out.blk _ _ _ _ _ _ _ _) Tryz.underlying111 rfl zao _ rfl) rfl ?_
 exact zaq (x:={ kind:=0 }) HX.out.bel HX.out.wr HV.out _ _ _ _ _ _ _ _
theorem rnext_62form {w:World} {a:Option Addr} {cap:Nat} {bs:List UInt8} (hr:Row w 1 a bs.length cap (bs.map u8C)) (hn:bs.length≤400000) {k:Int} (last:Bool) (hk0:0≤k) (hk1:k≤bs.length) {f:Nat} (hf:zaC bs k=f) (hfl:f<bs.length) {V:Tk×Int×Int×Int} (hV:V=zbf bs f last) (hc0:bs.getD f 0=62) (h1:f+1<bs.length) (h2:bs.getD (f+1) 0≠62) :
   Calls Tryz.prog 84 #[.slice a bs.length cap,.int .i64 k,.bool last] w (zaz w V):=by
 have HV:=Lib.hid (hV.trans (zaU (e:=11) hfl hc0 (by rw [tokV_62,zat h1];simp only;rw [if_neg h2]) (by decide)))
 obtain ⟨b,off,R,r,x,rfl,hbW,hx,hR,hRL,hrr,hcap,hcm,hkd,hkd2,hff,hffn,hfi,hf9,hrl,hS,hRN,hc,hcf,hZ,hB0⟩:=zax hr hn hk0 hk1 hf hfl
 have HRW:=Lib.hid hr
 have HC:=Lib.hid hc
 have HS:=Lib.hid hS
 have HRN:=Lib.hid hRN
 have HRR:=Lib.hid hR
 have HRL:=Lib.hid hRL
 have HRE:=Lib.hid hrr
 have HZ:=Lib.hid hZ
 have HB0:=Lib.hid hB0
 clear hS hRN hRL hZ hB0
 obtain rfl:x=62:=by rw [←hx,hc0];rfl
 have HC1:=Lib.hid (hc (f+1) h1)
 have e2:=zar h2 62 rfl
 generalize (bs.getD (f+1) 0).toNat=y at *
 have hn1:decide ((f:Int)+1<bs.length)=true:=decide_eq_true (by omega)
 have hn1i:(f:Int)+1<bs.length:=by omega
 have hn2:((f:Int)+1==(bs.length:Int))=false:=by rw [beq_eq_false_iff_ne];omega
 have hn3:decide ((f:Int)+1=(bs.length:Int))=false:=decide_eq_false (by omega)
 have HDL:=Lib.hid (fun W=>zaM 62 W)
 rw [show dlI 62=true from rfl] at HDL
 clear h1 h2
 clear hr hf hR hrr hrl hk0 hk1 hc hV hx
 go_enter Tryz.func84,Tryz.ntmps84
 go_wp2_with fail
 refine (HS.out _ HB0.out).mono ?_
 rintro e w' ⟨rfl,rfl⟩
 rw [←HRE.out]
 generalize w.alloc _=W1 at *
 obtain ⟨hcj1,hcj,hbn,hbl,hX⟩:=zas hbW HRE.out HB0.out hcf HZ.out
 have HX:=Lib.hid hX
 clear hcf hX
 go_wp2_with fail
 refine (HRN.out _ HX.out.bel).mono ?_
 rintro e w' ⟨rfl,rfl⟩
 clear hcj1 hcj hbn hbl
 generalize W1.alloc _=W2 at *
 generalize W1.heap.size=p at *
 clear HZ HB0
 have hc1:=cell?_keep HX.out.bel HC1.out
 obtain ⟨⟨k0,k1,k2,k3,k4,k5,k6,k7⟩,m0,m1,m2,m3,m4,m5,m6,m7⟩:=zag HX.out.blk
 obtain ⟨⟨n0,n1,n2,n3,n4,n5,n6,n7⟩,-⟩:=zag HX.out.no
 go_wp2_with (go_at_call 126;refine (HDL.out _).mono ?_;rintro e w' ⟨rfl,rfl⟩)
 refine bodyPost_ret (zaa rfl _ _ r 111 _ (0,0) _ rfl (set8 HX.out.blk _ _ _ _ _ _ _ _) Tryz.underlying111 rfl zao _ rfl) rfl ?_
 exact zaq (x:={ kind:=0 }) HX.out.bel HX.out.wr HV.out _ _ _ _ _ _ _ _
theorem rnext_dl {w:World} {a:Option Addr} {cap:Nat} {bs:List UInt8} (hr:Row w 1 a bs.length cap (bs.map u8C)) (hn:bs.length≤400000) {k:Int} (last:Bool) (hk0:0≤k) (hk1:k≤bs.length) {f:Nat} (hf:zaC bs k=f) (hfl:f<bs.length) {V:Tk×Int×Int×Int} (hV:V=zbf bs f last) (hd:isDl (bs.getD f 0)=true) (n1:bs.getD f 0≠91) (n2:bs.getD f 0≠93) (n3:bs.getD f 0≠60) (n4:bs.getD f 0≠62) (n5:bs.getD f 0≠40) (n6:bs.getD f 0≠47) :
   Calls Tryz.prog 84 #[.slice a bs.length cap,.int .i64 k,.bool last] w (zaz w V):=by
 have HV:=Lib.hid (hV.trans (zaU (e:=11) hfl rfl (by rw [tokV_no _ _ _ (by unfold isRg;rw [hd];simp) n1 n2 n3 n4 n5 n6]) (by decide)))
 obtain ⟨b,off,R,r,x,rfl,hbW,hx,hR,hRL,hrr,hcap,hcm,hkd,hkd2,hff,hffn,hfi,hf9,hrl,hS,hRN,hc,hcf,hZ,hB0⟩:=zax hr hn hk0 hk1 hf hfl
 have HRW:=Lib.hid hr
 have HC:=Lib.hid hc
 have HS:=Lib.hid hS
 have HRN:=Lib.hid hRN
 have HRR:=Lib.hid hR
 have HRL:=Lib.hid hRL
 have HRE:=Lib.hid hrr
 have HZ:=Lib.hid hZ
 have HB0:=Lib.hid hB0
 clear hS hRN hRL hZ hB0
 have e1:=zar n1 91 rfl
 have e2:=zar n2 93 rfl
 have e3:=zar n3 60 rfl
 have e4:=zar n4 62 rfl
 have e5:=zar n5 40 rfl
 have e6:=zar n6 47 rfl
 have HDL:=Lib.hid (fun W=>zaM (bs.getD f 0).toNat W)
 rw [←zbH,hd] at HDL
 rw [hx] at HDL e1 e2 e3 e4 e5 e6
 clear hd n1 n2 n3 n4 n5 n6
 clear hr hf hR hrr hrl hk0 hk1 hc hV hx
 go_enter Tryz.func84,Tryz.ntmps84
 go_wp2_with fail
 refine (HS.out _ HB0.out).mono ?_
 rintro e w' ⟨rfl,rfl⟩
 rw [←HRE.out]
 generalize w.alloc _=W1 at *
 obtain ⟨hcj1,hcj,hbn,hbl,hX⟩:=zas hbW HRE.out HB0.out hcf HZ.out
 have HX:=Lib.hid hX
 clear hcf hX
 go_wp2_with fail
 refine (HRN.out _ HX.out.bel).mono ?_
 rintro e w' ⟨rfl,rfl⟩
 clear hcj1 hcj hbn hbl
 generalize W1.alloc _=W2 at *
 generalize W1.heap.size=p at *
 clear HZ HB0
 obtain ⟨⟨k0,k1,k2,k3,k4,k5,k6,k7⟩,m0,m1,m2,m3,m4,m5,m6,m7⟩:=zag HX.out.blk
 obtain ⟨⟨n0,n1,n2,n3,n4,n5,n6,n7⟩,-⟩:=zag HX.out.no
 go_wp2_with (go_at_call 126;refine (HDL.out _).mono ?_;rintro e w' ⟨rfl,rfl⟩)
 refine bodyPost_ret (zaa rfl _ _ r 111 _ (0,0) _ rfl (set8 HX.out.blk _ _ _ _ _ _ _ _) Tryz.underlying111 rfl zao _ rfl) rfl ?_
 exact zaq (x:={ kind:=0 }) HX.out.bel HX.out.wr HV.out _ _ _ _ _ _ _ _
theorem rnext_hexend {w:World} {a:Option Addr} {cap:Nat} {bs:List UInt8} (hr:Row w 1 a bs.length cap (bs.map u8C)) (hn:bs.length≤400000) {k:Int} (last:Bool) (hk0:0≤k) (hk1:k≤bs.length) {f:Nat} (hf:zaC bs k=f) (hfl:f<bs.length) {V:Tk×Int×Int×Int} (hV:V=zbf bs f last) (hc0:bs.getD f 0=60) (h1:¬f+1<bs.length) :
   Calls Tryz.prog 84 #[.slice a bs.length cap,.int .i64 k,.bool last] w (zaz w V):=by
 obtain ⟨H,hH⟩:∃H,hexV [] (-1) (bs.drop (f+1))=H:=⟨_,rfl⟩
 have HH:=Lib.hid hH
 have ht:tokV last 60 (bs.drop (f+1))=hexK last H:=by rw [←hH];exact tokV_60 last _ (fun u e=>by rw [za3 h1] at e;cases e)
 have HT:=Lib.hid ht
 have HC0:=Lib.hid hc0
 have HVV:=Lib.hid hV
 have HFL:=Lib.hid hfl
 clear ht hH
 obtain ⟨b,off,R,r,x,rfl,hbW,hx,hR,hRL,hrr,hcap,hcm,hkd,hkd2,hff,hffn,hfi,hf9,hrl,hS,hRN,hc,hcf,hZ,hB0⟩:=zax hr hn hk0 hk1 hf hfl
 have HRW:=Lib.hid hr
 have HC:=Lib.hid hc
 have HS:=Lib.hid hS
 have HRN:=Lib.hid hRN
 have HRR:=Lib.hid hR
 have HRL:=Lib.hid hRL
 have HRE:=Lib.hid hrr
 have HZ:=Lib.hid hZ
 have HB0:=Lib.hid hB0
 clear hS hRN hRL hZ hB0
 obtain rfl:x=60:=by rw [←hx,hc0];rfl
 have HF1:=Lib.hid (show f+1≤bs.length by omega)
 have hn1:decide ((f:Int)+1<bs.length)=false:=decide_eq_false (by omega)
 clear h1
 clear hr hf hR hrr hrl hk0 hk1 hc hV hx
 go_enter Tryz.func84,Tryz.ntmps84
 go_wp2_with fail
 refine (HS.out _ HB0.out).mono ?_
 rintro e w' ⟨rfl,rfl⟩
 rw [←HRE.out]
 generalize w.alloc _=W1 at *
 obtain ⟨hcj1,hcj,hbn,hbl,hX⟩:=zas hbW HRE.out HB0.out hcf HZ.out
 have HX:=Lib.hid hX
 clear hcf hX
 go_wp2_with fail
 refine (HRN.out _ HX.out.bel).mono ?_
 rintro e w' ⟨rfl,rfl⟩
 clear hcj1 hcj hbn hbl
 generalize W1.alloc _=W2 at *
 generalize W1.heap.size=p at *
 clear HZ HB0
 go_wp2_with fail
 have HHX:=Lib.hid (zdP (HRW.out.mono HX.out.bel) hn (f+1) HF1.out last)
 rw [HH.out] at HHX
 unfold zcF at HHX
 refine HHX.out.mono ?_
 rintro e w3 ⟨hb3,h3⟩
 have HX3:=Lib.hid (HX.out.on hb3)
 clear hb3 HHX
 rcases h3 with ⟨h1,rfl⟩|⟨h1,rfl⟩|⟨h1,v,rfl,hO,hl⟩
 · have HV:=Lib.hid (HVV.out.trans (zaU (e:=zaX last) HFL.out HC0.out (by rw [HT.out];unfold hexK;rw [if_neg (by rw [h1];decide),if_pos h1]) (zcq last)))
   have ho1:(zaX last != 0)=true:=by cases last<;>rfl
   generalize zaX last=oe at *
   clear h1
   obtain ⟨⟨k0,k1,k2,k3,k4,k5,k6,k7⟩,m0,m1,m2,m3,m4,m5,m6,m7⟩:=zag HX3.out.blk
   obtain ⟨⟨n0,n1,n2,n3,n4,n5,n6,n7⟩,-⟩:=zag HX3.out.no
   go_wp2
   refine bodyPost_ret (zaa rfl _ _ r 111 _ (0,0) _ rfl (set8 HX3.out.blk _ _ _ _ _ _ _ _) Tryz.underlying111 rfl zao _ rfl) rfl ?_
   exact zaq (x:={ kind:=0 }) HX3.out.bel HX3.out.wr HV.out _ _ _ _ _ _ _ _
 · have HV:=Lib.hid (HVV.out.trans (zaU (e:=11) HFL.out HC0.out (by rw [HT.out];unfold hexK;rw [if_neg (by rw [h1];decide),if_neg (by rw [h1];decide)]) (by decide)))
   clear h1
   obtain ⟨⟨k0,k1,k2,k3,k4,k5,k6,k7⟩,m0,m1,m2,m3,m4,m5,m6,m7⟩:=zag HX3.out.blk
   obtain ⟨⟨n0,n1,n2,n3,n4,n5,n6,n7⟩,-⟩:=zag HX3.out.no
   go_wp2
   refine bodyPost_ret (zaa rfl _ _ r 111 _ (0,0) _ rfl (set8 HX3.out.blk _ _ _ _ _ _ _ _) Tryz.underlying111 rfl zao _ rfl) rfl ?_
   exact zaq (x:={ kind:=0 }) HX3.out.bel HX3.out.wr HV.out _ _ _ _ _ _ _ _
 · have HV:=Lib.hid (HVV.out.trans (zeY HFL.out HC0.out (x:={ kind:=1,vk:=4,vs:=H.2.1 }) (r:=H.2.2) (by rw [HT.out];unfold hexK;rw [if_pos h1]) hl))
   have hcv:=zdA hO
   obtain ⟨a3,c3,hv3,-⟩:=Row.of_owns hO
   subst hv3
   clear h1 hO hl
   obtain ⟨⟨k0,k1,k2,k3,k4,k5,k6,k7⟩,m0,m1,m2,m3,m4,m5,m6,m7⟩:=zag HX3.out.blk
   obtain ⟨⟨n0,n1,n2,n3,n4,n5,n6,n7⟩,-⟩:=zag HX3.out.no
   go_wp2
   refine bodyPost_ret (zaa rfl _ _ r 111 _ (0,0) _ rfl (set8 HX3.out.blk _ _ _ _ _ _ _ _) Tryz.underlying111 rfl zao _ rfl) rfl ?_
   exact zaq (x:={ kind:=1,vk:=4,vs:=H.2.1 }) HX3.out.bel HX3.out.wr HV.out _ _ _ _ _ _ _ _
theorem rnext_hex {w:World} {a:Option Addr} {cap:Nat} {bs:List UInt8} (hr:Row w 1 a bs.length cap (bs.map u8C)) (hn:bs.length≤400000) {k:Int} (last:Bool) (hk0:0≤k) (hk1:k≤bs.length) {f:Nat} (hf:zaC bs k=f) (hfl:f<bs.length) {V:Tk×Int×Int×Int} (hV:V=zbf bs f last) (hc0:bs.getD f 0=60) (h1:f+1<bs.length) (h2:bs.getD (f+1) 0≠60) :
   Calls Tryz.prog 84 #[.slice a bs.length cap,.int .i64 k,.bool last] w (zaz w V):=by
 obtain ⟨H,hH⟩:∃H,hexV [] (-1) (bs.drop (f+1))=H:=⟨_,rfl⟩
 have HH:=Lib.hid hH
 have ht:tokV last 60 (bs.drop (f+1))=hexK last H:=by rw [←hH];exact tokV_60 last _ (fun u e=>by rw [zat h1] at e;exact h2 (List.cons.inj e).1)
 have HT:=Lib.hid ht
 have HC0:=Lib.hid hc0
 have HVV:=Lib.hid hV
 have HFL:=Lib.hid hfl
 clear ht hH
 obtain ⟨b,off,R,r,x,rfl,hbW,hx,hR,hRL,hrr,hcap,hcm,hkd,hkd2,hff,hffn,hfi,hf9,hrl,hS,hRN,hc,hcf,hZ,hB0⟩:=zax hr hn hk0 hk1 hf hfl
 have HRW:=Lib.hid hr
 have HC:=Lib.hid hc
 have HS:=Lib.hid hS
 have HRN:=Lib.hid hRN
 have HRR:=Lib.hid hR
 have HRL:=Lib.hid hRL
 have HRE:=Lib.hid hrr
 have HZ:=Lib.hid hZ
 have HB0:=Lib.hid hB0
 clear hS hRN hRL hZ hB0
 obtain rfl:x=60:=by rw [←hx,hc0];rfl
 have HF1:=Lib.hid (show f+1≤bs.length by omega)
 have HC1:=Lib.hid (hc (f+1) h1)
 have e2:=zar h2 60 rfl
 generalize (bs.getD (f+1) 0).toNat=y at *
 have hn1:decide ((f:Int)+1<bs.length)=true:=decide_eq_true (by omega)
 have hn1i:(f:Int)+1<bs.length:=by omega
 clear h1 h2
 clear hr hf hR hrr hrl hk0 hk1 hc hV hx
 go_enter Tryz.func84,Tryz.ntmps84
 go_wp2_with fail
 refine (HS.out _ HB0.out).mono ?_
 rintro e w' ⟨rfl,rfl⟩
 rw [←HRE.out]
 generalize w.alloc _=W1 at *
 obtain ⟨hcj1,hcj,hbn,hbl,hX⟩:=zas hbW HRE.out HB0.out hcf HZ.out
 have HX:=Lib.hid hX
 clear hcf hX
 go_wp2_with fail
 refine (HRN.out _ HX.out.bel).mono ?_
 rintro e w' ⟨rfl,rfl⟩
 clear hcj1 hcj hbn hbl
 generalize W1.alloc _=W2 at *
 generalize W1.heap.size=p at *
 clear HZ HB0
 have hc1:=cell?_keep HX.out.bel HC1.out
 go_wp2_with fail
 have HHX:=Lib.hid (zdP (HRW.out.mono HX.out.bel) hn (f+1) HF1.out last)
 rw [HH.out] at HHX
 unfold zcF at HHX
 refine HHX.out.mono ?_
 rintro e w3 ⟨hb3,h3⟩
 have HX3:=Lib.hid (HX.out.on hb3)
 clear hb3 HHX
 rcases h3 with ⟨h1,rfl⟩|⟨h1,rfl⟩|⟨h1,v,rfl,hO,hl⟩
 · have HV:=Lib.hid (HVV.out.trans (zaU (e:=zaX last) HFL.out HC0.out (by rw [HT.out];unfold hexK;rw [if_neg (by rw [h1];decide),if_pos h1]) (zcq last)))
   have ho1:(zaX last != 0)=true:=by cases last<;>rfl
   generalize zaX last=oe at *
   clear h1
   obtain ⟨⟨k0,k1,k2,k3,k4,k5,k6,k7⟩,m0,m1,m2,m3,m4,m5,m6,m7⟩:=zag HX3.out.blk
   obtain ⟨⟨n0,n1,n2,n3,n4,n5,n6,n7⟩,-⟩:=zag HX3.out.no
   go_wp2
   refine bodyPost_ret (zaa rfl _ _ r 111 _ (0,0) _ rfl (set8 HX3.out.blk _ _ _ _ _ _ _ _) Tryz.underlying111 rfl zao _ rfl) rfl ?_
   exact zaq (x:={ kind:=0 }) HX3.out.bel HX3.out.wr HV.out _ _ _ _ _ _ _ _
 · have HV:=Lib.hid (HVV.out.trans (zaU (e:=11) HFL.out HC0.out (by rw [HT.out];unfold hexK;rw [if_neg (by rw [h1];decide),if_neg (by rw [h1];decide)]) (by decide)))
   clear h1
   obtain ⟨⟨k0,k1,k2,k3,k4,k5,k6,k7⟩,m0,m1,m2,m3,m4,m5,m6,m7⟩:=zag HX3.out.blk
   obtain ⟨⟨n0,n1,n2,n3,n4,n5,n6,n7⟩,-⟩:=zag HX3.out.no
   go_wp2
   refine bodyPost_ret (zaa rfl _ _ r 111 _ (0,0) _ rfl (set8 HX3.out.blk _ _ _ _ _ _ _ _) Tryz.underlying111 rfl zao _ rfl) rfl ?_
   exact zaq (x:={ kind:=0 }) HX3.out.bel HX3.out.wr HV.out _ _ _ _ _ _ _ _
 · have HV:=Lib.hid (HVV.out.trans (zeY HFL.out HC0.out (x:={ kind:=1,vk:=4,vs:=H.2.1 }) (r:=H.2.2) (by rw [HT.out];unfold hexK;rw [if_pos h1]) hl))
   have hcv:=zdA hO
   obtain ⟨a3,c3,hv3,-⟩:=Row.of_owns hO
   subst hv3
   clear h1 hO hl
   obtain ⟨⟨k0,k1,k2,k3,k4,k5,k6,k7⟩,m0,m1,m2,m3,m4,m5,m6,m7⟩:=zag HX3.out.blk
   obtain ⟨⟨n0,n1,n2,n3,n4,n5,n6,n7⟩,-⟩:=zag HX3.out.no
   go_wp2
   refine bodyPost_ret (zaa rfl _ _ r 111 _ (0,0) _ rfl (set8 HX3.out.blk _ _ _ _ _ _ _ _) Tryz.underlying111 rfl zao _ rfl) rfl ?_
   exact zaq (x:={ kind:=1,vk:=4,vs:=H.2.1 }) HX3.out.bel HX3.out.wr HV.out _ _ _ _ _ _ _ _
theorem rnext_text {w:World} {a:Option Addr} {cap:Nat} {bs:List UInt8} (hr:Row w 1 a bs.length cap (bs.map u8C)) (hn:bs.length≤400000) {k:Int} (last:Bool) (hk0:0≤k) (hk1:k≤bs.length) {f:Nat} (hf:zaC bs k=f) (hfl:f<bs.length) {V:Tk×Int×Int×Int} (hV:V=zbf bs f last) (hc0:bs.getD f 0=40) :
   Calls Tryz.prog 84 #[.slice a bs.length cap,.int .i64 k,.bool last] w (zaz w V):=by
 obtain ⟨H,hH⟩:∃H,za4 last 1 [] (bs.drop (f+1))=H:=⟨_,rfl⟩
 have HH:=Lib.hid hH
 have HT:=Lib.hid (show tokV last 40 (bs.drop (f+1))=txK last H by rw [tokV_text,hH])
 have HC0:=Lib.hid hc0
 have HVV:=Lib.hid hV
 have HFL:=Lib.hid hfl
 clear hH
 obtain ⟨b,off,R,r,x,rfl,hbW,hx,hR,hRL,hrr,hcap,hcm,hkd,hkd2,hff,hffn,hfi,hf9,hrl,hS,hRN,hc,hcf,hZ,hB0⟩:=zax hr hn hk0 hk1 hf hfl
 have HRW:=Lib.hid hr
 have HC:=Lib.hid hc
 have HS:=Lib.hid hS
 have HRN:=Lib.hid hRN
 have HRR:=Lib.hid hR
 have HRL:=Lib.hid hRL
 have HRE:=Lib.hid hrr
 have HZ:=Lib.hid hZ
 have HB0:=Lib.hid hB0
 clear hS hRN hRL hZ hB0
 obtain rfl:x=40:=by rw [←hx,hc0];rfl
 have HF1:=Lib.hid (show f+1≤bs.length by omega)
 clear hr hf hR hrr hrl hk0 hk1 hc hV hx
 go_enter Tryz.func84,Tryz.ntmps84
 go_wp2_with fail
 refine (HS.out _ HB0.out).mono ?_
 rintro e w' ⟨rfl,rfl⟩
 rw [←HRE.out]
 generalize w.alloc _=W1 at *
 obtain ⟨hcj1,hcj,hbn,hbl,hX⟩:=zas hbW HRE.out HB0.out hcf HZ.out
 have HX:=Lib.hid hX
 clear hcf hX
 go_wp2_with fail
 refine (HRN.out _ HX.out.bel).mono ?_
 rintro e w' ⟨rfl,rfl⟩
 clear hcj1 hcj hbn hbl
 generalize W1.alloc _=W2 at *
 generalize W1.heap.size=p at *
 clear HZ HB0
 go_wp2_with fail
 refine (zdP (HRW.out.mono HX.out.bel) hn (f+1) HF1.out last).mono ?_
 intro e w3 h3
 obtain ⟨v3,n3,er3,rfl,hb3⟩:=h3.some_end
 have HX3:=Lib.hid (HX.out.on hb3)
 clear hb3 h3
 go_wp2_with fail
 have HTX:=Lib.hid (rtext_any (HRW.out.mono HX3.out.bel) hn (f+1) HF1.out last)
 rw [HH.out] at HTX
 unfold zf8 at HTX
 refine HTX.out.mono ?_
 clear HTX HH
 cases H with
 | none =>
   rintro e w4 ⟨hb4,rfl⟩
   have HX4:=Lib.hid (HX3.out.on hb4)
   have HV:=Lib.hid (HVV.out.trans (zaU (e:=zaX last) HFL.out HC0.out (by rw [HT.out];rfl) (zcq last)))
   have ho1:(zaX last != 0)=true:=by cases last<;>rfl
   generalize zaX last=oe at *
   clear hb4
   obtain ⟨⟨k0,k1,k2,k3,k4,k5,k6,k7⟩,m0,m1,m2,m3,m4,m5,m6,m7⟩:=zag HX4.out.blk
   obtain ⟨⟨n0,n1,n2,n3,n4,n5,n6,n7⟩,-⟩:=zag HX4.out.no
   go_wp2
   refine bodyPost_ret (zaa rfl _ _ r 111 _ (0,0) _ rfl (set8 HX4.out.blk _ _ _ _ _ _ _ _) Tryz.underlying111 rfl zao _ rfl) rfl ?_
   exact zaq (x:={ kind:=0 }) HX4.out.bel HX4.out.wr HV.out _ _ _ _ _ _ _ _
 | some y =>
   obtain ⟨o,rr⟩:=y
   rintro e w4 ⟨hb4,v,rfl,hO,hl⟩
   have HX4:=Lib.hid (HX3.out.on hb4)
   have HV:=Lib.hid (HVV.out.trans (zeY HFL.out HC0.out (x:={ kind:=1,vk:=4,vs:=o }) (r:=rr) (by rw [HT.out];rfl) hl))
   have hcv:=zdA hO
   obtain ⟨a3,c3,hv3,-⟩:=Row.of_owns hO
   subst hv3
   clear hb4 hO hl
   obtain ⟨⟨k0,k1,k2,k3,k4,k5,k6,k7⟩,m0,m1,m2,m3,m4,m5,m6,m7⟩:=zag HX4.out.blk
   obtain ⟨⟨n0,n1,n2,n3,n4,n5,n6,n7⟩,-⟩:=zag HX4.out.no
   go_wp2
   refine bodyPost_ret (zaa rfl _ _ r 111 _ (0,0) _ rfl (set8 HX4.out.blk _ _ _ _ _ _ _ _) Tryz.underlying111 rfl zao _ rfl) rfl ?_
   exact zaq (x:={ kind:=1,vk:=4,vs:=o }) HX4.out.bel HX4.out.wr HV.out _ _ _ _ _ _ _ _
theorem Row.cut {α:Type} {enc:α→Value} {w:World} {b off n cap:Nat} {l:List α} (h:Row w 1 (some ⟨b,off,none⟩) n cap (l.map enc)) (lo m:Nat) (hm:lo+m≤n):Row w 1 (some ⟨b,off+lo,none⟩) ((l.drop lo).take m).length (cap-lo) (((l.drop lo).take m).map enc):=by
 have hl:=h.len1
 obtain ⟨h1,h2,h3,h4,h5⟩:=h
 have e:((l.drop lo).take m).length=m:=by rw [List.length_take,List.length_drop];omega
 rw [e]
 refine ⟨by simp;omega,by omega,by omega,fun h=>(by cases h),fun h0=>?_⟩
 obtain ⟨b',off',ha,hb,hc⟩:=h5 (by omega)
 cases ha
 refine ⟨b,off+lo,rfl,hb,fun j u hj=>?_⟩
 rw [Nat.add_assoc]
 refine hc (lo+j) u ?_
 rw [List.getElem?_map] at hj ⊢
 obtain ⟨x,hx,hxu⟩:=Option.map_eq_some_iff.1 hj
 rw [List.getElem?_take] at hx
 split at hx
 · rw [List.getElem?_drop] at hx
   rw [hx];exact congrArg some hxu
 · cases hx
def nmK (N:Option (List UInt8)) (r:List UInt8):Int×Tk×List UInt8:=match N with
 | none=>(17,{ kind:=0 },[])
 | some o=>(0,{ kind:=1,vk:=5,vs:=o },r)
theorem tokV_name {last:Bool} {t:List UInt8} {N:Option (List UInt8)} (h:¬(runN t=t.length∧last=false)) (hN:zc8 (regs t)=N):tokV last 47 t=nmK N (t.drop (runN t)):=by
 rw [zdK];unfold slV;rw [if_neg h,hN]
 cases N<;>rfl
theorem Row.none1 {α:Type} {enc:α→Value} (w:World) (a:Addr):Row w 1 (some a) ([]:List α).length 0 (([]:List α).map enc):=⟨rfl,Nat.le_refl _,by unfold maxLen;omega,fun h=>(by cases h),fun h=>absurd h (by simp)⟩
theorem zfg {w:World} {a:Option Addr} {cap:Nat} {bs:List UInt8} (hr:Row w 1 a bs.length cap (bs.map u8C)) (hn:bs.length≤400000) {k:Int} (last:Bool) (hk0:0≤k) (hk1:k≤bs.length) {f:Nat} (hf:zaC bs k=f) (hfl:f<bs.length) {V:Tk×Int×Int×Int} (hV:V=zbf bs f last) (hc0:bs.getD f 0=47) (h1:f+1+runN (bs.drop (f+1))=bs.length) (hla:last=false) :
   Calls Tryz.prog 84 #[.slice a bs.length cap,.int .i64 k,.bool last] w (zaz w V):=by
 have HV:=Lib.hid (hV.trans (zaU (e:=6) hfl hc0 (by rw [zdK];unfold slV;rw [if_pos ⟨by rw [List.length_drop];omega,hla⟩]) (by decide)))
 subst hla
 obtain ⟨b,off,R,r,x,rfl,hbW,hx,hR,hRL,hrr,hcap,hcm,hkd,hkd2,hff,hffn,hfi,hf9,hrl,hS,hRN,hc,hcf,hZ,hB0⟩:=zax hr hn hk0 hk1 hf hfl
 have HRW:=Lib.hid hr
 have HC:=Lib.hid hc
 have HS:=Lib.hid hS
 have HRN:=Lib.hid hRN
 have HRR:=Lib.hid hR
 have HRL:=Lib.hid hRL
 have HRE:=Lib.hid hrr
 have HZ:=Lib.hid hZ
 have HB0:=Lib.hid hB0
 clear hS hRN hRL hZ hB0
 obtain rfl:x=47:=by rw [←hx,hc0];rfl
 have hrl2:=zbd (bs.drop (f+1))
 rw [List.length_drop] at hrl2
 have HRN2:=Lib.hid (fun (W:World) (h:Below w.heap.size w W)=>zdl (HRW.out.mono h) hn (f+1) (by omega))
 obtain ⟨E,hE⟩:∃E,E=f+1+runN (bs.drop (f+1)):=⟨_,rfl⟩
 rw [←hE] at HRN2
 have hEl:E≤bs.length:=by omega
 have hEf:f+1≤E:=by omega
 obtain rfl:E=bs.length:=hE.trans h1
 clear h1 hE hrl2
 clear hr hf hR hrr hrl hk0 hk1 hc hV hx
 go_enter Tryz.func84,Tryz.ntmps84
 go_wp2_with fail
 refine (HS.out _ HB0.out).mono ?_
 rintro e w' ⟨rfl,rfl⟩
 rw [←HRE.out]
 generalize w.alloc _=W1 at *
 obtain ⟨hcj1,hcj,hbn,hbl,hX⟩:=zas hbW HRE.out HB0.out hcf HZ.out
 have HX:=Lib.hid hX
 clear hcf hX
 go_wp2_with fail
 refine (HRN.out _ HX.out.bel).mono ?_
 rintro e w' ⟨rfl,rfl⟩
 clear hcj1 hcj hbn hbl
 generalize W1.alloc _=W2 at *
 generalize W1.heap.size=p at *
 clear HZ HB0
 go_wp2_with fail
 refine (HRN2.out _ HX.out.bel).mono ?_
 rintro e w' ⟨rfl,rfl⟩
 obtain ⟨⟨k0,k1,k2,k3,k4,k5,k6,k7⟩,m0,m1,m2,m3,m4,m5,m6,m7⟩:=zag HX.out.blk
 obtain ⟨⟨n0,n1,n2,n3,n4,n5,n6,n7⟩,-⟩:=zag HX.out.no
 go_wp2
 refine bodyPost_ret (zaa rfl _ _ r 111 _ (0,0) _ rfl (set8 HX.out.blk _ _ _ _ _ _ _ _) Tryz.underlying111 rfl zao _ rfl) rfl ?_
 exact zaq (x:={ kind:=0 }) HX.out.bel HX.out.wr HV.out _ _ _ _ _ _ _ _
theorem rnext_name {w:World} {a:Option Addr} {cap:Nat} {bs:List UInt8} (hr:Row w 1 a bs.length cap (bs.map u8C)) (hn:bs.length≤400000) {k:Int} (last:Bool) (hk0:0≤k) (hk1:k≤bs.length) {f:Nat} (hf:zaC bs k=f) (hfl:f<bs.length) {V:Tk×Int×Int×Int} (hV:V=zbf bs f last) (hc0:bs.getD f 0=47) (hne:f+1+runN (bs.drop (f+1))=bs.length→last=false→False) (h1:f+1+runN (bs.drop (f+1))≠bs.length) (hcf1:¬cap=f+1) :
   Calls Tryz.prog 84 #[.slice a bs.length cap,.int .i64 k,.bool last] w (zaz w V):=by
 obtain ⟨N,hN⟩:∃N,zc8 (regs (bs.drop (f+1)))=N:=⟨_,rfl⟩
 have ht:tokV last 47 (bs.drop (f+1))=nmK N (bs.drop (f+1+runN (bs.drop (f+1)))):=by
   rw [tokV_name (fun h=>hne (by have h1:=h.1;rw [List.length_drop] at h1;omega) h.2) hN,List.drop_drop]
 have HT:=Lib.hid ht
 have HN:=Lib.hid hN
 have HC0:=Lib.hid hc0
 have HVV:=Lib.hid hV
 have HFL:=Lib.hid hfl
 clear ht hN hne
 obtain ⟨b,off,R,r,x,rfl,hbW,hx,hR,hRL,hrr,hcap,hcm,hkd,hkd2,hff,hffn,hfi,hf9,hrl,hS,hRN,hc,hcf,hZ,hB0⟩:=zax hr hn hk0 hk1 hf hfl
 have HRW:=Lib.hid hr
 have HC:=Lib.hid hc
 have HS:=Lib.hid hS
 have HRN:=Lib.hid hRN
 have HRR:=Lib.hid hR
 have HRL:=Lib.hid hRL
 have HRE:=Lib.hid hrr
 have HZ:=Lib.hid hZ
 have HB0:=Lib.hid hB0
 clear hS hRN hRL hZ hB0
 obtain rfl:x=47:=by rw [←hx,hc0];rfl
 have hrl2:=zbd (bs.drop (f+1))
 rw [List.length_drop] at hrl2
 have HRN2:=Lib.hid (fun (W:World) (h:Below w.heap.size w W)=>zdl (HRW.out.mono h) hn (f+1) (by omega))
 obtain ⟨E,hE⟩:∃E,E=f+1+runN (bs.drop (f+1)):=⟨_,rfl⟩
 rw [←hE] at HRN2
 have hEl:E≤bs.length:=by omega
 have hEf:f+1≤E:=by omega
 rw [←hE] at HT
 have HEL:=Lib.hid hEl
 have q1:((E:Int)==(bs.length:Int))=false:=by rw [beq_eq_false_iff_ne];omega
 have q2:decide (E=bs.length)=false:=decide_eq_false (by omega)
 have HCU:=Lib.hid (fun (W:World) (h:Below w.heap.size w W)=>(HRW.out.mono h).cut (f+1) (E-(f+1)) (by omega))
 have hrg:(bs.drop (f+1)).take (E-(f+1))=regs (bs.drop (f+1)):=by rw [za1,hE,Nat.add_sub_cancel_left]
 rw [hrg] at HCU
 have hrgl:(regs (bs.drop (f+1))).length=E-(f+1):=by show runN _=_;omega
 have HGL:=Lib.hid hrgl
 have hce:¬cap=f+1:=hcf1
 clear hcf1 hrg hrgl
 clear h1 hE hrl2
 clear hr hf hR hrr hrl hk0 hk1 hc hV hx
 go_enter Tryz.func84,Tryz.ntmps84
 go_wp2_with fail
 refine (HS.out _ HB0.out).mono ?_
 rintro e w' ⟨rfl,rfl⟩
 rw [←HRE.out]
 generalize w.alloc _=W1 at *
 obtain ⟨hcj1,hcj,hbn,hbl,hX⟩:=zas hbW HRE.out HB0.out hcf HZ.out
 have HX:=Lib.hid hX
 clear hcf hX
 go_wp2_with fail
 refine (HRN.out _ HX.out.bel).mono ?_
 rintro e w' ⟨rfl,rfl⟩
 clear hcj1 hcj hbn hbl
 generalize W1.alloc _=W2 at *
 generalize W1.heap.size=p at *
 clear HZ HB0
 go_wp2_with fail
 refine (HRN2.out _ HX.out.bel).mono ?_
 rintro e w' ⟨rfl,rfl⟩
 have HNM:=Lib.hid (zfc (HCU.out _ HX.out.bel) (by rw [HGL.out];omega))
 rw [HGL.out] at HNM
 rw [HN.out] at HNM
 unfold zc4 at HNM
 go_wp2_with fail
 refine HNM.out.mono ?_
 clear HNM HN
 cases N with
 | none =>
   rintro e w3 ⟨hb3,rfl⟩
   unfold valC za6
   have HX3:=Lib.hid ((HX.out.on hb3).alloc (.cells #[.int .i64 0,.int .i64 0,.string ⟨#[]⟩,.slice none 0 0] 27))
   have HV:=Lib.hid (HVV.out.trans (zaU (e:=17) HFL.out HC0.out (by rw [HT.out];rfl) (by decide)))
   clear hb3
   obtain ⟨⟨k0,k1,k2,k3,k4,k5,k6,k7⟩,m0,m1,m2,m3,m4,m5,m6,m7⟩:=zag HX3.out.blk
   obtain ⟨⟨n0,n1,n2,n3,n4,n5,n6,n7⟩,-⟩:=zag HX3.out.no
   go_wp2
   refine bodyPost_ret (zaa rfl _ _ r 111 _ (0,0) _ rfl (set8 HX3.out.blk _ _ _ _ _ _ _ _) Tryz.underlying111 rfl zao _ rfl) rfl ?_
   exact zaq (x:={ kind:=0 }) HX3.out.bel HX3.out.wr HV.out _ _ _ _ _ _ _ _
 | some o =>
   rintro e w3 ⟨hb3,rfl⟩
   unfold valC
   have HX3:=Lib.hid ((HX.out.on hb3).alloc (.cells #[.int .i64 5,.int .i64 0,.string (mkB o),.slice none 0 0] 27))
   have HV:=Lib.hid (HVV.out.trans (zaY HFL.out HC0.out (x:={ kind:=1,vk:=5,vs:=o }) (j:=E) (by rw [HT.out];rfl) HEL.out))
   clear hb3
   obtain ⟨⟨k0,k1,k2,k3,k4,k5,k6,k7⟩,m0,m1,m2,m3,m4,m5,m6,m7⟩:=zag HX3.out.blk
   obtain ⟨⟨n0,n1,n2,n3,n4,n5,n6,n7⟩,-⟩:=zag HX3.out.no
   go_wp2
   refine bodyPost_ret (zaa rfl _ _ r 111 _ (0,0) _ rfl (set8 HX3.out.blk _ _ _ _ _ _ _ _) Tryz.underlying111 rfl zao _ rfl) rfl ?_
   exact zaq (x:={ kind:=1,vk:=5,vs:=o }) HX3.out.bel HX3.out.wr HV.out _ _ _ _ _ _ _ _
theorem zfo {w:World} {a:Option Addr} {cap:Nat} {bs:List UInt8} (hr:Row w 1 a bs.length cap (bs.map u8C)) (hn:bs.length≤400000) {k:Int} (last:Bool) (hk0:0≤k) (hk1:k≤bs.length) {f:Nat} (hf:zaC bs k=f) (hfl:f<bs.length) {V:Tk×Int×Int×Int} (hV:V=zbf bs f last) (hc0:bs.getD f 0=47) (hne:f+1+runN (bs.drop (f+1))=bs.length→last=false→False) (h1:f+1+runN (bs.drop (f+1))=bs.length) (hla:last=true) (hcf1:¬cap=f+1) :
   Calls Tryz.prog 84 #[.slice a bs.length cap,.int .i64 k,.bool last] w (zaz w V):=by
 obtain ⟨N,hN⟩:∃N,zc8 (regs (bs.drop (f+1)))=N:=⟨_,rfl⟩
 have ht:tokV last 47 (bs.drop (f+1))=nmK N (bs.drop (f+1+runN (bs.drop (f+1)))):=by
   rw [tokV_name (fun h=>hne (by have h1:=h.1;rw [List.length_drop] at h1;omega) h.2) hN,List.drop_drop]
 have HT:=Lib.hid ht
 have HN:=Lib.hid hN
 have HC0:=Lib.hid hc0
 have HVV:=Lib.hid hV
 have HFL:=Lib.hid hfl
 clear ht hN hne
 obtain ⟨b,off,R,r,x,rfl,hbW,hx,hR,hRL,hrr,hcap,hcm,hkd,hkd2,hff,hffn,hfi,hf9,hrl,hS,hRN,hc,hcf,hZ,hB0⟩:=zax hr hn hk0 hk1 hf hfl
 have HRW:=Lib.hid hr
 have HC:=Lib.hid hc
 have HS:=Lib.hid hS
 have HRN:=Lib.hid hRN
 have HRR:=Lib.hid hR
 have HRL:=Lib.hid hRL
 have HRE:=Lib.hid hrr
 have HZ:=Lib.hid hZ
 have HB0:=Lib.hid hB0
 clear hS hRN hRL hZ hB0
 obtain rfl:x=47:=by rw [←hx,hc0];rfl
 have hrl2:=zbd (bs.drop (f+1))
 rw [List.length_drop] at hrl2
 have HRN2:=Lib.hid (fun (W:World) (h:Below w.heap.size w W)=>zdl (HRW.out.mono h) hn (f+1) (by omega))
 obtain ⟨E,hE⟩:∃E,E=f+1+runN (bs.drop (f+1)):=⟨_,rfl⟩
 rw [←hE] at HRN2
 have hEl:E≤bs.length:=by omega
 have hEf:f+1≤E:=by omega
 rw [←hE] at HT
 have HEL:=Lib.hid hEl
 subst hla
 have HCU:=Lib.hid (fun (W:World) (h:Below w.heap.size w W)=>(HRW.out.mono h).cut (f+1) (E-(f+1)) (by omega))
 have hrg:(bs.drop (f+1)).take (E-(f+1))=regs (bs.drop (f+1)):=by rw [za1,hE,Nat.add_sub_cancel_left]
 rw [hrg] at HCU
 have hrgl:(regs (bs.drop (f+1))).length=E-(f+1):=by show runN _=_;omega
 have HGL:=Lib.hid hrgl
 have hce:¬cap=f+1:=hcf1
 clear hcf1 hrg hrgl
 obtain rfl:E=bs.length:=hE.trans h1
 clear h1 hE hrl2
 clear hr hf hR hrr hrl hk0 hk1 hc hV hx
 go_enter Tryz.func84,Tryz.ntmps84
 go_wp2_with fail
 refine (HS.out _ HB0.out).mono ?_
 rintro e w' ⟨rfl,rfl⟩
 rw [←HRE.out]
 generalize w.alloc _=W1 at *
 obtain ⟨hcj1,hcj,hbn,hbl,hX⟩:=zas hbW HRE.out HB0.out hcf HZ.out
 have HX:=Lib.hid hX
 clear hcf hX
 go_wp2_with fail
 refine (HRN.out _ HX.out.bel).mono ?_
 rintro e w' ⟨rfl,rfl⟩
 clear hcj1 hcj hbn hbl
 generalize W1.alloc _=W2 at *
 generalize W1.heap.size=p at *
 clear HZ HB0
 go_wp2_with fail
 refine (HRN2.out _ HX.out.bel).mono ?_
 rintro e w' ⟨rfl,rfl⟩
 have HNM:=Lib.hid (zfc (HCU.out _ HX.out.bel) (by rw [HGL.out];omega))
 rw [HGL.out] at HNM
 rw [HN.out] at HNM
 unfold zc4 at HNM
 go_wp2_with fail
 refine HNM.out.mono ?_
 clear HNM HN
 cases N with
 | none =>
   rintro e w3 ⟨hb3,rfl⟩
   unfold valC za6
   have HX3:=Lib.hid ((HX.out.on hb3).alloc (.cells #[.int .i64 0,.int .i64 0,.string ⟨#[]⟩,.slice none 0 0] 27))
   have HV:=Lib.hid (HVV.out.trans (zaU (e:=17) HFL.out HC0.out (by rw [HT.out];rfl) (by decide)))
   clear hb3
   obtain ⟨⟨k0,k1,k2,k3,k4,k5,k6,k7⟩,m0,m1,m2,m3,m4,m5,m6,m7⟩:=zag HX3.out.blk
   obtain ⟨⟨n0,n1,n2,n3,n4,n5,n6,n7⟩,-⟩:=zag HX3.out.no
   go_wp2
   refine bodyPost_ret (zaa rfl _ _ r 111 _ (0,0) _ rfl (set8 HX3.out.blk _ _ _ _ _ _ _ _) Tryz.underlying111 rfl zao _ rfl) rfl ?_
   exact zaq (x:={ kind:=0 }) HX3.out.bel HX3.out.wr HV.out _ _ _ _ _ _ _ _
 | some o =>
   rintro e w3 ⟨hb3,rfl⟩
   unfold valC
   have HX3:=Lib.hid ((HX.out.on hb3).alloc (.cells #[.int .i64 5,.int .i64 0,.string (mkB o),.slice none 0 0] 27))
   have HV:=Lib.hid (HVV.out.trans (zaY HFL.out HC0.out (x:={ kind:=1,vk:=5,vs:=o }) (j:=bs.length) (by rw [HT.out];rfl) HEL.out))
   clear hb3
   obtain ⟨⟨k0,k1,k2,k3,k4,k5,k6,k7⟩,m0,m1,m2,m3,m4,m5,m6,m7⟩:=zag HX3.out.blk
   obtain ⟨⟨n0,n1,n2,n3,n4,n5,n6,n7⟩,-⟩:=zag HX3.out.no
   go_wp2
   refine bodyPost_ret (zaa rfl _ _ r 111 _ (0,0) _ rfl (set8 HX3.out.blk _ _ _ _ _ _ _ _) Tryz.underlying111 rfl zao _ rfl) rfl ?_
   exact zaq (x:={ kind:=1,vk:=5,vs:=o }) HX3.out.bel HX3.out.wr HV.out _ _ _ _ _ _ _ _
theorem zgq {w:World} {a:Option Addr} {cap:Nat} {bs:List UInt8} (hr:Row w 1 a bs.length cap (bs.map u8C)) (hn:bs.length≤400000) {k:Int} (last:Bool) (hk0:0≤k) (hk1:k≤bs.length) {f:Nat} (hf:zaC bs k=f) (hfl:f<bs.length) {V:Tk×Int×Int×Int} (hV:V=zbf bs f last) (hc0:bs.getD f 0=47) (hla:last=true) (hcf1:cap=f+1) :
   Calls Tryz.prog 84 #[.slice a bs.length cap,.int .i64 k,.bool last] w (zaz w V):=by
 have hcap0:=hr.2.1
 have HV:=Lib.hid (hV.trans (zaY (last:=last) hfl hc0 (x:={ kind:=1,vk:=5,vs:=[] }) (j:=bs.length) (by rw [za3 (by omega),List.drop_length,hla];rfl) (by omega)))
 subst hla
 obtain ⟨b,off,R,r,x,rfl,hbW,hx,hR,hRL,hrr,hcap,hcm,hkd,hkd2,hff,hffn,hfi,hf9,hrl,hS,hRN,hc,hcf,hZ,hB0⟩:=zax hr hn hk0 hk1 hf hfl
 have HRW:=Lib.hid hr
 have HC:=Lib.hid hc
 have HS:=Lib.hid hS
 have HRN:=Lib.hid hRN
 have HRR:=Lib.hid hR
 have HRL:=Lib.hid hRL
 have HRE:=Lib.hid hrr
 have HZ:=Lib.hid hZ
 have HB0:=Lib.hid hB0
 clear hS hRN hRL hZ hB0
 obtain rfl:x=47:=by rw [←hx,hc0];rfl
 have HRN2:=Lib.hid (fun (W:World) (h:Below w.heap.size w W)=>zdl (HRW.out.mono h) hn bs.length (Nat.le_refl _))
 rw [show bs.length+runN (bs.drop bs.length)=bs.length by rw [List.drop_length];rfl] at HRN2
 have hfe:f+1=bs.length:=by omega
 have hfei:(f:Int)+1=(bs.length:Int):=by omega
 obtain rfl:cap=bs.length:=hcf1.trans hfe
 clear hcf1 hcap0
 clear hr hf hR hrr hrl hk0 hk1 hc hV hx
 go_enter Tryz.func84,Tryz.ntmps84
 go_wp2_with fail
 refine (HS.out _ HB0.out).mono ?_
 rintro e w' ⟨rfl,rfl⟩
 rw [←HRE.out]
 generalize w.alloc _=W1 at *
 obtain ⟨hcj1,hcj,hbn,hbl,hX⟩:=zas hbW HRE.out HB0.out hcf HZ.out
 have HX:=Lib.hid hX
 clear hcf hX
 go_wp2_with fail
 refine (HRN.out _ HX.out.bel).mono ?_
 rintro e w' ⟨rfl,rfl⟩
 clear hcj1 hcj hbn hbl
 generalize W1.alloc _=W2 at *
 generalize W1.heap.size=p at *
 clear HZ HB0
 go_wp2_with fail
 refine (HRN2.out _ HX.out.bel).mono ?_
 rintro e w' ⟨rfl,rfl⟩
 have HNM:=Lib.hid (zfc (bs:=[]) (Row.none1 W2 ⟨b,off,none⟩) (by simp))
 rw [show zc8 []=some [] from rfl] at HNM
 unfold zc4 at HNM
 go_wp2_with fail
 refine HNM.out.mono ?_
 clear HNM
 rintro e w3 ⟨hb3,rfl⟩
 unfold valC
 have HX3:=Lib.hid ((HX.out.on hb3).alloc (.cells #[.int .i64 5,.int .i64 0,.string (mkB []),.slice none 0 0] 27))
 clear hb3
 obtain ⟨⟨k0,k1,k2,k3,k4,k5,k6,k7⟩,m0,m1,m2,m3,m4,m5,m6,m7⟩:=zag HX3.out.blk
 obtain ⟨⟨n0,n1,n2,n3,n4,n5,n6,n7⟩,-⟩:=zag HX3.out.no
 go_wp2
 refine bodyPost_ret (zaa rfl _ _ r 111 _ (0,0) _ rfl (set8 HX3.out.blk _ _ _ _ _ _ _ _) Tryz.underlying111 rfl zao _ rfl) rfl ?_
 exact zaq (x:={ kind:=1,vk:=5,vs:=[] }) HX3.out.bel HX3.out.wr HV.out _ _ _ _ _ _ _ _
theorem zgm {w:World} {a:Option Addr} {cap:Nat} {bs:List UInt8} (hr:Row w 1 a bs.length cap (bs.map u8C)) (hn:bs.length≤400000) {k:Int} (last:Bool) (hk0:0≤k) (hk1:k≤bs.length) {f:Nat} (hf:zaC bs k=f) (hfl:f<bs.length) {V:Tk×Int×Int×Int} (hV:V=zbf bs f last) (hreg:isRg (bs.getD f 0)=true) (h1:f+runN (bs.drop f)=bs.length) (hla:last=false) :
   Calls Tryz.prog 84 #[.slice a bs.length cap,.int .i64 k,.bool last] w (zaz w V):=by
 have HT:=Lib.hid (show tokV last (bs.getD f 0) (bs.drop (f+1))=_ from zbm (X:=⟨none,0,bs,last⟩) (k:=f) hfl hreg)
 have HV:=Lib.hid (hV.trans (zaU (e:=6) hfl rfl (by rw [HT.out];unfold rgV;rw [if_pos ⟨show runN (bs.drop f)=(bs.drop f).length by rw [List.length_drop];omega,hla⟩]) (by decide)))
 clear HT
 subst hla
 have hdl:isDl (bs.getD f 0)=false:=by
   have h:=hreg
   unfold isRg at h
   cases hh:isDl (bs.getD f 0) with
   | false=>rfl
   | true=>rw [hh] at h;simp at h
 have n91:bs.getD f 0≠91:=fun e=>by rw [e] at hreg;exact absurd hreg (by decide)
 have n93:bs.getD f 0≠93:=fun e=>by rw [e] at hreg;exact absurd hreg (by decide)
 have n60:bs.getD f 0≠60:=fun e=>by rw [e] at hreg;exact absurd hreg (by decide)
 have n62:bs.getD f 0≠62:=fun e=>by rw [e] at hreg;exact absurd hreg (by decide)
 have n40:bs.getD f 0≠40:=fun e=>by rw [e] at hreg;exact absurd hreg (by decide)
 have n47:bs.getD f 0≠47:=fun e=>by rw [e] at hreg;exact absurd hreg (by decide)
 have e91:=zar n91 91 rfl
 have e93:=zar n93 93 rfl
 have e60:=zar n60 60 rfl
 have e62:=zar n62 62 rfl
 have e40:=zar n40 40 rfl
 have e47:=zar n47 47 rfl
 obtain ⟨b,off,R,r,x,rfl,hbW,hx,hR,hRL,hrr,hcap,hcm,hkd,hkd2,hff,hffn,hfi,hf9,hrl,hS,hRN,hc,hcf,hZ,hB0⟩:=zax hr hn hk0 hk1 hf hfl
 have HRW:=Lib.hid hr
 have HC:=Lib.hid hc
 have HS:=Lib.hid hS
 have HRN:=Lib.hid hRN
 have HRR:=Lib.hid hR
 have HRL:=Lib.hid hRL
 have HRE:=Lib.hid hrr
 have HZ:=Lib.hid hZ
 have HB0:=Lib.hid hB0
 clear hS hRN hRL hZ hB0
 have HDL:=Lib.hid (fun W=>zaM (bs.getD f 0).toNat W)
 rw [←zbH,hdl] at HDL
 rw [hx] at HDL e91 e93 e60 e62 e40 e47
 clear n91 n93 n60 n62 n40 n47 hdl hreg
 obtain rfl:R=bs.length:=hR.trans h1
 clear h1
 clear hr hf hR hrr hrl hk0 hk1 hc hV hx
 go_enter Tryz.func84,Tryz.ntmps84
 go_wp2_with fail
 refine (HS.out _ HB0.out).mono ?_
 rintro e w' ⟨rfl,rfl⟩
 rw [←HRE.out]
 generalize w.alloc _=W1 at *
 obtain ⟨hcj1,hcj,hbn,hbl,hX⟩:=zas hbW HRE.out HB0.out hcf HZ.out
 have HX:=Lib.hid hX
 clear hcf hX
 go_wp2_with fail
 refine (HRN.out _ HX.out.bel).mono ?_
 rintro e w' ⟨rfl,rfl⟩
 clear hcj1 hcj hbn hbl
 generalize W1.alloc _=W2 at *
 generalize W1.heap.size=p at *
 clear HZ HB0
 obtain ⟨⟨k0,k1,k2,k3,k4,k5,k6,k7⟩,m0,m1,m2,m3,m4,m5,m6,m7⟩:=zag HX.out.blk
 obtain ⟨⟨n0,n1,n2,n3,n4,n5,n6,n7⟩,-⟩:=zag HX.out.no
 go_wp2_with (go_at_call 126;refine (HDL.out _).mono ?_;rintro e w' ⟨rfl,rfl⟩)
 refine bodyPost_ret (zaa rfl _ _ r 111 _ (0,0) _ rfl (set8 HX.out.blk _ _ _ _ _ _ _ _) Tryz.underlying111 rfl zao _ rfl) rfl ?_
 exact zaq (x:={ kind:=0 }) HX.out.bel HX.out.wr HV.out _ _ _ _ _ _ _ _
theorem zfm {w:World} {a:Option Addr} {cap:Nat} {bs:List UInt8} (hr:Row w 1 a bs.length cap (bs.map u8C)) (hn:bs.length≤400000) {k:Int} (last:Bool) (hk0:0≤k) (hk1:k≤bs.length) {f:Nat} (hf:zaC bs k=f) (hfl:f<bs.length) {V:Tk×Int×Int×Int} (hV:V=zbf bs f last) (hreg:isRg (bs.getD f 0)=true) (h1:f+runN (bs.drop f)≠bs.length) (hd:48≤(bs.getD f 0).toNat∧(bs.getD f 0).toNat≤57) :
   Calls Tryz.prog 84 #[.slice a bs.length cap,.int .i64 k,.bool last] w (zaz w V):=by
 have HT:=Lib.hid (show tokV last (bs.getD f 0) (bs.drop (f+1))=_ from zbm (X:=⟨none,0,bs,last⟩) (k:=f) hfl hreg)
 have hnl:¬(runN ((⟨none,0,bs,last⟩:Src).bs.drop f)=((⟨none,0,bs,last⟩:Src).bs.drop f).length∧(⟨none,0,bs,last⟩:Src).last=false):=by
   show ¬(runN (bs.drop f)=(bs.drop f).length∧last=false)
   rw [List.length_drop]
   intro h;exact h1 (by omega)
 have hnum:(isDg (bs.getD f 0)=true∨bs.getD f 0=43∨bs.getD f 0=45∨bs.getD f 0=46):=by
   exact .inl (by unfold isDg;simp;exact hd)
 have ht:=HT.out
 unfold rgV at ht
 rw [if_neg hnl,if_pos hnum] at ht
 rw [List.drop_drop] at ht
 clear HT hnl hnum
 obtain ⟨P,hP⟩:∃P,zaK (regs (bs.drop f))=P:=⟨_,rfl⟩
 have ht2:tokV last (bs.getD f 0) (bs.drop (f+1))=(P.2.2,{ kind:=1,vk:=P.1,vn:=P.2.1 },bs.drop (f+runN (bs.drop f))):=by rw [←hP];exact ht
 have HP:=Lib.hid hP
 have HT:=Lib.hid ht2
 clear ht ht2 hP
 have HVV:=Lib.hid hV
 have HFL:=Lib.hid hfl
 have hdl:isDl (bs.getD f 0)=false:=by
   have h:=hreg
   unfold isRg at h
   cases hh:isDl (bs.getD f 0) with
   | false=>rfl
   | true=>rw [hh] at h;simp at h
 have n91:bs.getD f 0≠91:=fun e=>by rw [e] at hreg;exact absurd hreg (by decide)
 have n93:bs.getD f 0≠93:=fun e=>by rw [e] at hreg;exact absurd hreg (by decide)
 have n60:bs.getD f 0≠60:=fun e=>by rw [e] at hreg;exact absurd hreg (by decide)
 have n62:bs.getD f 0≠62:=fun e=>by rw [e] at hreg;exact absurd hreg (by decide)
 have n40:bs.getD f 0≠40:=fun e=>by rw [e] at hreg;exact absurd hreg (by decide)
 have n47:bs.getD f 0≠47:=fun e=>by rw [e] at hreg;exact absurd hreg (by decide)
 have e91:=zar n91 91 rfl
 have e93:=zar n93 93 rfl
 have e60:=zar n60 60 rfl
 have e62:=zar n62 62 rfl
 have e40:=zar n40 40 rfl
 have e47:=zar n47 47 rfl
 obtain ⟨b,off,R,r,x,rfl,hbW,hx,hR,hRL,hrr,hcap,hcm,hkd,hkd2,hff,hffn,hfi,hf9,hrl,hS,hRN,hc,hcf,hZ,hB0⟩:=zax hr hn hk0 hk1 hf hfl
 have HRW:=Lib.hid hr
 have HC:=Lib.hid hc
 have HS:=Lib.hid hS
 have HRN:=Lib.hid hRN
 have HRR:=Lib.hid hR
 have HRL:=Lib.hid hRL
 have HRE:=Lib.hid hrr
 have HZ:=Lib.hid hZ
 have HB0:=Lib.hid hB0
 clear hS hRN hRL hZ hB0
 have HDL:=Lib.hid (fun W=>zaM (bs.getD f 0).toNat W)
 rw [←zbH,hdl] at HDL
 rw [hx] at HDL e91 e93 e60 e62 e40 e47
 clear n91 n93 n60 n62 n40 n47 hdl hreg
 rw [←hR] at HT
 have hRt:(bs.drop f).take (R-f)=regs (bs.drop f):=by rw [za1,hR,Nat.add_sub_cancel_left]
 have HRT:=Lib.hid hRt
 have hrt:=zbd (bs.drop f)
 have hRf:f≤R:=by omega
 have hRl2:R≤bs.length:=HRL.out
 have hcf1:¬cap=f:=by omega
 have HRlen:=Lib.hid (show (regs (bs.drop f)).length≤400000 by show runN _≤_;omega)
 clear hRt hrt
 rw [hx] at hd
 have d1:decide ((48:Int)≤x)=true:=decide_eq_true (by omega)
 have d2:decide ((x:Int)≤57)=true:=decide_eq_true (by omega)
 clear hd
 have q1:((R:Int)==(bs.length:Int))=false:=by rw [beq_eq_false_iff_ne];omega
 have q2:decide (R=bs.length)=false:=decide_eq_false (by omega)
 clear h1
 clear hr hf hR hrr hrl hk0 hk1 hc hV hx
 go_enter Tryz.func84,Tryz.ntmps84
 go_wp2_with fail
 refine (HS.out _ HB0.out).mono ?_
 rintro e w' ⟨rfl,rfl⟩
 rw [←HRE.out]
 generalize w.alloc _=W1 at *
 obtain ⟨hcj1,hcj,hbn,hbl,hX⟩:=zas hbW HRE.out HB0.out hcf HZ.out
 have HX:=Lib.hid hX
 clear hcf hX
 go_wp2_with fail
 refine (HRN.out _ HX.out.bel).mono ?_
 rintro e w' ⟨rfl,rfl⟩
 clear hcj1 hcj hbn hbl
 generalize W1.alloc _=W2 at *
 generalize W1.heap.size=p at *
 clear HZ HB0
 have hcv:(convert 22 9 (.slice (some ⟨b,off+f,none⟩) (R-f) (cap-f))).run Tryz.prog W2=.ok (.string (mkB ((bs.drop f).take (R-f)))) W2:=zaP (X:=⟨none,0,bs,true⟩) HC.out f (R-f) (by have:=HRL.out;show f+_≤bs.length;omega) W2 HX.out.bel
 rw [HRT.out] at hcv
 obtain ⟨s,hs⟩:∃s,mkB (regs (bs.drop f))=s:=⟨_,rfl⟩
 have hsb:bl s=regs (bs.drop f):=by rw [←hs];rfl
 have HPA:=Lib.hid (zbu s W2 (by rw [←zaA,hsb];exact HRlen.out))
 rw [hsb,HP.out] at HPA
 rw [hs] at hcv
 unfold zbl valC za6 at HPA
 clear hs hsb
 go_wp2_with (go_at_call 126;refine (HDL.out _).mono ?_;rintro e w' ⟨rfl,rfl⟩)
 refine HPA.out.mono ?_
 rintro e w3 ⟨rfl,hb3⟩
 have HX3:=Lib.hid ((HX.out.on hb3).alloc (.cells #[.int .i64 P.1,.int .i64 P.2.1,.string ⟨#[]⟩,.slice none 0 0] 27))
 clear hb3 hcv HPA
 by_cases her:P.2.2=0
 · have HV:=Lib.hid (HVV.out.trans (zaY HFL.out rfl (x:={ kind:=1,vk:=P.1,vn:=P.2.1 }) (j:=R) (by rw [HT.out,her]) HRL.out))
   rw [her]
   clear her
   obtain ⟨⟨k0,k1,k2,k3,k4,k5,k6,k7⟩,m0,m1,m2,m3,m4,m5,m6,m7⟩:=zag HX3.out.blk
   obtain ⟨⟨n0,n1,n2,n3,n4,n5,n6,n7⟩,-⟩:=zag HX3.out.no
   go_wp2
   refine bodyPost_ret (zaa rfl _ _ r 111 _ (0,0) _ rfl (set8 HX3.out.blk _ _ _ _ _ _ _ _) Tryz.underlying111 rfl zao _ rfl) rfl ?_
   exact zaq (x:={ kind:=1,vk:=P.1,vn:=P.2.1 }) HX3.out.bel HX3.out.wr HV.out _ _ _ _ _ _ _ _
 · have HV:=Lib.hid (HVV.out.trans (zaU (e:=P.2.2) HFL.out rfl (by rw [HT.out]) her))
   have er1:(P.2.2==0)=false:=by rw [beq_eq_false_iff_ne];exact her
   have er2:(P.2.2 != 0)=true:=by simp only [bne,er1,Bool.not_false]
   clear her
   obtain ⟨⟨k0,k1,k2,k3,k4,k5,k6,k7⟩,m0,m1,m2,m3,m4,m5,m6,m7⟩:=zag HX3.out.blk
   obtain ⟨⟨n0,n1,n2,n3,n4,n5,n6,n7⟩,-⟩:=zag HX3.out.no
   go_wp2
   refine bodyPost_ret (zaa rfl _ _ r 111 _ (0,0) _ rfl (set8 HX3.out.blk _ _ _ _ _ _ _ _) Tryz.underlying111 rfl zao _ rfl) rfl ?_
   exact zaq (x:={ kind:=0 }) HX3.out.bel HX3.out.wr HV.out _ _ _ _ _ _ _ _
theorem rnext_43_in {w:World} {a:Option Addr} {cap:Nat} {bs:List UInt8} (hr:Row w 1 a bs.length cap (bs.map u8C)) (hn:bs.length≤400000) {k:Int} (last:Bool) (hk0:0≤k) (hk1:k≤bs.length) {f:Nat} (hf:zaC bs k=f) (hfl:f<bs.length) {V:Tk×Int×Int×Int} (hV:V=zbf bs f last) (hreg:isRg (bs.getD f 0)=true) (h1:f+runN (bs.drop f)≠bs.length) (hc0:bs.getD f 0=43) :
   Calls Tryz.prog 84 #[.slice a bs.length cap,.int .i64 k,.bool last] w (zaz w V):=by
 have HT:=Lib.hid (show tokV last (bs.getD f 0) (bs.drop (f+1))=_ from zbm (X:=⟨none,0,bs,last⟩) (k:=f) hfl hreg)
 have hnl:¬(runN ((⟨none,0,bs,last⟩:Src).bs.drop f)=((⟨none,0,bs,last⟩:Src).bs.drop f).length∧(⟨none,0,bs,last⟩:Src).last=false):=by
   show ¬(runN (bs.drop f)=(bs.drop f).length∧last=false)
   rw [List.length_drop]
   intro h;exact h1 (by omega)
 have hnum:(isDg (bs.getD f 0)=true∨bs.getD f 0=43∨bs.getD f 0=45∨bs.getD f 0=46):=by
   exact .inr (.inl hc0)
 have ht:=HT.out
 unfold rgV at ht
 rw [if_neg hnl,if_pos hnum] at ht
 rw [List.drop_drop] at ht
 clear HT hnl hnum
 obtain ⟨P,hP⟩:∃P,zaK (regs (bs.drop f))=P:=⟨_,rfl⟩
 have ht2:tokV last (bs.getD f 0) (bs.drop (f+1))=(P.2.2,{ kind:=1,vk:=P.1,vn:=P.2.1 },bs.drop (f+runN (bs.drop f))):=by rw [←hP];exact ht
 have HP:=Lib.hid hP
 have HT:=Lib.hid ht2
 clear ht ht2 hP
 have HVV:=Lib.hid hV
 have HFL:=Lib.hid hfl
 have hdl:isDl (bs.getD f 0)=false:=by
   have h:=hreg
   unfold isRg at h
   cases hh:isDl (bs.getD f 0) with
   | false=>rfl
   | true=>rw [hh] at h;simp at h
 have n91:bs.getD f 0≠91:=fun e=>by rw [e] at hreg;exact absurd hreg (by decide)
 have n93:bs.getD f 0≠93:=fun e=>by rw [e] at hreg;exact absurd hreg (by decide)
 have n60:bs.getD f 0≠60:=fun e=>by rw [e] at hreg;exact absurd hreg (by decide)
 have n62:bs.getD f 0≠62:=fun e=>by rw [e] at hreg;exact absurd hreg (by decide)
 have n40:bs.getD f 0≠40:=fun e=>by rw [e] at hreg;exact absurd hreg (by decide)
 have n47:bs.getD f 0≠47:=fun e=>by rw [e] at hreg;exact absurd hreg (by decide)
 have e91:=zar n91 91 rfl
 have e93:=zar n93 93 rfl
 have e60:=zar n60 60 rfl
 have e62:=zar n62 62 rfl
 have e40:=zar n40 40 rfl
 have e47:=zar n47 47 rfl
 obtain ⟨b,off,R,r,x,rfl,hbW,hx,hR,hRL,hrr,hcap,hcm,hkd,hkd2,hff,hffn,hfi,hf9,hrl,hS,hRN,hc,hcf,hZ,hB0⟩:=zax hr hn hk0 hk1 hf hfl
 have HRW:=Lib.hid hr
 have HC:=Lib.hid hc
 have HS:=Lib.hid hS
 have HRN:=Lib.hid hRN
 have HRR:=Lib.hid hR
 have HRL:=Lib.hid hRL
 have HRE:=Lib.hid hrr
 have HZ:=Lib.hid hZ
 have HB0:=Lib.hid hB0
 clear hS hRN hRL hZ hB0
 have HDL:=Lib.hid (fun W=>zaM (bs.getD f 0).toNat W)
 rw [←zbH,hdl] at HDL
 rw [hx] at HDL e91 e93 e60 e62 e40 e47
 clear n91 n93 n60 n62 n40 n47 hdl hreg
 rw [←hR] at HT
 have hRt:(bs.drop f).take (R-f)=regs (bs.drop f):=by rw [za1,hR,Nat.add_sub_cancel_left]
 have HRT:=Lib.hid hRt
 have hrt:=zbd (bs.drop f)
 have hRf:f≤R:=by omega
 have hRl2:R≤bs.length:=HRL.out
 have hcf1:¬cap=f:=by omega
 have HRlen:=Lib.hid (show (regs (bs.drop f)).length≤400000 by show runN _≤_;omega)
 clear hRt hrt
 obtain rfl:x=43:=by rw [←hx,hc0];rfl
 clear hc0
 have q1:((R:Int)==(bs.length:Int))=false:=by rw [beq_eq_false_iff_ne];omega
 have q2:decide (R=bs.length)=false:=decide_eq_false (by omega)
 clear h1
 clear hr hf hR hrr hrl hk0 hk1 hc hV hx
 go_enter Tryz.func84,Tryz.ntmps84
 go_wp2_with fail
 refine (HS.out _ HB0.out).mono ?_
 rintro e w' ⟨rfl,rfl⟩
 rw [←HRE.out]
 generalize w.alloc _=W1 at *
 obtain ⟨hcj1,hcj,hbn,hbl,hX⟩:=zas hbW HRE.out HB0.out hcf HZ.out
 have HX:=Lib.hid hX
 clear hcf hX
 go_wp2_with fail
 refine (HRN.out _ HX.out.bel).mono ?_
 rintro e w' ⟨rfl,rfl⟩
 clear hcj1 hcj hbn hbl
 generalize W1.alloc _=W2 at *
 generalize W1.heap.size=p at *
 clear HZ HB0
 have hcv:(convert 22 9 (.slice (some ⟨b,off+f,none⟩) (R-f) (cap-f))).run Tryz.prog W2=.ok (.string (mkB ((bs.drop f).take (R-f)))) W2:=zaP (X:=⟨none,0,bs,true⟩) HC.out f (R-f) (by have:=HRL.out;show f+_≤bs.length;omega) W2 HX.out.bel
 rw [HRT.out] at hcv
 obtain ⟨s,hs⟩:∃s,mkB (regs (bs.drop f))=s:=⟨_,rfl⟩
 have hsb:bl s=regs (bs.drop f):=by rw [←hs];rfl
 have HPA:=Lib.hid (zbu s W2 (by rw [←zaA,hsb];exact HRlen.out))
 rw [hsb,HP.out] at HPA
 rw [hs] at hcv
 unfold zbl valC za6 at HPA
 clear hs hsb
 go_wp2_with (go_at_call 126;refine (HDL.out _).mono ?_;rintro e w' ⟨rfl,rfl⟩)
 refine HPA.out.mono ?_
 rintro e w3 ⟨rfl,hb3⟩
 have HX3:=Lib.hid ((HX.out.on hb3).alloc (.cells #[.int .i64 P.1,.int .i64 P.2.1,.string ⟨#[]⟩,.slice none 0 0] 27))
 clear hb3 hcv HPA
 by_cases her:P.2.2=0
 · have HV:=Lib.hid (HVV.out.trans (zaY HFL.out rfl (x:={ kind:=1,vk:=P.1,vn:=P.2.1 }) (j:=R) (by rw [HT.out,her]) HRL.out))
   rw [her]
   clear her
   obtain ⟨⟨k0,k1,k2,k3,k4,k5,k6,k7⟩,m0,m1,m2,m3,m4,m5,m6,m7⟩:=zag HX3.out.blk
   obtain ⟨⟨n0,n1,n2,n3,n4,n5,n6,n7⟩,-⟩:=zag HX3.out.no
   go_wp2
   refine bodyPost_ret (zaa rfl _ _ r 111 _ (0,0) _ rfl (set8 HX3.out.blk _ _ _ _ _ _ _ _) Tryz.underlying111 rfl zao _ rfl) rfl ?_
   exact zaq (x:={ kind:=1,vk:=P.1,vn:=P.2.1 }) HX3.out.bel HX3.out.wr HV.out _ _ _ _ _ _ _ _
 · have HV:=Lib.hid (HVV.out.trans (zaU (e:=P.2.2) HFL.out rfl (by rw [HT.out]) her))
   have er1:(P.2.2==0)=false:=by rw [beq_eq_false_iff_ne];exact her
   have er2:(P.2.2 != 0)=true:=by simp only [bne,er1,Bool.not_false]
   clear her
   obtain ⟨⟨k0,k1,k2,k3,k4,k5,k6,k7⟩,m0,m1,m2,m3,m4,m5,m6,m7⟩:=zag HX3.out.blk
   obtain ⟨⟨n0,n1,n2,n3,n4,n5,n6,n7⟩,-⟩:=zag HX3.out.no
   go_wp2
   refine bodyPost_ret (zaa rfl _ _ r 111 _ (0,0) _ rfl (set8 HX3.out.blk _ _ _ _ _ _ _ _) Tryz.underlying111 rfl zao _ rfl) rfl ?_
   exact zaq (x:={ kind:=0 }) HX3.out.bel HX3.out.wr HV.out _ _ _ _ _ _ _ _
theorem rnext_45_in {w:World} {a:Option Addr} {cap:Nat} {bs:List UInt8} (hr:Row w 1 a bs.length cap (bs.map u8C)) (hn:bs.length≤400000) {k:Int} (last:Bool) (hk0:0≤k) (hk1:k≤bs.length) {f:Nat} (hf:zaC bs k=f) (hfl:f<bs.length) {V:Tk×Int×Int×Int} (hV:V=zbf bs f last) (hreg:isRg (bs.getD f 0)=true) (h1:f+runN (bs.drop f)≠bs.length) (hc0:bs.getD f 0=45) :
   Calls Tryz.prog 84 #[.slice a bs.length cap,.int .i64 k,.bool last] w (zaz w V):=by
 have HT:=Lib.hid (show tokV last (bs.getD f 0) (bs.drop (f+1))=_ from zbm (X:=⟨none,0,bs,last⟩) (k:=f) hfl hreg)
 have hnl:¬(runN ((⟨none,0,bs,last⟩:Src).bs.drop f)=((⟨none,0,bs,last⟩:Src).bs.drop f).length∧(⟨none,0,bs,last⟩:Src).last=false):=by
   show ¬(runN (bs.drop f)=(bs.drop f).length∧last=false)
   rw [List.length_drop]
   intro h;exact h1 (by omega)
 have hnum:(isDg (bs.getD f 0)=true∨bs.getD f 0=43∨bs.getD f 0=45∨bs.getD f 0=46):=by
   exact .inr (.inr (.inl hc0))
 have ht:=HT.out
 unfold rgV at ht
 rw [if_neg hnl,if_pos hnum] at ht
 rw [List.drop_drop] at ht
 clear HT hnl hnum
 obtain ⟨P,hP⟩:∃P,zaK (regs (bs.drop f))=P:=⟨_,rfl⟩
 have ht2:tokV last (bs.getD f 0) (bs.drop (f+1))=(P.2.2,{ kind:=1,vk:=P.1,vn:=P.2.1 },bs.drop (f+runN (bs.drop f))):=by rw [←hP];exact ht
 have HP:=Lib.hid hP
 have HT:=Lib.hid ht2
 clear ht ht2 hP
 have HVV:=Lib.hid hV
 have HFL:=Lib.hid hfl
 have hdl:isDl (bs.getD f 0)=false:=by
   have h:=hreg
   unfold isRg at h
   cases hh:isDl (bs.getD f 0) with
   | false=>rfl
   | true=>rw [hh] at h;simp at h
 have n91:bs.getD f 0≠91:=fun e=>by rw [e] at hreg;exact absurd hreg (by decide)
 have n93:bs.getD f 0≠93:=fun e=>by rw [e] at hreg;exact absurd hreg (by decide)
 have n60:bs.getD f 0≠60:=fun e=>by rw [e] at hreg;exact absurd hreg (by decide)
 have n62:bs.getD f 0≠62:=fun e=>by rw [e] at hreg;exact absurd hreg (by decide)
 have n40:bs.getD f 0≠40:=fun e=>by rw [e] at hreg;exact absurd hreg (by decide)
 have n47:bs.getD f 0≠47:=fun e=>by rw [e] at hreg;exact absurd hreg (by decide)
 have e91:=zar n91 91 rfl
 have e93:=zar n93 93 rfl
 have e60:=zar n60 60 rfl
 have e62:=zar n62 62 rfl
 have e40:=zar n40 40 rfl
 have e47:=zar n47 47 rfl
 obtain ⟨b,off,R,r,x,rfl,hbW,hx,hR,hRL,hrr,hcap,hcm,hkd,hkd2,hff,hffn,hfi,hf9,hrl,hS,hRN,hc,hcf,hZ,hB0⟩:=zax hr hn hk0 hk1 hf hfl
 have HRW:=Lib.hid hr
 have HC:=Lib.hid hc
 have HS:=Lib.hid hS
 have HRN:=Lib.hid hRN
 have HRR:=Lib.hid hR
 have HRL:=Lib.hid hRL
 have HRE:=Lib.hid hrr
 have HZ:=Lib.hid hZ
 have HB0:=Lib.hid hB0
 clear hS hRN hRL hZ hB0
 have HDL:=Lib.hid (fun W=>zaM (bs.getD f 0).toNat W)
 rw [←zbH,hdl] at HDL
 rw [hx] at HDL e91 e93 e60 e62 e40 e47
 clear n91 n93 n60 n62 n40 n47 hdl hreg
 rw [←hR] at HT
 have hRt:(bs.drop f).take (R-f)=regs (bs.drop f):=by rw [za1,hR,Nat.add_sub_cancel_left]
 have HRT:=Lib.hid hRt
 have hrt:=zbd (bs.drop f)
 have hRf:f≤R:=by omega
 have hRl2:R≤bs.length:=HRL.out
 have hcf1:¬cap=f:=by omega
 have HRlen:=Lib.hid (show (regs (bs.drop f)).length≤400000 by show runN _≤_;omega)
 clear hRt hrt
 obtain rfl:x=45:=by rw [←hx,hc0];rfl
 clear hc0
 have q1:((R:Int)==(bs.length:Int))=false:=by rw [beq_eq_false_iff_ne];omega
 have q2:decide (R=bs.length)=false:=decide_eq_false (by omega)
 clear h1
 clear hr hf hR hrr hrl hk0 hk1 hc hV hx
 go_enter Tryz.func84,Tryz.ntmps84
 go_wp2_with fail
 refine (HS.out _ HB0.out).mono ?_
 rintro e w' ⟨rfl,rfl⟩
 rw [←HRE.out]
 generalize w.alloc _=W1 at *
 obtain ⟨hcj1,hcj,hbn,hbl,hX⟩:=zas hbW HRE.out HB0.out hcf HZ.out
 have HX:=Lib.hid hX
 clear hcf hX
 go_wp2_with fail
 refine (HRN.out _ HX.out.bel).mono ?_
 rintro e w' ⟨rfl,rfl⟩
 clear hcj1 hcj hbn hbl
 generalize W1.alloc _=W2 at *
 generalize W1.heap.size=p at *
 clear HZ HB0
 have hcv:(convert 22 9 (.slice (some ⟨b,off+f,none⟩) (R-f) (cap-f))).run Tryz.prog W2=.ok (.string (mkB ((bs.drop f).take (R-f)))) W2:=zaP (X:=⟨none,0,bs,true⟩) HC.out f (R-f) (by have:=HRL.out;show f+_≤bs.length;omega) W2 HX.out.bel
 rw [HRT.out] at hcv
 obtain ⟨s,hs⟩:∃s,mkB (regs (bs.drop f))=s:=⟨_,rfl⟩
 have hsb:bl s=regs (bs.drop f):=by rw [←hs];rfl
 have HPA:=Lib.hid (zbu s W2 (by rw [←zaA,hsb];exact HRlen.out))
 rw [hsb,HP.out] at HPA
 rw [hs] at hcv
 unfold zbl valC za6 at HPA
 clear hs hsb
 go_wp2_with (go_at_call 126;refine (HDL.out _).mono ?_;rintro e w' ⟨rfl,rfl⟩)
 refine HPA.out.mono ?_
 rintro e w3 ⟨rfl,hb3⟩
 have HX3:=Lib.hid ((HX.out.on hb3).alloc (.cells #[.int .i64 P.1,.int .i64 P.2.1,.string ⟨#[]⟩,.slice none 0 0] 27))
 clear hb3 hcv HPA
 by_cases her:P.2.2=0
 · have HV:=Lib.hid (HVV.out.trans (zaY HFL.out rfl (x:={ kind:=1,vk:=P.1,vn:=P.2.1 }) (j:=R) (by rw [HT.out,her]) HRL.out))
   rw [her]
   clear her
   obtain ⟨⟨k0,k1,k2,k3,k4,k5,k6,k7⟩,m0,m1,m2,m3,m4,m5,m6,m7⟩:=zag HX3.out.blk
   obtain ⟨⟨n0,n1,n2,n3,n4,n5,n6,n7⟩,-⟩:=zag HX3.out.no
   go_wp2
   refine bodyPost_ret (zaa rfl _ _ r 111 _ (0,0) _ rfl (set8 HX3.out.blk _ _ _ _ _ _ _ _) Tryz.underlying111 rfl zao _ rfl) rfl ?_
   exact zaq (x:={ kind:=1,vk:=P.1,vn:=P.2.1 }) HX3.out.bel HX3.out.wr HV.out _ _ _ _ _ _ _ _
 · have HV:=Lib.hid (HVV.out.trans (zaU (e:=P.2.2) HFL.out rfl (by rw [HT.out]) her))
   have er1:(P.2.2==0)=false:=by rw [beq_eq_false_iff_ne];exact her
   have er2:(P.2.2 != 0)=true:=by simp only [bne,er1,Bool.not_false]
   clear her
   obtain ⟨⟨k0,k1,k2,k3,k4,k5,k6,k7⟩,m0,m1,m2,m3,m4,m5,m6,m7⟩:=zag HX3.out.blk
   obtain ⟨⟨n0,n1,n2,n3,n4,n5,n6,n7⟩,-⟩:=zag HX3.out.no
   go_wp2
   refine bodyPost_ret (zaa rfl _ _ r 111 _ (0,0) _ rfl (set8 HX3.out.blk _ _ _ _ _ _ _ _) Tryz.underlying111 rfl zao _ rfl) rfl ?_
   exact zaq (x:={ kind:=0 }) HX3.out.bel HX3.out.wr HV.out _ _ _ _ _ _ _ _
theorem rnext_46_in {w:World} {a:Option Addr} {cap:Nat} {bs:List UInt8} (hr:Row w 1 a bs.length cap (bs.map u8C)) (hn:bs.length≤400000) {k:Int} (last:Bool) (hk0:0≤k) (hk1:k≤bs.length) {f:Nat} (hf:zaC bs k=f) (hfl:f<bs.length) {V:Tk×Int×Int×Int} (hV:V=zbf bs f last) (hreg:isRg (bs.getD f 0)=true) (h1:f+runN (bs.drop f)≠bs.length) (hc0:bs.getD f 0=46) :
   Calls Tryz.prog 84 #[.slice a bs.length cap,.int .i64 k,.bool last] w (zaz w V):=by
 have HT:=Lib.hid (show tokV last (bs.getD f 0) (bs.drop (f+1))=_ from zbm (X:=⟨none,0,bs,last⟩) (k:=f) hfl hreg)
 have hnl:¬(runN ((⟨none,0,bs,last⟩:Src).bs.drop f)=((⟨none,0,bs,last⟩:Src).bs.drop f).length∧(⟨none,0,bs,last⟩:Src).last=false):=by
   show ¬(runN (bs.drop f)=(bs.drop f).length∧last=false)
   rw [List.length_drop]
   intro h;exact h1 (by omega)
 have hnum:(isDg (bs.getD f 0)=true∨bs.getD f 0=43∨bs.getD f 0=45∨bs.getD f 0=46):=by
   exact .inr (.inr (.inr hc0))
 have ht:=HT.out
 unfold rgV at ht
 rw [if_neg hnl,if_pos hnum] at ht
 rw [List.drop_drop] at ht
 clear HT hnl hnum
 obtain ⟨P,hP⟩:∃P,zaK (regs (bs.drop f))=P:=⟨_,rfl⟩
 have ht2:tokV last (bs.getD f 0) (bs.drop (f+1))=(P.2.2,{ kind:=1,vk:=P.1,vn:=P.2.1 },bs.drop (f+runN (bs.drop f))):=by rw [←hP];exact ht
 have HP:=Lib.hid hP
 have HT:=Lib.hid ht2
 clear ht ht2 hP
 have HVV:=Lib.hid hV
 have HFL:=Lib.hid hfl
 have hdl:isDl (bs.getD f 0)=false:=by
   have h:=hreg
   unfold isRg at h
   cases hh:isDl (bs.getD f 0) with
   | false=>rfl
   | true=>rw [hh] at h;simp at h
 have n91:bs.getD f 0≠91:=fun e=>by rw [e] at hreg;exact absurd hreg (by decide)
 have n93:bs.getD f 0≠93:=fun e=>by rw [e] at hreg;exact absurd hreg (by decide)
 have n60:bs.getD f 0≠60:=fun e=>by rw [e] at hreg;exact absurd hreg (by decide)
 have n62:bs.getD f 0≠62:=fun e=>by rw [e] at hreg;exact absurd hreg (by decide)
 have n40:bs.getD f 0≠40:=fun e=>by rw [e] at hreg;exact absurd hreg (by decide)
 have n47:bs.getD f 0≠47:=fun e=>by rw [e] at hreg;exact absurd hreg (by decide)
 have e91:=zar n91 91 rfl
 have e93:=zar n93 93 rfl
 have e60:=zar n60 60 rfl
 have e62:=zar n62 62 rfl
 have e40:=zar n40 40 rfl
 have e47:=zar n47 47 rfl
 obtain ⟨b,off,R,r,x,rfl,hbW,hx,hR,hRL,hrr,hcap,hcm,hkd,hkd2,hff,hffn,hfi,hf9,hrl,hS,hRN,hc,hcf,hZ,hB0⟩:=zax hr hn hk0 hk1 hf hfl
 have HRW:=Lib.hid hr
 have HC:=Lib.hid hc
 have HS:=Lib.hid hS
 have HRN:=Lib.hid hRN
 have HRR:=Lib.hid hR
 have HRL:=Lib.hid hRL
 have HRE:=Lib.hid hrr
 have HZ:=Lib.hid hZ
 have HB0:=Lib.hid hB0
 clear hS hRN hRL hZ hB0
 have HDL:=Lib.hid (fun W=>zaM (bs.getD f 0).toNat W)
 rw [←zbH,hdl] at HDL
 rw [hx] at HDL e91 e93 e60 e62 e40 e47
 clear n91 n93 n60 n62 n40 n47 hdl hreg
 rw [←hR] at HT
 have hRt:(bs.drop f).take (R-f)=regs (bs.drop f):=by rw [za1,hR,Nat.add_sub_cancel_left]
 have HRT:=Lib.hid hRt
 have hrt:=zbd (bs.drop f)
 have hRf:f≤R:=by omega
 have hRl2:R≤bs.length:=HRL.out
 have hcf1:¬cap=f:=by omega
 have HRlen:=Lib.hid (show (regs (bs.drop f)).length≤400000 by show runN _≤_;omega)
 clear hRt hrt
 obtain rfl:x=46:=by rw [←hx,hc0];rfl
 clear hc0
 have q1:((R:Int)==(bs.length:Int))=false:=by rw [beq_eq_false_iff_ne];omega
 have q2:decide (R=bs.length)=false:=decide_eq_false (by omega)
 clear h1
 clear hr hf hR hrr hrl hk0 hk1 hc hV hx
 go_enter Tryz.func84,Tryz.ntmps84
 go_wp2_with fail
 refine (HS.out _ HB0.out).mono ?_
 rintro e w' ⟨rfl,rfl⟩
 rw [←HRE.out]
 generalize w.alloc _=W1 at *
 obtain ⟨hcj1,hcj,hbn,hbl,hX⟩:=zas hbW HRE.out HB0.out hcf HZ.out
 have HX:=Lib.hid hX
 clear hcf hX
 go_wp2_with fail
 refine (HRN.out _ HX.out.bel).mono ?_
 rintro e w' ⟨rfl,rfl⟩
 clear hcj1 hcj hbn hbl
 generalize W1.alloc _=W2 at *
 generalize W1.heap.size=p at *
 clear HZ HB0
 have hcv:(convert 22 9 (.slice (some ⟨b,off+f,none⟩) (R-f) (cap-f))).run Tryz.prog W2=.ok (.string (mkB ((bs.drop f).take (R-f)))) W2:=zaP (X:=⟨none,0,bs,true⟩) HC.out f (R-f) (by have:=HRL.out;show f+_≤bs.length;omega) W2 HX.out.bel
 rw [HRT.out] at hcv
 obtain ⟨s,hs⟩:∃s,mkB (regs (bs.drop f))=s:=⟨_,rfl⟩
 have hsb:bl s=regs (bs.drop f):=by rw [←hs];rfl
 have HPA:=Lib.hid (zbu s W2 (by rw [←zaA,hsb];exact HRlen.out))
 rw [hsb,HP.out] at HPA
 rw [hs] at hcv
 unfold zbl valC za6 at HPA
 clear hs hsb
 go_wp2_with (go_at_call 126;refine (HDL.out _).mono ?_;rintro e w' ⟨rfl,rfl⟩)
 refine HPA.out.mono ?_
 rintro e w3 ⟨rfl,hb3⟩
 have HX3:=Lib.hid ((HX.out.on hb3).alloc (.cells #[.int .i64 P.1,.int .i64 P.2.1,.string ⟨#[]⟩,.slice none 0 0] 27))
 clear hb3 hcv HPA
 by_cases her:P.2.2=0
 · have HV:=Lib.hid (HVV.out.trans (zaY HFL.out rfl (x:={ kind:=1,vk:=P.1,vn:=P.2.1 }) (j:=R) (by rw [HT.out,her]) HRL.out))
   rw [her]
   clear her
   obtain ⟨⟨k0,k1,k2,k3,k4,k5,k6,k7⟩,m0,m1,m2,m3,m4,m5,m6,m7⟩:=zag HX3.out.blk
   obtain ⟨⟨n0,n1,n2,n3,n4,n5,n6,n7⟩,-⟩:=zag HX3.out.no
   go_wp2
   refine bodyPost_ret (zaa rfl _ _ r 111 _ (0,0) _ rfl (set8 HX3.out.blk _ _ _ _ _ _ _ _) Tryz.underlying111 rfl zao _ rfl) rfl ?_
   exact zaq (x:={ kind:=1,vk:=P.1,vn:=P.2.1 }) HX3.out.bel HX3.out.wr HV.out _ _ _ _ _ _ _ _
 · have HV:=Lib.hid (HVV.out.trans (zaU (e:=P.2.2) HFL.out rfl (by rw [HT.out]) her))
   have er1:(P.2.2==0)=false:=by rw [beq_eq_false_iff_ne];exact her
   have er2:(P.2.2 != 0)=true:=by simp only [bne,er1,Bool.not_false]
   clear her
   obtain ⟨⟨k0,k1,k2,k3,k4,k5,k6,k7⟩,m0,m1,m2,m3,m4,m5,m6,m7⟩:=zag HX3.out.blk
   obtain ⟨⟨n0,n1,n2,n3,n4,n5,n6,n7⟩,-⟩:=zag HX3.out.no
   go_wp2
   refine bodyPost_ret (zaa rfl _ _ r 111 _ (0,0) _ rfl (set8 HX3.out.blk _ _ _ _ _ _ _ _) Tryz.underlying111 rfl zao _ rfl) rfl ?_
   exact zaq (x:={ kind:=0 }) HX3.out.bel HX3.out.wr HV.out _ _ _ _ _ _ _ _
theorem rnext_low_in {w:World} {a:Option Addr} {cap:Nat} {bs:List UInt8} (hr:Row w 1 a bs.length cap (bs.map u8C)) (hn:bs.length≤400000) {k:Int} (last:Bool) (hk0:0≤k) (hk1:k≤bs.length) {f:Nat} (hf:zaC bs k=f) (hfl:f<bs.length) {V:Tk×Int×Int×Int} (hV:V=zbf bs f last) (hreg:isRg (bs.getD f 0)=true) (h1:f+runN (bs.drop f)≠bs.length) (hd:(bs.getD f 0).toNat<48∧bs.getD f 0≠43∧bs.getD f 0≠45∧bs.getD f 0≠46) :
   Calls Tryz.prog 84 #[.slice a bs.length cap,.int .i64 k,.bool last] w (zaz w V):=by
 have HT:=Lib.hid (show tokV last (bs.getD f 0) (bs.drop (f+1))=_ from zbm (X:=⟨none,0,bs,last⟩) (k:=f) hfl hreg)
 have hnl:¬(runN ((⟨none,0,bs,last⟩:Src).bs.drop f)=((⟨none,0,bs,last⟩:Src).bs.drop f).length∧(⟨none,0,bs,last⟩:Src).last=false):=by
   show ¬(runN (bs.drop f)=(bs.drop f).length∧last=false)
   rw [List.length_drop]
   intro h;exact h1 (by omega)
 have hnum:¬(isDg (bs.getD f 0)=true∨bs.getD f 0=43∨bs.getD f 0=45∨bs.getD f 0=46):=by
   rintro (h|h|h|h)
   · have h2:=zbc.1 h;have:=hd.1;omega
   · exact hd.2.1 h
   · exact hd.2.2.1 h
   · exact hd.2.2.2 h
 have ht:=HT.out
 unfold rgV at ht
 rw [if_neg hnl,if_neg hnum] at ht
 rw [List.drop_drop] at ht
 clear HT hnl hnum
 have HT:=Lib.hid (show tokV last (bs.getD f 0) (bs.drop (f+1))=(0,{ kind:=6,s:=regs (bs.drop f) },bs.drop (f+runN (bs.drop f))) from ht)
 clear ht
 have HVV:=Lib.hid hV
 have HFL:=Lib.hid hfl
 have hdl:isDl (bs.getD f 0)=false:=by
   have h:=hreg
   unfold isRg at h
   cases hh:isDl (bs.getD f 0) with
   | false=>rfl
   | true=>rw [hh] at h;simp at h
 have n91:bs.getD f 0≠91:=fun e=>by rw [e] at hreg;exact absurd hreg (by decide)
 have n93:bs.getD f 0≠93:=fun e=>by rw [e] at hreg;exact absurd hreg (by decide)
 have n60:bs.getD f 0≠60:=fun e=>by rw [e] at hreg;exact absurd hreg (by decide)
 have n62:bs.getD f 0≠62:=fun e=>by rw [e] at hreg;exact absurd hreg (by decide)
 have n40:bs.getD f 0≠40:=fun e=>by rw [e] at hreg;exact absurd hreg (by decide)
 have n47:bs.getD f 0≠47:=fun e=>by rw [e] at hreg;exact absurd hreg (by decide)
 have e91:=zar n91 91 rfl
 have e93:=zar n93 93 rfl
 have e60:=zar n60 60 rfl
 have e62:=zar n62 62 rfl
 have e40:=zar n40 40 rfl
 have e47:=zar n47 47 rfl
 have e43:=zar hd.2.1 43 rfl
 have e45:=zar hd.2.2.1 45 rfl
 have e46:=zar hd.2.2.2 46 rfl
 have hd0:=hd.1
 clear hd
 obtain ⟨b,off,R,r,x,rfl,hbW,hx,hR,hRL,hrr,hcap,hcm,hkd,hkd2,hff,hffn,hfi,hf9,hrl,hS,hRN,hc,hcf,hZ,hB0⟩:=zax hr hn hk0 hk1 hf hfl
 have HRW:=Lib.hid hr
 have HC:=Lib.hid hc
 have HS:=Lib.hid hS
 have HRN:=Lib.hid hRN
 have HRR:=Lib.hid hR
 have HRL:=Lib.hid hRL
 have HRE:=Lib.hid hrr
 have HZ:=Lib.hid hZ
 have HB0:=Lib.hid hB0
 clear hS hRN hRL hZ hB0
 have HDL:=Lib.hid (fun W=>zaM (bs.getD f 0).toNat W)
 rw [←zbH,hdl] at HDL
 rw [hx] at HDL e91 e93 e60 e62 e40 e47
 clear n91 n93 n60 n62 n40 n47 hdl hreg
 rw [←hR] at HT
 have hRt:(bs.drop f).take (R-f)=regs (bs.drop f):=by rw [za1,hR,Nat.add_sub_cancel_left]
 have HRT:=Lib.hid hRt
 have hrt:=zbd (bs.drop f)
 have hRf:f≤R:=by omega
 have hRl2:R≤bs.length:=HRL.out
 have hcf1:¬cap=f:=by omega
 have HRlen:=Lib.hid (show (regs (bs.drop f)).length≤400000 by show runN _≤_;omega)
 clear hRt hrt
 rw [hx] at hd0 e43 e45 e46
 have d1:decide ((48:Int)≤x)=false:=decide_eq_false (by omega)
 clear hd0
 have q1:((R:Int)==(bs.length:Int))=false:=by rw [beq_eq_false_iff_ne];omega
 have q2:decide (R=bs.length)=false:=decide_eq_false (by omega)
 clear h1
 clear hr hf hR hrr hrl hk0 hk1 hc hV hx
 go_enter Tryz.func84,Tryz.ntmps84
 go_wp2_with fail
 refine (HS.out _ HB0.out).mono ?_
 rintro e w' ⟨rfl,rfl⟩
 rw [←HRE.out]
 generalize w.alloc _=W1 at *
 obtain ⟨hcj1,hcj,hbn,hbl,hX⟩:=zas hbW HRE.out HB0.out hcf HZ.out
 have HX:=Lib.hid hX
 clear hcf hX
 go_wp2_with fail
 refine (HRN.out _ HX.out.bel).mono ?_
 rintro e w' ⟨rfl,rfl⟩
 clear hcj1 hcj hbn hbl
 generalize W1.alloc _=W2 at *
 generalize W1.heap.size=p at *
 clear HZ HB0
 have hcv:(convert 22 9 (.slice (some ⟨b,off+f,none⟩) (R-f) (cap-f))).run Tryz.prog W2=.ok (.string (mkB ((bs.drop f).take (R-f)))) W2:=zaP (X:=⟨none,0,bs,true⟩) HC.out f (R-f) (by have:=HRL.out;show f+_≤bs.length;omega) W2 HX.out.bel
 rw [HRT.out] at hcv
 have HV:=Lib.hid (HVV.out.trans (zaY HFL.out rfl (x:={ kind:=6,s:=regs (bs.drop f) }) (j:=R) HT.out HRL.out))
 obtain ⟨⟨k0,k1,k2,k3,k4,k5,k6,k7⟩,m0,m1,m2,m3,m4,m5,m6,m7⟩:=zag HX.out.blk
 obtain ⟨⟨n0,n1,n2,n3,n4,n5,n6,n7⟩,-⟩:=zag HX.out.no
 go_wp2_with (go_at_call 126;refine (HDL.out _).mono ?_;rintro e w' ⟨rfl,rfl⟩)
 refine bodyPost_ret (zaa rfl _ _ r 111 _ (0,0) _ rfl (set8 HX.out.blk _ _ _ _ _ _ _ _) Tryz.underlying111 rfl zao _ rfl) rfl ?_
 exact zaq (x:={ kind:=6,s:=regs (bs.drop f) }) HX.out.bel HX.out.wr HV.out _ _ _ _ _ _ _ _
theorem zfW {w:World} {a:Option Addr} {cap:Nat} {bs:List UInt8} (hr:Row w 1 a bs.length cap (bs.map u8C)) (hn:bs.length≤400000) {k:Int} (last:Bool) (hk0:0≤k) (hk1:k≤bs.length) {f:Nat} (hf:zaC bs k=f) (hfl:f<bs.length) {V:Tk×Int×Int×Int} (hV:V=zbf bs f last) (hreg:isRg (bs.getD f 0)=true) (h1:f+runN (bs.drop f)≠bs.length) (hd:57<(bs.getD f 0).toNat) :
   Calls Tryz.prog 84 #[.slice a bs.length cap,.int .i64 k,.bool last] w (zaz w V):=by
 have HT:=Lib.hid (show tokV last (bs.getD f 0) (bs.drop (f+1))=_ from zbm (X:=⟨none,0,bs,last⟩) (k:=f) hfl hreg)
 have hnl:¬(runN ((⟨none,0,bs,last⟩:Src).bs.drop f)=((⟨none,0,bs,last⟩:Src).bs.drop f).length∧(⟨none,0,bs,last⟩:Src).last=false):=by
   show ¬(runN (bs.drop f)=(bs.drop f).length∧last=false)
   rw [List.length_drop]
   intro h;exact h1 (by omega)
 have hnum:¬(isDg (bs.getD f 0)=true∨bs.getD f 0=43∨bs.getD f 0=45∨bs.getD f 0=46):=by
   rintro (h|h|h|h)
   · have h2:=zbc.1 h;omega
   · rw [h] at hd;exact absurd hd (by decide)
   · rw [h] at hd;exact absurd hd (by decide)
   · rw [h] at hd;exact absurd hd (by decide)
 have ht:=HT.out
 unfold rgV at ht
 rw [if_neg hnl,if_neg hnum] at ht
 rw [List.drop_drop] at ht
 clear HT hnl hnum
 have HT:=Lib.hid (show tokV last (bs.getD f 0) (bs.drop (f+1))=(0,{ kind:=6,s:=regs (bs.drop f) },bs.drop (f+runN (bs.drop f))) from ht)
 clear ht
 have HVV:=Lib.hid hV
 have HFL:=Lib.hid hfl
 have hdl:isDl (bs.getD f 0)=false:=by
   have h:=hreg
   unfold isRg at h
   cases hh:isDl (bs.getD f 0) with
   | false=>rfl
   | true=>rw [hh] at h;simp at h
 have n91:bs.getD f 0≠91:=fun e=>by rw [e] at hreg;exact absurd hreg (by decide)
 have n93:bs.getD f 0≠93:=fun e=>by rw [e] at hreg;exact absurd hreg (by decide)
 have n60:bs.getD f 0≠60:=fun e=>by rw [e] at hreg;exact absurd hreg (by decide)
 have n62:bs.getD f 0≠62:=fun e=>by rw [e] at hreg;exact absurd hreg (by decide)
 have n40:bs.getD f 0≠40:=fun e=>by rw [e] at hreg;exact absurd hreg (by decide)
 have n47:bs.getD f 0≠47:=fun e=>by rw [e] at hreg;exact absurd hreg (by decide)
 have e91:=zar n91 91 rfl
 have e93:=zar n93 93 rfl
 have e60:=zar n60 60 rfl
 have e62:=zar n62 62 rfl
 have e40:=zar n40 40 rfl
 have e47:=zar n47 47 rfl
 obtain ⟨b,off,R,r,x,rfl,hbW,hx,hR,hRL,hrr,hcap,hcm,hkd,hkd2,hff,hffn,hfi,hf9,hrl,hS,hRN,hc,hcf,hZ,hB0⟩:=zax hr hn hk0 hk1 hf hfl
 have HRW:=Lib.hid hr
 have HC:=Lib.hid hc
 have HS:=Lib.hid hS
 have HRN:=Lib.hid hRN
 have HRR:=Lib.hid hR
 have HRL:=Lib.hid hRL
 have HRE:=Lib.hid hrr
 have HZ:=Lib.hid hZ
 have HB0:=Lib.hid hB0
 clear hS hRN hRL hZ hB0
 have HDL:=Lib.hid (fun W=>zaM (bs.getD f 0).toNat W)
 rw [←zbH,hdl] at HDL
 rw [hx] at HDL e91 e93 e60 e62 e40 e47
 clear n91 n93 n60 n62 n40 n47 hdl hreg
 rw [←hR] at HT
 have hRt:(bs.drop f).take (R-f)=regs (bs.drop f):=by rw [za1,hR,Nat.add_sub_cancel_left]
 have HRT:=Lib.hid hRt
 have hrt:=zbd (bs.drop f)
 have hRf:f≤R:=by omega
 have hRl2:R≤bs.length:=HRL.out
 have hcf1:¬cap=f:=by omega
 have HRlen:=Lib.hid (show (regs (bs.drop f)).length≤400000 by show runN _≤_;omega)
 clear hRt hrt
 rw [hx] at hd
 have d1:decide ((48:Int)≤x)=true:=decide_eq_true (by omega)
 have d2:decide ((x:Int)≤57)=false:=decide_eq_false (by omega)
 have e43:((x:Int)==43)=false:=by rw [beq_eq_false_iff_ne];omega
 have e45:((x:Int)==45)=false:=by rw [beq_eq_false_iff_ne];omega
 have e46:((x:Int)==46)=false:=by rw [beq_eq_false_iff_ne];omega
 clear hd
 have q1:((R:Int)==(bs.length:Int))=false:=by rw [beq_eq_false_iff_ne];omega
 have q2:decide (R=bs.length)=false:=decide_eq_false (by omega)
 clear h1
 clear hr hf hR hrr hrl hk0 hk1 hc hV hx
 go_enter Tryz.func84,Tryz.ntmps84
 go_wp2_with fail
 refine (HS.out _ HB0.out).mono ?_
 rintro e w' ⟨rfl,rfl⟩
 rw [←HRE.out]
 generalize w.alloc _=W1 at *
 obtain ⟨hcj1,hcj,hbn,hbl,hX⟩:=zas hbW HRE.out HB0.out hcf HZ.out
 have HX:=Lib.hid hX
 clear hcf hX
 go_wp2_with fail
 refine (HRN.out _ HX.out.bel).mono ?_
 rintro e w' ⟨rfl,rfl⟩
 clear hcj1 hcj hbn hbl
 generalize W1.alloc _=W2 at *
 generalize W1.heap.size=p at *
 clear HZ HB0
 have hcv:(convert 22 9 (.slice (some ⟨b,off+f,none⟩) (R-f) (cap-f))).run Tryz.prog W2=.ok (.string (mkB ((bs.drop f).take (R-f)))) W2:=zaP (X:=⟨none,0,bs,true⟩) HC.out f (R-f) (by have:=HRL.out;show f+_≤bs.length;omega) W2 HX.out.bel
 rw [HRT.out] at hcv
 have HV:=Lib.hid (HVV.out.trans (zaY HFL.out rfl (x:={ kind:=6,s:=regs (bs.drop f) }) (j:=R) HT.out HRL.out))
 obtain ⟨⟨k0,k1,k2,k3,k4,k5,k6,k7⟩,m0,m1,m2,m3,m4,m5,m6,m7⟩:=zag HX.out.blk
 obtain ⟨⟨n0,n1,n2,n3,n4,n5,n6,n7⟩,-⟩:=zag HX.out.no
 go_wp2_with (go_at_call 126;refine (HDL.out _).mono ?_;rintro e w' ⟨rfl,rfl⟩)
 refine bodyPost_ret (zaa rfl _ _ r 111 _ (0,0) _ rfl (set8 HX.out.blk _ _ _ _ _ _ _ _) Tryz.underlying111 rfl zao _ rfl) rfl ?_
 exact zaq (x:={ kind:=6,s:=regs (bs.drop f) }) HX.out.bel HX.out.wr HV.out _ _ _ _ _ _ _ _
end Go.Proofs.YtfafdeemfeaedaaGreat
