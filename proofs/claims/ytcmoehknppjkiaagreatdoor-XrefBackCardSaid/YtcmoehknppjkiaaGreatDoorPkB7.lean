/-
  Our texts LexT to LexV3, in one.
-/
import Derived.Test.YtcmoehknppjkiaaGreatDoorPkB6
set_option maxRecDepth 8000
set_option maxHeartbeats 8000000
namespace Go.Proofs.YtcmoehknppjkiaaGreatDoor
open Go.RowKit
theorem rnext_91 {w:World} {a:Option Addr} {cap:Nat} {bs:List UInt8} (hr:Row w 1 a bs.length cap (bs.map u8C)) (hn:bs.length<=400000) {k:Int} (yq:Bool) (hk0:0<=k) (hk1:k<=bs.length) {f:Nat} (hf:zaL bs k=f) (hfl:f<bs.length) {V:Tk×Int×Int×Int} (hV:V=zbw bs f yq) (hc0:bs.getD f 0=91) :
  Calls Tryz.prog 66 #[.slice a bs.length cap,.int .i64 k,.bool yq] w (zaF w V):=by
 have HV:=yb (hV.trans (zbg (j:=f+1) hfl hc0 (tokV_91 yq _) (by omega)));obtain ⟨b,off,R,r,x,rfl,Qn,hx,hR,Qd,Qe,Qo,QG,QH,Qp,QI,Qq,QJ,QK,Qr,hS,Qf,hc,Qg,hZ,Qh⟩:=zaG hr hn hk0 hk1 hf hfl;have QC:=yb hr;have HC:=yb hc;have HS:=yb hS;have Qs:=yb Qf;have QL:=yb hR;have Qk:=yb Qd;have Qi:=yb Qe;have HZ:=yb hZ;have Qb:=yb Qh;clear hS Qf Qd hZ Qh;obtain rfl:x=91:=by rw [<-hx,hc0];rfl
 clear hr hf hR Qe Qr hk0 hk1 hc hV hx;go_enter Tryz.func66,Tryz.ntmps66
 go_wp2_with fail
 refine (HS.out _ Qb.out).mono ?_;rintro e w' ⟨rfl,rfl⟩;rw [<-Qi.out];generalize w.alloc _=W1 at *;obtain ⟨Qc,Qt,Qu,Qv,hX⟩:=zax Qn Qi.out Qb.out Qg HZ.out;have HX:=yb hX;clear Qg hX;go_wp2_with fail
 refine (Qs.out _ HX.out.bel).mono ?_;rintro e w' ⟨rfl,rfl⟩;clear Qc Qt Qu Qv;generalize W1.alloc _=W2 at *;generalize W1.heap.size=p at *;clear HZ Qb;obtain ⟨⟨k0,k1,k2,k3,k4,k5,k6,k7⟩,m0,m1,m2,m3,m4,m5,m6,m7⟩:=zah HX.out.blk;go_wp2;refine yi (zaa rfl _ _ r 81 _ (0,0) _ rfl (set8 HX.out.blk _ _ _ _ _ _ _ _) Tryz.underlying81 rfl zas _ rfl) rfl ?_;exact zau (x:={ kind:=2 }) HX.out.bel HX.out.wr HV.out _ _ _ _ _ _ _ _
theorem rnext_93 {w:World} {a:Option Addr} {cap:Nat} {bs:List UInt8} (hr:Row w 1 a bs.length cap (bs.map u8C)) (hn:bs.length<=400000) {k:Int} (yq:Bool) (hk0:0<=k) (hk1:k<=bs.length) {f:Nat} (hf:zaL bs k=f) (hfl:f<bs.length) {V:Tk×Int×Int×Int} (hV:V=zbw bs f yq) (hc0:bs.getD f 0=93) :
  Calls Tryz.prog 66 #[.slice a bs.length cap,.int .i64 k,.bool yq] w (zaF w V):=by
 have HV:=yb (hV.trans (zbg (j:=f+1) hfl hc0 (tokV_93 yq _) (by omega)));obtain ⟨b,off,R,r,x,rfl,Qn,hx,hR,Qd,Qe,Qo,QG,QH,Qp,QI,Qq,QJ,QK,Qr,hS,Qf,hc,Qg,hZ,Qh⟩:=zaG hr hn hk0 hk1 hf hfl;have QC:=yb hr;have HC:=yb hc;have HS:=yb hS;have Qs:=yb Qf;have QL:=yb hR;have Qk:=yb Qd;have Qi:=yb Qe;have HZ:=yb hZ;have Qb:=yb Qh;clear hS Qf Qd hZ Qh;obtain rfl:x=93:=by rw [<-hx,hc0];rfl
 clear hr hf hR Qe Qr hk0 hk1 hc hV hx;go_enter Tryz.func66,Tryz.ntmps66
 go_wp2_with fail
 refine (HS.out _ Qb.out).mono ?_;rintro e w' ⟨rfl,rfl⟩;rw [<-Qi.out];generalize w.alloc _=W1 at *;obtain ⟨Qc,Qt,Qu,Qv,hX⟩:=zax Qn Qi.out Qb.out Qg HZ.out;have HX:=yb hX;clear Qg hX;go_wp2_with fail
 refine (Qs.out _ HX.out.bel).mono ?_;rintro e w' ⟨rfl,rfl⟩;clear Qc Qt Qu Qv;generalize W1.alloc _=W2 at *;generalize W1.heap.size=p at *;clear HZ Qb;obtain ⟨⟨k0,k1,k2,k3,k4,k5,k6,k7⟩,m0,m1,m2,m3,m4,m5,m6,m7⟩:=zah HX.out.blk;go_wp2;refine yi (zaa rfl _ _ r 81 _ (0,0) _ rfl (set8 HX.out.blk _ _ _ _ _ _ _ _) Tryz.underlying81 rfl zas _ rfl) rfl ?_;exact zau (x:={ kind:=3 }) HX.out.bel HX.out.wr HV.out _ _ _ _ _ _ _ _
theorem rnext_6060 {w:World} {a:Option Addr} {cap:Nat} {bs:List UInt8} (hr:Row w 1 a bs.length cap (bs.map u8C)) (hn:bs.length<=400000) {k:Int} (yq:Bool) (hk0:0<=k) (hk1:k<=bs.length) {f:Nat} (hf:zaL bs k=f) (hfl:f<bs.length) {V:Tk×Int×Int×Int} (hV:V=zbw bs f yq) (hc0:bs.getD f 0=60) (h1:f+1<bs.length) (h2:bs.getD (f+1) 0=60) :
  Calls Tryz.prog 66 #[.slice a bs.length cap,.int .i64 k,.bool yq] w (zaF w V):=by
 have HV:=yb (hV.trans (zbg (j:=f+2) (x:={ kind:=4 }) hfl hc0 (by rw [zay h1,h2];rfl) (by omega)));obtain ⟨b,off,R,r,x,rfl,Qn,hx,hR,Qd,Qe,Qo,QG,QH,Qp,QI,Qq,QJ,QK,Qr,hS,Qf,hc,Qg,hZ,Qh⟩:=zaG hr hn hk0 hk1 hf hfl;have QC:=yb hr;have HC:=yb hc;have HS:=yb hS;have Qs:=yb Qf;have QL:=yb hR;have Qk:=yb Qd;have Qi:=yb Qe;have HZ:=yb hZ;have Qb:=yb Qh;clear hS Qf Qd hZ Qh;obtain rfl:x=60:=by rw [<-hx,hc0];rfl
 have QU:=hc (f+1) h1;rw [h2,show ((60:UInt8).toNat:Int)=60 from rfl] at QU;have QZ:=yb QU;have Q1:decide ((f:Int)+1<bs.length)=true:=yd (by omega);have Q0:(f:Int)+1<bs.length:=by omega
 clear QU h1 h2;clear hr hf hR Qe Qr hk0 hk1 hc hV hx;go_enter Tryz.func66,Tryz.ntmps66
 go_wp2_with fail
 refine (HS.out _ Qb.out).mono ?_;rintro e w' ⟨rfl,rfl⟩;rw [<-Qi.out];generalize w.alloc _=W1 at *;obtain ⟨Qc,Qt,Qu,Qv,hX⟩:=zax Qn Qi.out Qb.out Qg HZ.out;have HX:=yb hX;clear Qg hX;go_wp2_with fail
 refine (Qs.out _ HX.out.bel).mono ?_;rintro e w' ⟨rfl,rfl⟩;clear Qc Qt Qu Qv;generalize W1.alloc _=W2 at *;generalize W1.heap.size=p at *;clear HZ Qb;have QU:=cell?_keep HX.out.bel QZ.out;obtain ⟨⟨k0,k1,k2,k3,k4,k5,k6,k7⟩,m0,m1,m2,m3,m4,m5,m6,m7⟩:=zah HX.out.blk;go_wp2;refine yi (zaa rfl _ _ r 81 _ (0,0) _ rfl (set8 HX.out.blk _ _ _ _ _ _ _ _) Tryz.underlying81 rfl zas _ rfl) rfl ?_;exact zau (x:={ kind:=4 }) HX.out.bel HX.out.wr HV.out _ _ _ _ _ _ _ _
theorem rnext_6262 {w:World} {a:Option Addr} {cap:Nat} {bs:List UInt8} (hr:Row w 1 a bs.length cap (bs.map u8C)) (hn:bs.length<=400000) {k:Int} (yq:Bool) (hk0:0<=k) (hk1:k<=bs.length) {f:Nat} (hf:zaL bs k=f) (hfl:f<bs.length) {V:Tk×Int×Int×Int} (hV:V=zbw bs f yq) (hc0:bs.getD f 0=62) (h1:f+1<bs.length) (h2:bs.getD (f+1) 0=62) :
  Calls Tryz.prog 66 #[.slice a bs.length cap,.int .i64 k,.bool yq] w (zaF w V):=by
 have HV:=yb (hV.trans (zbg (j:=f+2) (x:={ kind:=5 }) hfl hc0 (by rw [zay h1,h2];rfl) (by omega)));obtain ⟨b,off,R,r,x,rfl,Qn,hx,hR,Qd,Qe,Qo,QG,QH,Qp,QI,Qq,QJ,QK,Qr,hS,Qf,hc,Qg,hZ,Qh⟩:=zaG hr hn hk0 hk1 hf hfl;have QC:=yb hr;have HC:=yb hc;have HS:=yb hS;have Qs:=yb Qf;have QL:=yb hR;have Qk:=yb Qd;have Qi:=yb Qe;have HZ:=yb hZ;have Qb:=yb Qh;clear hS Qf Qd hZ Qh;obtain rfl:x=62:=by rw [<-hx,hc0];rfl
 have QU:=hc (f+1) h1;rw [h2,show ((62:UInt8).toNat:Int)=62 from rfl] at QU;have QZ:=yb QU;have Q1:decide ((f:Int)+1<bs.length)=true:=yd (by omega);have Q0:(f:Int)+1<bs.length:=by omega
 clear QU h1 h2;clear hr hf hR Qe Qr hk0 hk1 hc hV hx;go_enter Tryz.func66,Tryz.ntmps66
 go_wp2_with fail
 refine (HS.out _ Qb.out).mono ?_;rintro e w' ⟨rfl,rfl⟩;rw [<-Qi.out];generalize w.alloc _=W1 at *;obtain ⟨Qc,Qt,Qu,Qv,hX⟩:=zax Qn Qi.out Qb.out Qg HZ.out;have HX:=yb hX;clear Qg hX;go_wp2_with fail
 refine (Qs.out _ HX.out.bel).mono ?_;rintro e w' ⟨rfl,rfl⟩;clear Qc Qt Qu Qv;generalize W1.alloc _=W2 at *;generalize W1.heap.size=p at *;clear HZ Qb;have QU:=cell?_keep HX.out.bel QZ.out;obtain ⟨⟨k0,k1,k2,k3,k4,k5,k6,k7⟩,m0,m1,m2,m3,m4,m5,m6,m7⟩:=zah HX.out.blk;go_wp2;refine yi (zaa rfl _ _ r 81 _ (0,0) _ rfl (set8 HX.out.blk _ _ _ _ _ _ _ _) Tryz.underlying81 rfl zas _ rfl) rfl ?_;exact zau (x:={ kind:=5 }) HX.out.bel HX.out.wr HV.out _ _ _ _ _ _ _ _
theorem rnext_62more {w:World} {a:Option Addr} {cap:Nat} {bs:List UInt8} (hr:Row w 1 a bs.length cap (bs.map u8C)) (hn:bs.length<=400000) {k:Int} (yq:Bool) (hk0:0<=k) (hk1:k<=bs.length) {f:Nat} (hf:zaL bs k=f) (hfl:f<bs.length) {V:Tk×Int×Int×Int} (hV:V=zbw bs f yq) (hc0:bs.getD f 0=62) (h1:f+1=bs.length) (hla:yq=false) :
  Calls Tryz.prog 66 #[.slice a bs.length cap,.int .i64 k,.bool yq] w (zaF w V):=by
 have HV:=yb (hV.trans (za7 (e:=6) hfl hc0 (by rw [tokV_62,zbm (by omega),hla];rfl) (by decide)));subst hla;obtain ⟨b,off,R,r,x,rfl,Qn,hx,hR,Qd,Qe,Qo,QG,QH,Qp,QI,Qq,QJ,QK,Qr,hS,Qf,hc,Qg,hZ,Qh⟩:=zaG hr hn hk0 hk1 hf hfl;have QC:=yb hr;have HC:=yb hc;have HS:=yb hS;have Qs:=yb Qf;have QL:=yb hR;have Qk:=yb Qd;have Qi:=yb Qe;have HZ:=yb hZ;have Qb:=yb Qh;clear hS Qf Qd hZ Qh;obtain rfl:x=62:=by rw [<-hx,hc0];rfl
 have Q1:decide ((f:Int)+1<bs.length)=false:=ye (by omega);have Zd:((f:Int)+1==(bs.length:Int))=true:=by rw [beq_iff_eq];omega
 have Ze:decide ((f:Int)+1=(bs.length:Int))=true:=yd (by omega);clear h1;clear hr hf hR Qe Qr hk0 hk1 hc hV hx;go_enter Tryz.func66,Tryz.ntmps66
 go_wp2_with fail
 refine (HS.out _ Qb.out).mono ?_;rintro e w' ⟨rfl,rfl⟩;rw [<-Qi.out];generalize w.alloc _=W1 at *;obtain ⟨Qc,Qt,Qu,Qv,hX⟩:=zax Qn Qi.out Qb.out Qg HZ.out;have HX:=yb hX;clear Qg hX;go_wp2_with fail
 refine (Qs.out _ HX.out.bel).mono ?_;rintro e w' ⟨rfl,rfl⟩;clear Qc Qt Qu Qv;generalize W1.alloc _=W2 at *;generalize W1.heap.size=p at *;clear HZ Qb;obtain ⟨⟨k0,k1,k2,k3,k4,k5,k6,k7⟩,m0,m1,m2,m3,m4,m5,m6,m7⟩:=zah HX.out.blk;obtain ⟨⟨n0,n1,n2,n3,n4,n5,n6,n7⟩,-⟩:=zah HX.out.no;go_wp2;refine yi (zaa rfl _ _ r 81 _ (0,0) _ rfl (set8 HX.out.blk _ _ _ _ _ _ _ _) Tryz.underlying81 rfl zas _ rfl) rfl ?_;exact zau (x:={ kind:=0 }) HX.out.bel HX.out.wr HV.out _ _ _ _ _ _ _ _
theorem rnext_62last {w:World} {a:Option Addr} {cap:Nat} {bs:List UInt8} (hr:Row w 1 a bs.length cap (bs.map u8C)) (hn:bs.length<=400000) {k:Int} (yq:Bool) (hk0:0<=k) (hk1:k<=bs.length) {f:Nat} (hf:zaL bs k=f) (hfl:f<bs.length) {V:Tk×Int×Int×Int} (hV:V=zbw bs f yq) (hc0:bs.getD f 0=62) (h1:f+1=bs.length) (hla:yq=true) :
  Calls Tryz.prog 66 #[.slice a bs.length cap,.int .i64 k,.bool yq] w (zaF w V):=by
 have HV:=yb (hV.trans (za7 (e:=11) hfl hc0 (by rw [tokV_62,zbm (by omega),hla];rfl) (by decide)));subst hla;obtain ⟨b,off,R,r,x,rfl,Qn,hx,hR,Qd,Qe,Qo,QG,QH,Qp,QI,Qq,QJ,QK,Qr,hS,Qf,hc,Qg,hZ,Qh⟩:=zaG hr hn hk0 hk1 hf hfl;have QC:=yb hr;have HC:=yb hc;have HS:=yb hS;have Qs:=yb Qf;have QL:=yb hR;have Qk:=yb Qd;have Qi:=yb Qe;have HZ:=yb hZ;have Qb:=yb Qh;clear hS Qf Qd hZ Qh;obtain rfl:x=62:=by rw [<-hx,hc0];rfl
 have Q1:decide ((f:Int)+1<bs.length)=false:=ye (by omega);have Zd:((f:Int)+1==(bs.length:Int))=true:=by rw [beq_iff_eq];omega
 have Ze:decide ((f:Int)+1=(bs.length:Int))=true:=yd (by omega);have Ql:=yb (fun W=>zaV 62 W);rw [show dlI 62=true from rfl] at Ql;clear h1;clear hr hf hR Qe Qr hk0 hk1 hc hV hx;go_enter Tryz.func66,Tryz.ntmps66
 go_wp2_with fail
 refine (HS.out _ Qb.out).mono ?_;rintro e w' ⟨rfl,rfl⟩;rw [<-Qi.out];generalize w.alloc _=W1 at *;obtain ⟨Qc,Qt,Qu,Qv,hX⟩:=zax Qn Qi.out Qb.out Qg HZ.out;have HX:=yb hX;clear Qg hX;go_wp2_with fail
 refine (Qs.out _ HX.out.bel).mono ?_;rintro e w' ⟨rfl,rfl⟩;clear Qc Qt Qu Qv;generalize W1.alloc _=W2 at *;generalize W1.heap.size=p at *;clear HZ Qb;obtain ⟨⟨k0,k1,k2,k3,k4,k5,k6,k7⟩,m0,m1,m2,m3,m4,m5,m6,m7⟩:=zah HX.out.blk;obtain ⟨⟨n0,n1,n2,n3,n4,n5,n6,n7⟩,-⟩:=zah HX.out.no;go_wp2_with (go_at_call 82;refine (Ql.out _).mono ?_;rintro e w' ⟨rfl,rfl⟩)
 refine yi (zaa rfl _ _ r 81 _ (0,0) _ rfl (set8 HX.out.blk _ _ _ _ _ _ _ _) Tryz.underlying81 rfl zas _ rfl) rfl ?_;exact zau (x:={ kind:=0 }) HX.out.bel HX.out.wr HV.out _ _ _ _ _ _ _ _
theorem rnext_62form {w:World} {a:Option Addr} {cap:Nat} {bs:List UInt8} (hr:Row w 1 a bs.length cap (bs.map u8C)) (hn:bs.length<=400000) {k:Int} (yq:Bool) (hk0:0<=k) (hk1:k<=bs.length) {f:Nat} (hf:zaL bs k=f) (hfl:f<bs.length) {V:Tk×Int×Int×Int} (hV:V=zbw bs f yq) (hc0:bs.getD f 0=62) (h1:f+1<bs.length) (h2:bs.getD (f+1) 0≠62) :
  Calls Tryz.prog 66 #[.slice a bs.length cap,.int .i64 k,.bool yq] w (zaF w V):=by
 have HV:=yb (hV.trans (za7 (e:=11) hfl hc0 (by rw [tokV_62,zay h1];simp only;rw [yh h2]) (by decide)));obtain ⟨b,off,R,r,x,rfl,Qn,hx,hR,Qd,Qe,Qo,QG,QH,Qp,QI,Qq,QJ,QK,Qr,hS,Qf,hc,Qg,hZ,Qh⟩:=zaG hr hn hk0 hk1 hf hfl;have QC:=yb hr;have HC:=yb hc;have HS:=yb hS;have Qs:=yb Qf;have QL:=yb hR;have Qk:=yb Qd;have Qi:=yb Qe;have HZ:=yb hZ;have Qb:=yb Qh;clear hS Qf Qd hZ Qh;obtain rfl:x=62:=by rw [<-hx,hc0];rfl
 have QZ:=yb (hc (f+1) h1);have e2:=zaw h2 62 rfl;generalize (bs.getD (f+1) 0).toNat=y at *;have Q1:decide ((f:Int)+1<bs.length)=true:=yd (by omega);have Q0:(f:Int)+1<bs.length:=by omega
 have Zd:((f:Int)+1==(bs.length:Int))=false:=by rw [yf];omega
 have Ze:decide ((f:Int)+1=(bs.length:Int))=false:=ye (by omega);have Ql:=yb (fun W=>zaV 62 W);rw [show dlI 62=true from rfl] at Ql;clear h1 h2;clear hr hf hR Qe Qr hk0 hk1 hc hV hx;go_enter Tryz.func66,Tryz.ntmps66
 go_wp2_with fail
 refine (HS.out _ Qb.out).mono ?_;rintro e w' ⟨rfl,rfl⟩;rw [<-Qi.out];generalize w.alloc _=W1 at *;obtain ⟨Qc,Qt,Qu,Qv,hX⟩:=zax Qn Qi.out Qb.out Qg HZ.out;have HX:=yb hX;clear Qg hX;go_wp2_with fail
 refine (Qs.out _ HX.out.bel).mono ?_;rintro e w' ⟨rfl,rfl⟩;clear Qc Qt Qu Qv;generalize W1.alloc _=W2 at *;generalize W1.heap.size=p at *;clear HZ Qb;have QU:=cell?_keep HX.out.bel QZ.out;obtain ⟨⟨k0,k1,k2,k3,k4,k5,k6,k7⟩,m0,m1,m2,m3,m4,m5,m6,m7⟩:=zah HX.out.blk;obtain ⟨⟨n0,n1,n2,n3,n4,n5,n6,n7⟩,-⟩:=zah HX.out.no;go_wp2_with (go_at_call 82;refine (Ql.out _).mono ?_;rintro e w' ⟨rfl,rfl⟩)
 refine yi (zaa rfl _ _ r 81 _ (0,0) _ rfl (set8 HX.out.blk _ _ _ _ _ _ _ _) Tryz.underlying81 rfl zas _ rfl) rfl ?_;exact zau (x:={ kind:=0 }) HX.out.bel HX.out.wr HV.out _ _ _ _ _ _ _ _
theorem rnext_dl {w:World} {a:Option Addr} {cap:Nat} {bs:List UInt8} (hr:Row w 1 a bs.length cap (bs.map u8C)) (hn:bs.length<=400000) {k:Int} (yq:Bool) (hk0:0<=k) (hk1:k<=bs.length) {f:Nat} (hf:zaL bs k=f) (hfl:f<bs.length) {V:Tk×Int×Int×Int} (hV:V=zbw bs f yq) (hd:isDl (bs.getD f 0)=true) (n1:bs.getD f 0≠91) (n2:bs.getD f 0≠93) (n3:bs.getD f 0≠60) (n4:bs.getD f 0≠62) (n5:bs.getD f 0≠40) (n6:bs.getD f 0≠47) :
  Calls Tryz.prog 66 #[.slice a bs.length cap,.int .i64 k,.bool yq] w (zaF w V):=by
 have HV:=yb (hV.trans (za7 (e:=11) hfl rfl (by rw [tokV_no _ _ _ (by unfold isRg;rw [hd];simp) n1 n2 n3 n4 n5 n6]) (by decide)));obtain ⟨b,off,R,r,x,rfl,Qn,hx,hR,Qd,Qe,Qo,QG,QH,Qp,QI,Qq,QJ,QK,Qr,hS,Qf,hc,Qg,hZ,Qh⟩:=zaG hr hn hk0 hk1 hf hfl;have QC:=yb hr;have HC:=yb hc;have HS:=yb hS;have Qs:=yb Qf;have QL:=yb hR;have Qk:=yb Qd;have Qi:=yb Qe;have HZ:=yb hZ;have Qb:=yb Qh;clear hS Qf Qd hZ Qh;have e1:=zaw n1 91 rfl;have e2:=zaw n2 93 rfl;have e3:=zaw n3 60 rfl;have e4:=zaw n4 62 rfl;have e5:=zaw n5 40 rfl;have e6:=zaw n6 47 rfl;have Ql:=yb (fun W=>zaV (bs.getD f 0).toNat W);rw [<-zb6,hd] at Ql;rw [hx] at Ql e1 e2 e3 e4 e5 e6;clear hd n1 n2 n3 n4 n5 n6;clear hr hf hR Qe Qr hk0 hk1 hc hV hx;go_enter Tryz.func66,Tryz.ntmps66
 go_wp2_with fail
 refine (HS.out _ Qb.out).mono ?_;rintro e w' ⟨rfl,rfl⟩;rw [<-Qi.out];generalize w.alloc _=W1 at *;obtain ⟨Qc,Qt,Qu,Qv,hX⟩:=zax Qn Qi.out Qb.out Qg HZ.out;have HX:=yb hX;clear Qg hX;go_wp2_with fail
 refine (Qs.out _ HX.out.bel).mono ?_;rintro e w' ⟨rfl,rfl⟩;clear Qc Qt Qu Qv;generalize W1.alloc _=W2 at *;generalize W1.heap.size=p at *;clear HZ Qb;obtain ⟨⟨k0,k1,k2,k3,k4,k5,k6,k7⟩,m0,m1,m2,m3,m4,m5,m6,m7⟩:=zah HX.out.blk;obtain ⟨⟨n0,n1,n2,n3,n4,n5,n6,n7⟩,-⟩:=zah HX.out.no;go_wp2_with (go_at_call 82;refine (Ql.out _).mono ?_;rintro e w' ⟨rfl,rfl⟩)
 refine yi (zaa rfl _ _ r 81 _ (0,0) _ rfl (set8 HX.out.blk _ _ _ _ _ _ _ _) Tryz.underlying81 rfl zas _ rfl) rfl ?_;exact zau (x:={ kind:=0 }) HX.out.bel HX.out.wr HV.out _ _ _ _ _ _ _ _
theorem rnext_hexend {w:World} {a:Option Addr} {cap:Nat} {bs:List UInt8} (hr:Row w 1 a bs.length cap (bs.map u8C)) (hn:bs.length<=400000) {k:Int} (yq:Bool) (hk0:0<=k) (hk1:k<=bs.length) {f:Nat} (hf:zaL bs k=f) (hfl:f<bs.length) {V:Tk×Int×Int×Int} (hV:V=zbw bs f yq) (hc0:bs.getD f 0=60) (h1:¬f+1<bs.length) :
  Calls Tryz.prog 66 #[.slice a bs.length cap,.int .i64 k,.bool yq] w (zaF w V):=by
 obtain ⟨H,hH⟩:∃H,hexV [] (-1) (bs.drop (f+1))=H:=⟨_,rfl⟩;have HH:=yb hH;have ht:tokV yq 60 (bs.drop (f+1))=hexK yq H:=by rw [<-hH];exact tokV_60 yq _ (fun u e=>by rw [zbm h1] at e;cases e)
 have HT:=yb ht;have QS:=yb hc0;have Qw:=yb hV;have Qx:=yb hfl;clear ht hH;obtain ⟨b,off,R,r,x,rfl,Qn,hx,hR,Qd,Qe,Qo,QG,QH,Qp,QI,Qq,QJ,QK,Qr,hS,Qf,hc,Qg,hZ,Qh⟩:=zaG hr hn hk0 hk1 hf hfl;have QC:=yb hr;have HC:=yb hc;have HS:=yb hS;have Qs:=yb Qf;have QL:=yb hR;have Qk:=yb Qd;have Qi:=yb Qe;have HZ:=yb hZ;have Qb:=yb Qh;clear hS Qf Qd hZ Qh;obtain rfl:x=60:=by rw [<-hx,hc0];rfl
 have Q2:=yb (show f+1<=bs.length by omega);have Q1:decide ((f:Int)+1<bs.length)=false:=ye (by omega);clear h1;clear hr hf hR Qe Qr hk0 hk1 hc hV hx;go_enter Tryz.func66,Tryz.ntmps66
 go_wp2_with fail
 refine (HS.out _ Qb.out).mono ?_;rintro e w' ⟨rfl,rfl⟩;rw [<-Qi.out];generalize w.alloc _=W1 at *;obtain ⟨Qc,Qt,Qu,Qv,hX⟩:=zax Qn Qi.out Qb.out Qg HZ.out;have HX:=yb hX;clear Qg hX;go_wp2_with fail
 refine (Qs.out _ HX.out.bel).mono ?_;rintro e w' ⟨rfl,rfl⟩;clear Qc Qt Qu Qv;generalize W1.alloc _=W2 at *;generalize W1.heap.size=p at *;clear HZ Qb;go_wp2_with fail
 have QY:=yb (zeJ (QC.out.mono HX.out.bel) hn (f+1) Q2.out yq);rw [HH.out] at QY;unfold zdu at QY;refine QY.out.mono ?_;rintro e w3 ⟨Qy,h3⟩;have Qa:=yb (HX.out.on Qy);clear Qy QY;rcases h3 with ⟨h1,rfl⟩|⟨h1,rfl⟩|⟨h1,v,rfl,hO,hl⟩
 ·have HV:=yb (Qw.out.trans (za7 (e:=zbf yq) Qx.out QS.out (by rw [HT.out];unfold hexK;rw [yh (by rw [h1];decide),yg h1]) (zdi yq)))
  have Zf:(zbf yq != 0)=true:=by cases yq<;>rfl
  generalize zbf yq=oe at *;clear h1;obtain ⟨⟨k0,k1,k2,k3,k4,k5,k6,k7⟩,m0,m1,m2,m3,m4,m5,m6,m7⟩:=zah Qa.out.blk;obtain ⟨⟨n0,n1,n2,n3,n4,n5,n6,n7⟩,-⟩:=zah Qa.out.no;go_wp2;refine yi (zaa rfl _ _ r 81 _ (0,0) _ rfl (set8 Qa.out.blk _ _ _ _ _ _ _ _) Tryz.underlying81 rfl zas _ rfl) rfl ?_;exact zau (x:={ kind:=0 }) Qa.out.bel Qa.out.wr HV.out _ _ _ _ _ _ _ _
 ·have HV:=yb (Qw.out.trans (za7 (e:=11) Qx.out QS.out (by rw [HT.out];unfold hexK;rw [yh (by rw [h1];decide),yh (by rw [h1];decide)]) (by decide)))
  clear h1;obtain ⟨⟨k0,k1,k2,k3,k4,k5,k6,k7⟩,m0,m1,m2,m3,m4,m5,m6,m7⟩:=zah Qa.out.blk;obtain ⟨⟨n0,n1,n2,n3,n4,n5,n6,n7⟩,-⟩:=zah Qa.out.no;go_wp2;refine yi (zaa rfl _ _ r 81 _ (0,0) _ rfl (set8 Qa.out.blk _ _ _ _ _ _ _ _) Tryz.underlying81 rfl zas _ rfl) rfl ?_;exact zau (x:={ kind:=0 }) Qa.out.bel Qa.out.wr HV.out _ _ _ _ _ _ _ _
 ·have HV:=yb (Qw.out.trans (zfX Qx.out QS.out (x:={ kind:=1,vk:=4,vs:=H.2.1 }) (r:=H.2.2) (by rw [HT.out];unfold hexK;rw [yg h1]) hl))
  have Qz:=zer hO;obtain ⟨a3,c3,Q3,-⟩:=Row.of_owns hO;subst Q3;clear h1 hO hl;obtain ⟨⟨k0,k1,k2,k3,k4,k5,k6,k7⟩,m0,m1,m2,m3,m4,m5,m6,m7⟩:=zah Qa.out.blk;obtain ⟨⟨n0,n1,n2,n3,n4,n5,n6,n7⟩,-⟩:=zah Qa.out.no;go_wp2;refine yi (zaa rfl _ _ r 81 _ (0,0) _ rfl (set8 Qa.out.blk _ _ _ _ _ _ _ _) Tryz.underlying81 rfl zas _ rfl) rfl ?_;exact zau (x:={ kind:=1,vk:=4,vs:=H.2.1 }) Qa.out.bel Qa.out.wr HV.out _ _ _ _ _ _ _ _
theorem rnext_hex {w:World} {a:Option Addr} {cap:Nat} {bs:List UInt8} (hr:Row w 1 a bs.length cap (bs.map u8C)) (hn:bs.length<=400000) {k:Int} (yq:Bool) (hk0:0<=k) (hk1:k<=bs.length) {f:Nat} (hf:zaL bs k=f) (hfl:f<bs.length) {V:Tk×Int×Int×Int} (hV:V=zbw bs f yq) (hc0:bs.getD f 0=60) (h1:f+1<bs.length) (h2:bs.getD (f+1) 0≠60) :
  Calls Tryz.prog 66 #[.slice a bs.length cap,.int .i64 k,.bool yq] w (zaF w V):=by
 obtain ⟨H,hH⟩:∃H,hexV [] (-1) (bs.drop (f+1))=H:=⟨_,rfl⟩;have HH:=yb hH;have ht:tokV yq 60 (bs.drop (f+1))=hexK yq H:=by rw [<-hH];exact tokV_60 yq _ (fun u e=>by rw [zay h1] at e;exact h2 (List.cons.inj e).1)
 have HT:=yb ht;have QS:=yb hc0;have Qw:=yb hV;have Qx:=yb hfl;clear ht hH;obtain ⟨b,off,R,r,x,rfl,Qn,hx,hR,Qd,Qe,Qo,QG,QH,Qp,QI,Qq,QJ,QK,Qr,hS,Qf,hc,Qg,hZ,Qh⟩:=zaG hr hn hk0 hk1 hf hfl;have QC:=yb hr;have HC:=yb hc;have HS:=yb hS;have Qs:=yb Qf;have QL:=yb hR;have Qk:=yb Qd;have Qi:=yb Qe;have HZ:=yb hZ;have Qb:=yb Qh;clear hS Qf Qd hZ Qh;obtain rfl:x=60:=by rw [<-hx,hc0];rfl
 have Q2:=yb (show f+1<=bs.length by omega);have QZ:=yb (hc (f+1) h1);have e2:=zaw h2 60 rfl;generalize (bs.getD (f+1) 0).toNat=y at *;have Q1:decide ((f:Int)+1<bs.length)=true:=yd (by omega);have Q0:(f:Int)+1<bs.length:=by omega
 clear h1 h2;clear hr hf hR Qe Qr hk0 hk1 hc hV hx;go_enter Tryz.func66,Tryz.ntmps66
 go_wp2_with fail
 refine (HS.out _ Qb.out).mono ?_;rintro e w' ⟨rfl,rfl⟩;rw [<-Qi.out];generalize w.alloc _=W1 at *;obtain ⟨Qc,Qt,Qu,Qv,hX⟩:=zax Qn Qi.out Qb.out Qg HZ.out;have HX:=yb hX;clear Qg hX;go_wp2_with fail
 refine (Qs.out _ HX.out.bel).mono ?_;rintro e w' ⟨rfl,rfl⟩;clear Qc Qt Qu Qv;generalize W1.alloc _=W2 at *;generalize W1.heap.size=p at *;clear HZ Qb;have QU:=cell?_keep HX.out.bel QZ.out;go_wp2_with fail
 have QY:=yb (zeJ (QC.out.mono HX.out.bel) hn (f+1) Q2.out yq);rw [HH.out] at QY;unfold zdu at QY;refine QY.out.mono ?_;rintro e w3 ⟨Qy,h3⟩;have Qa:=yb (HX.out.on Qy);clear Qy QY;rcases h3 with ⟨h1,rfl⟩|⟨h1,rfl⟩|⟨h1,v,rfl,hO,hl⟩
 ·have HV:=yb (Qw.out.trans (za7 (e:=zbf yq) Qx.out QS.out (by rw [HT.out];unfold hexK;rw [yh (by rw [h1];decide),yg h1]) (zdi yq)))
  have Zf:(zbf yq != 0)=true:=by cases yq<;>rfl
  generalize zbf yq=oe at *;clear h1;obtain ⟨⟨k0,k1,k2,k3,k4,k5,k6,k7⟩,m0,m1,m2,m3,m4,m5,m6,m7⟩:=zah Qa.out.blk;obtain ⟨⟨n0,n1,n2,n3,n4,n5,n6,n7⟩,-⟩:=zah Qa.out.no;go_wp2;refine yi (zaa rfl _ _ r 81 _ (0,0) _ rfl (set8 Qa.out.blk _ _ _ _ _ _ _ _) Tryz.underlying81 rfl zas _ rfl) rfl ?_;exact zau (x:={ kind:=0 }) Qa.out.bel Qa.out.wr HV.out _ _ _ _ _ _ _ _
 ·have HV:=yb (Qw.out.trans (za7 (e:=11) Qx.out QS.out (by rw [HT.out];unfold hexK;rw [yh (by rw [h1];decide),yh (by rw [h1];decide)]) (by decide)))
  clear h1;obtain ⟨⟨k0,k1,k2,k3,k4,k5,k6,k7⟩,m0,m1,m2,m3,m4,m5,m6,m7⟩:=zah Qa.out.blk;obtain ⟨⟨n0,n1,n2,n3,n4,n5,n6,n7⟩,-⟩:=zah Qa.out.no;go_wp2;refine yi (zaa rfl _ _ r 81 _ (0,0) _ rfl (set8 Qa.out.blk _ _ _ _ _ _ _ _) Tryz.underlying81 rfl zas _ rfl) rfl ?_;exact zau (x:={ kind:=0 }) Qa.out.bel Qa.out.wr HV.out _ _ _ _ _ _ _ _
 ·have HV:=yb (Qw.out.trans (zfX Qx.out QS.out (x:={ kind:=1,vk:=4,vs:=H.2.1 }) (r:=H.2.2) (by rw [HT.out];unfold hexK;rw [yg h1]) hl))
  have Qz:=zer hO;obtain ⟨a3,c3,Q3,-⟩:=Row.of_owns hO;subst Q3;clear h1 hO hl;obtain ⟨⟨k0,k1,k2,k3,k4,k5,k6,k7⟩,m0,m1,m2,m3,m4,m5,m6,m7⟩:=zah Qa.out.blk;obtain ⟨⟨n0,n1,n2,n3,n4,n5,n6,n7⟩,-⟩:=zah Qa.out.no;go_wp2;refine yi (zaa rfl _ _ r 81 _ (0,0) _ rfl (set8 Qa.out.blk _ _ _ _ _ _ _ _) Tryz.underlying81 rfl zas _ rfl) rfl ?_;exact zau (x:={ kind:=1,vk:=4,vs:=H.2.1 }) Qa.out.bel Qa.out.wr HV.out _ _ _ _ _ _ _ _
theorem rnext_text {w:World} {a:Option Addr} {cap:Nat} {bs:List UInt8} (hr:Row w 1 a bs.length cap (bs.map u8C)) (hn:bs.length<=400000) {k:Int} (yq:Bool) (hk0:0<=k) (hk1:k<=bs.length) {f:Nat} (hf:zaL bs k=f) (hfl:f<bs.length) {V:Tk×Int×Int×Int} (hV:V=zbw bs f yq) (hc0:bs.getD f 0=40) :
  Calls Tryz.prog 66 #[.slice a bs.length cap,.int .i64 k,.bool yq] w (zaF w V):=by
 obtain ⟨H,hH⟩:∃H,zbe yq 1 [] (bs.drop (f+1))=H:=⟨_,rfl⟩;have HH:=yb hH;have HT:=yb (show tokV yq 40 (bs.drop (f+1))=txK yq H by rw [tokV_text,hH]);have QS:=yb hc0;have Qw:=yb hV;have Qx:=yb hfl;clear hH;obtain ⟨b,off,R,r,x,rfl,Qn,hx,hR,Qd,Qe,Qo,QG,QH,Qp,QI,Qq,QJ,QK,Qr,hS,Qf,hc,Qg,hZ,Qh⟩:=zaG hr hn hk0 hk1 hf hfl;have QC:=yb hr;have HC:=yb hc;have HS:=yb hS;have Qs:=yb Qf;have QL:=yb hR;have Qk:=yb Qd;have Qi:=yb Qe;have HZ:=yb hZ;have Qb:=yb Qh;clear hS Qf Qd hZ Qh;obtain rfl:x=40:=by rw [<-hx,hc0];rfl
 have Q2:=yb (show f+1<=bs.length by omega);clear hr hf hR Qe Qr hk0 hk1 hc hV hx;go_enter Tryz.func66,Tryz.ntmps66
 go_wp2_with fail
 refine (HS.out _ Qb.out).mono ?_;rintro e w' ⟨rfl,rfl⟩;rw [<-Qi.out];generalize w.alloc _=W1 at *;obtain ⟨Qc,Qt,Qu,Qv,hX⟩:=zax Qn Qi.out Qb.out Qg HZ.out;have HX:=yb hX;clear Qg hX;go_wp2_with fail
 refine (Qs.out _ HX.out.bel).mono ?_;rintro e w' ⟨rfl,rfl⟩;clear Qc Qt Qu Qv;generalize W1.alloc _=W2 at *;generalize W1.heap.size=p at *;clear HZ Qb;go_wp2_with fail
 refine (zeJ (QC.out.mono HX.out.bel) hn (f+1) Q2.out yq).mono ?_;intro e w3 h3;obtain ⟨v3,n3,er3,rfl,Qy⟩:=h3.some_end;have Qa:=yb (HX.out.on Qy);clear Qy h3;go_wp2_with fail
 have Za:=yb (rtext_any (QC.out.mono Qa.out.bel) hn (f+1) Q2.out yq);rw [HH.out] at Za;unfold zht at Za;refine Za.out.mono ?_;clear Za HH
 cases H with
 | none =>
  rintro e w4 ⟨Q4,rfl⟩;have QV:=yb (Qa.out.on Q4);have HV:=yb (Qw.out.trans (za7 (e:=zbf yq) Qx.out QS.out (by rw [HT.out];rfl) (zdi yq)));have Zf:(zbf yq != 0)=true:=by cases yq<;>rfl
  generalize zbf yq=oe at *;clear Q4;obtain ⟨⟨k0,k1,k2,k3,k4,k5,k6,k7⟩,m0,m1,m2,m3,m4,m5,m6,m7⟩:=zah QV.out.blk;obtain ⟨⟨n0,n1,n2,n3,n4,n5,n6,n7⟩,-⟩:=zah QV.out.no;go_wp2;refine yi (zaa rfl _ _ r 81 _ (0,0) _ rfl (set8 QV.out.blk _ _ _ _ _ _ _ _) Tryz.underlying81 rfl zas _ rfl) rfl ?_;exact zau (x:={ kind:=0 }) QV.out.bel QV.out.wr HV.out _ _ _ _ _ _ _ _
 | some y =>
  obtain ⟨o,rr⟩:=y;rintro e w4 ⟨Q4,v,rfl,hO,hl⟩;have QV:=yb (Qa.out.on Q4);have HV:=yb (Qw.out.trans (zfX Qx.out QS.out (x:={ kind:=1,vk:=4,vs:=o }) (r:=rr) (by rw [HT.out];rfl) hl));have Qz:=zer hO;obtain ⟨a3,c3,Q3,-⟩:=Row.of_owns hO;subst Q3;clear Q4 hO hl;obtain ⟨⟨k0,k1,k2,k3,k4,k5,k6,k7⟩,m0,m1,m2,m3,m4,m5,m6,m7⟩:=zah QV.out.blk;obtain ⟨⟨n0,n1,n2,n3,n4,n5,n6,n7⟩,-⟩:=zah QV.out.no;go_wp2;refine yi (zaa rfl _ _ r 81 _ (0,0) _ rfl (set8 QV.out.blk _ _ _ _ _ _ _ _) Tryz.underlying81 rfl zas _ rfl) rfl ?_;exact zau (x:={ kind:=1,vk:=4,vs:=o }) QV.out.bel QV.out.wr HV.out _ _ _ _ _ _ _ _
theorem Row.cut {α:Type} {enc:α->Value} {w:World} {b off n cap:Nat} {l:List α} (h:Row w 1 (some ⟨b,off,none⟩) n cap (l.map enc)) (lo m:Nat) (hm:lo+m<=n):Row w 1 (some ⟨b,off+lo,none⟩) ((l.drop lo).take m).length (cap-lo) (((l.drop lo).take m).map enc):=by
 have hl:=h.len1;obtain ⟨h1,h2,h3,h4,h5⟩:=h;have e:((l.drop lo).take m).length=m:=by rw [List.length_take,ym];omega
 rw [e];refine ⟨by simp;omega,by omega,by omega,fun h=>(by cases h),fun h0=>?_⟩;obtain ⟨b',off',ha,hb,hc⟩:=h5 (by omega)
 cases ha
 refine ⟨b,off+lo,rfl,hb,fun j u hj=>?_⟩;rw [Nat.add_assoc];refine hc (lo+j) u ?_;rw [List.getElem?_map] at hj |-;obtain ⟨x,hx,Zh⟩:=Option.map_eq_some_iff.1 hj;rw [List.getElem?_take] at hx
 split at hx
 ·rw [List.getElem?_drop] at hx
  rw [hx];exact congrArg some Zh
 ·cases hx
def nmK (N:Option (List UInt8)) (r:List UInt8):Int×Tk×List UInt8:=match N with
 | none=>(17,{ kind:=0 },[])
 | some o=>(0,{ kind:=1,vk:=5,vs:=o },r)
theorem tokV_name {yq:Bool} {t:List UInt8} {N:Option (List UInt8)} (h:¬(runN t=t.length/\yq=false)) (hN:zdR (regs t)=N):tokV yq 47 t=nmK N (t.drop (runN t)):=by
 rw [zeT];unfold slV;rw [yh h,hN]
 cases N<;>rfl
theorem Row.none1 {α:Type} {enc:α->Value} (w:World) (a:Addr):Row w 1 (some a) ([]:List α).length 0 (([]:List α).map enc):=⟨rfl,yp _,by unfold maxLen;omega,fun h=>(by cases h),fun h=>absurd h (by simp)⟩
theorem zgJ {w:World} {a:Option Addr} {cap:Nat} {bs:List UInt8} (hr:Row w 1 a bs.length cap (bs.map u8C)) (hn:bs.length<=400000) {k:Int} (yq:Bool) (hk0:0<=k) (hk1:k<=bs.length) {f:Nat} (hf:zaL bs k=f) (hfl:f<bs.length) {V:Tk×Int×Int×Int} (hV:V=zbw bs f yq) (hc0:bs.getD f 0=47) (h1:f+1+runN (bs.drop (f+1))=bs.length) (hla:yq=false) :
  Calls Tryz.prog 66 #[.slice a bs.length cap,.int .i64 k,.bool yq] w (zaF w V):=by
 have HV:=yb (hV.trans (za7 (e:=6) hfl hc0 (by rw [zeT];unfold slV;rw [yg ⟨by rw [ym];omega,hla⟩]) (by decide)));subst hla;obtain ⟨b,off,R,r,x,rfl,Qn,hx,hR,Qd,Qe,Qo,QG,QH,Qp,QI,Qq,QJ,QK,Qr,hS,Qf,hc,Qg,hZ,Qh⟩:=zaG hr hn hk0 hk1 hf hfl;have QC:=yb hr;have HC:=yb hc;have HS:=yb hS;have Qs:=yb Qf;have QL:=yb hR;have Qk:=yb Qd;have Qi:=yb Qe;have HZ:=yb hZ;have Qb:=yb Qh;clear hS Qf Qd hZ Qh;obtain rfl:x=47:=by rw [<-hx,hc0];rfl
 have QR:=zbu (bs.drop (f+1));rw [ym] at QR;have QM:=yb (fun (W:World) (h:Below w.heap.size w W)=>zd4 (QC.out.mono h) hn (f+1) (by omega));obtain ⟨E,hE⟩:∃E,E=f+1+runN (bs.drop (f+1)):=⟨_,rfl⟩;rw [<-hE] at QM;have Zb:E<=bs.length:=by omega
 have Zg:f+1<=E:=by omega
 obtain rfl:E=bs.length:=hE.trans h1;clear h1 hE QR;clear hr hf hR Qe Qr hk0 hk1 hc hV hx;go_enter Tryz.func66,Tryz.ntmps66
 go_wp2_with fail
 refine (HS.out _ Qb.out).mono ?_;rintro e w' ⟨rfl,rfl⟩;rw [<-Qi.out];generalize w.alloc _=W1 at *;obtain ⟨Qc,Qt,Qu,Qv,hX⟩:=zax Qn Qi.out Qb.out Qg HZ.out;have HX:=yb hX;clear Qg hX;go_wp2_with fail
 refine (Qs.out _ HX.out.bel).mono ?_;rintro e w' ⟨rfl,rfl⟩;clear Qc Qt Qu Qv;generalize W1.alloc _=W2 at *;generalize W1.heap.size=p at *;clear HZ Qb;go_wp2_with fail
 refine (QM.out _ HX.out.bel).mono ?_;rintro e w' ⟨rfl,rfl⟩;obtain ⟨⟨k0,k1,k2,k3,k4,k5,k6,k7⟩,m0,m1,m2,m3,m4,m5,m6,m7⟩:=zah HX.out.blk;obtain ⟨⟨n0,n1,n2,n3,n4,n5,n6,n7⟩,-⟩:=zah HX.out.no;go_wp2;refine yi (zaa rfl _ _ r 81 _ (0,0) _ rfl (set8 HX.out.blk _ _ _ _ _ _ _ _) Tryz.underlying81 rfl zas _ rfl) rfl ?_;exact zau (x:={ kind:=0 }) HX.out.bel HX.out.wr HV.out _ _ _ _ _ _ _ _
theorem rnext_name {w:World} {a:Option Addr} {cap:Nat} {bs:List UInt8} (hr:Row w 1 a bs.length cap (bs.map u8C)) (hn:bs.length<=400000) {k:Int} (yq:Bool) (hk0:0<=k) (hk1:k<=bs.length) {f:Nat} (hf:zaL bs k=f) (hfl:f<bs.length) {V:Tk×Int×Int×Int} (hV:V=zbw bs f yq) (hc0:bs.getD f 0=47) (hne:f+1+runN (bs.drop (f+1))=bs.length->yq=false->False) (h1:f+1+runN (bs.drop (f+1))≠bs.length) (hcf1:¬cap=f+1) :
  Calls Tryz.prog 66 #[.slice a bs.length cap,.int .i64 k,.bool yq] w (zaF w V):=by
 obtain ⟨N,hN⟩:∃N,zdR (regs (bs.drop (f+1)))=N:=⟨_,rfl⟩
 have ht:tokV yq 47 (bs.drop (f+1))=nmK N (bs.drop (f+1+runN (bs.drop (f+1)))):=by
  rw [tokV_name (fun h=>hne (by have h1:=h.1;rw [ym] at h1;omega) h.2) hN,List.drop_drop]
 have HT:=yb ht;have HN:=yb hN;have QS:=yb hc0;have Qw:=yb hV;have Qx:=yb hfl;clear ht hN hne;obtain ⟨b,off,R,r,x,rfl,Qn,hx,hR,Qd,Qe,Qo,QG,QH,Qp,QI,Qq,QJ,QK,Qr,hS,Qf,hc,Qg,hZ,Qh⟩:=zaG hr hn hk0 hk1 hf hfl;have QC:=yb hr;have HC:=yb hc;have HS:=yb hS;have Qs:=yb Qf;have QL:=yb hR;have Qk:=yb Qd;have Qi:=yb Qe;have HZ:=yb hZ;have Qb:=yb Qh;clear hS Qf Qd hZ Qh;obtain rfl:x=47:=by rw [<-hx,hc0];rfl
 have QR:=zbu (bs.drop (f+1));rw [ym] at QR;have QM:=yb (fun (W:World) (h:Below w.heap.size w W)=>zd4 (QC.out.mono h) hn (f+1) (by omega));obtain ⟨E,hE⟩:∃E,E=f+1+runN (bs.drop (f+1)):=⟨_,rfl⟩;rw [<-hE] at QM;have Zb:E<=bs.length:=by omega
 have Zg:f+1<=E:=by omega
 rw [<-hE] at HT;have Zc:=yb Zb;have q1:((E:Int)==(bs.length:Int))=false:=by rw [yf];omega
 have q2:decide (E=bs.length)=false:=ye (by omega);have Q5:=yb (fun (W:World) (h:Below w.heap.size w W)=>(QC.out.mono h).cut (f+1) (E-(f+1)) (by omega));have Q6:(bs.drop (f+1)).take (E-(f+1))=regs (bs.drop (f+1)):=by rw [zbk,hE,Nat.add_sub_cancel_left]
 rw [Q6] at Q5;have QW:(regs (bs.drop (f+1))).length=E-(f+1):=by show runN _=_;omega
 have Q7:=yb QW;have Zi:¬cap=f+1:=hcf1;clear hcf1 Q6 QW;clear h1 hE QR;clear hr hf hR Qe Qr hk0 hk1 hc hV hx;go_enter Tryz.func66,Tryz.ntmps66
 go_wp2_with fail
 refine (HS.out _ Qb.out).mono ?_;rintro e w' ⟨rfl,rfl⟩;rw [<-Qi.out];generalize w.alloc _=W1 at *;obtain ⟨Qc,Qt,Qu,Qv,hX⟩:=zax Qn Qi.out Qb.out Qg HZ.out;have HX:=yb hX;clear Qg hX;go_wp2_with fail
 refine (Qs.out _ HX.out.bel).mono ?_;rintro e w' ⟨rfl,rfl⟩;clear Qc Qt Qu Qv;generalize W1.alloc _=W2 at *;generalize W1.heap.size=p at *;clear HZ Qb;go_wp2_with fail
 refine (QM.out _ HX.out.bel).mono ?_;rintro e w' ⟨rfl,rfl⟩;have QT:=yb (zfW (Q5.out _ HX.out.bel) (by rw [Q7.out];omega));rw [Q7.out] at QT;rw [HN.out] at QT;unfold zd1 at QT;go_wp2_with fail
 refine QT.out.mono ?_;clear QT HN
 cases N with
 | none =>
  rintro e w3 ⟨Qy,rfl⟩;unfold valC zbn;have Qa:=yb ((HX.out.on Qy).alloc (.cells #[.int .i64 0,.int .i64 0,.string ⟨#[]⟩,.slice none 0 0] 25));have HV:=yb (Qw.out.trans (za7 (e:=17) Qx.out QS.out (by rw [HT.out];rfl) (by decide)));clear Qy;obtain ⟨⟨k0,k1,k2,k3,k4,k5,k6,k7⟩,m0,m1,m2,m3,m4,m5,m6,m7⟩:=zah Qa.out.blk;obtain ⟨⟨n0,n1,n2,n3,n4,n5,n6,n7⟩,-⟩:=zah Qa.out.no;go_wp2;refine yi (zaa rfl _ _ r 81 _ (0,0) _ rfl (set8 Qa.out.blk _ _ _ _ _ _ _ _) Tryz.underlying81 rfl zas _ rfl) rfl ?_;exact zau (x:={ kind:=0 }) Qa.out.bel Qa.out.wr HV.out _ _ _ _ _ _ _ _
 | some o =>
  rintro e w3 ⟨Qy,rfl⟩;unfold valC;have Qa:=yb ((HX.out.on Qy).alloc (.cells #[.int .i64 5,.int .i64 0,.string (mkB o),.slice none 0 0] 25));have HV:=yb (Qw.out.trans (zbg Qx.out QS.out (x:={ kind:=1,vk:=5,vs:=o }) (j:=E) (by rw [HT.out];rfl) Zc.out));clear Qy;obtain ⟨⟨k0,k1,k2,k3,k4,k5,k6,k7⟩,m0,m1,m2,m3,m4,m5,m6,m7⟩:=zah Qa.out.blk;obtain ⟨⟨n0,n1,n2,n3,n4,n5,n6,n7⟩,-⟩:=zah Qa.out.no;go_wp2;refine yi (zaa rfl _ _ r 81 _ (0,0) _ rfl (set8 Qa.out.blk _ _ _ _ _ _ _ _) Tryz.underlying81 rfl zas _ rfl) rfl ?_;exact zau (x:={ kind:=1,vk:=5,vs:=o }) Qa.out.bel Qa.out.wr HV.out _ _ _ _ _ _ _ _
theorem zgG {w:World} {a:Option Addr} {cap:Nat} {bs:List UInt8} (hr:Row w 1 a bs.length cap (bs.map u8C)) (hn:bs.length<=400000) {k:Int} (yq:Bool) (hk0:0<=k) (hk1:k<=bs.length) {f:Nat} (hf:zaL bs k=f) (hfl:f<bs.length) {V:Tk×Int×Int×Int} (hV:V=zbw bs f yq) (hc0:bs.getD f 0=47) (hne:f+1+runN (bs.drop (f+1))=bs.length->yq=false->False) (h1:f+1+runN (bs.drop (f+1))=bs.length) (hla:yq=true) (hcf1:¬cap=f+1) :
  Calls Tryz.prog 66 #[.slice a bs.length cap,.int .i64 k,.bool yq] w (zaF w V):=by
 obtain ⟨N,hN⟩:∃N,zdR (regs (bs.drop (f+1)))=N:=⟨_,rfl⟩
 have ht:tokV yq 47 (bs.drop (f+1))=nmK N (bs.drop (f+1+runN (bs.drop (f+1)))):=by
  rw [tokV_name (fun h=>hne (by have h1:=h.1;rw [ym] at h1;omega) h.2) hN,List.drop_drop]
 have HT:=yb ht;have HN:=yb hN;have QS:=yb hc0;have Qw:=yb hV;have Qx:=yb hfl;clear ht hN hne;obtain ⟨b,off,R,r,x,rfl,Qn,hx,hR,Qd,Qe,Qo,QG,QH,Qp,QI,Qq,QJ,QK,Qr,hS,Qf,hc,Qg,hZ,Qh⟩:=zaG hr hn hk0 hk1 hf hfl;have QC:=yb hr;have HC:=yb hc;have HS:=yb hS;have Qs:=yb Qf;have QL:=yb hR;have Qk:=yb Qd;have Qi:=yb Qe;have HZ:=yb hZ;have Qb:=yb Qh;clear hS Qf Qd hZ Qh;obtain rfl:x=47:=by rw [<-hx,hc0];rfl
 have QR:=zbu (bs.drop (f+1));rw [ym] at QR;have QM:=yb (fun (W:World) (h:Below w.heap.size w W)=>zd4 (QC.out.mono h) hn (f+1) (by omega));obtain ⟨E,hE⟩:∃E,E=f+1+runN (bs.drop (f+1)):=⟨_,rfl⟩;rw [<-hE] at QM;have Zb:E<=bs.length:=by omega
 have Zg:f+1<=E:=by omega
 rw [<-hE] at HT;have Zc:=yb Zb;subst hla;have Q5:=yb (fun (W:World) (h:Below w.heap.size w W)=>(QC.out.mono h).cut (f+1) (E-(f+1)) (by omega));have Q6:(bs.drop (f+1)).take (E-(f+1))=regs (bs.drop (f+1)):=by rw [zbk,hE,Nat.add_sub_cancel_left]
 rw [Q6] at Q5;have QW:(regs (bs.drop (f+1))).length=E-(f+1):=by show runN _=_;omega
 have Q7:=yb QW;have Zi:¬cap=f+1:=hcf1;clear hcf1 Q6 QW;obtain rfl:E=bs.length:=hE.trans h1;clear h1 hE QR;clear hr hf hR Qe Qr hk0 hk1 hc hV hx;go_enter Tryz.func66,Tryz.ntmps66
 go_wp2_with fail
 refine (HS.out _ Qb.out).mono ?_;rintro e w' ⟨rfl,rfl⟩;rw [<-Qi.out];generalize w.alloc _=W1 at *;obtain ⟨Qc,Qt,Qu,Qv,hX⟩:=zax Qn Qi.out Qb.out Qg HZ.out;have HX:=yb hX;clear Qg hX;go_wp2_with fail
 refine (Qs.out _ HX.out.bel).mono ?_;rintro e w' ⟨rfl,rfl⟩;clear Qc Qt Qu Qv;generalize W1.alloc _=W2 at *;generalize W1.heap.size=p at *;clear HZ Qb;go_wp2_with fail
 refine (QM.out _ HX.out.bel).mono ?_;rintro e w' ⟨rfl,rfl⟩;have QT:=yb (zfW (Q5.out _ HX.out.bel) (by rw [Q7.out];omega));rw [Q7.out] at QT;rw [HN.out] at QT;unfold zd1 at QT;go_wp2_with fail
 refine QT.out.mono ?_;clear QT HN
 cases N with
 | none =>
  rintro e w3 ⟨Qy,rfl⟩;unfold valC zbn;have Qa:=yb ((HX.out.on Qy).alloc (.cells #[.int .i64 0,.int .i64 0,.string ⟨#[]⟩,.slice none 0 0] 25));have HV:=yb (Qw.out.trans (za7 (e:=17) Qx.out QS.out (by rw [HT.out];rfl) (by decide)));clear Qy;obtain ⟨⟨k0,k1,k2,k3,k4,k5,k6,k7⟩,m0,m1,m2,m3,m4,m5,m6,m7⟩:=zah Qa.out.blk;obtain ⟨⟨n0,n1,n2,n3,n4,n5,n6,n7⟩,-⟩:=zah Qa.out.no;go_wp2;refine yi (zaa rfl _ _ r 81 _ (0,0) _ rfl (set8 Qa.out.blk _ _ _ _ _ _ _ _) Tryz.underlying81 rfl zas _ rfl) rfl ?_;exact zau (x:={ kind:=0 }) Qa.out.bel Qa.out.wr HV.out _ _ _ _ _ _ _ _
 | some o =>
  rintro e w3 ⟨Qy,rfl⟩;unfold valC;have Qa:=yb ((HX.out.on Qy).alloc (.cells #[.int .i64 5,.int .i64 0,.string (mkB o),.slice none 0 0] 25));have HV:=yb (Qw.out.trans (zbg Qx.out QS.out (x:={ kind:=1,vk:=5,vs:=o }) (j:=bs.length) (by rw [HT.out];rfl) Zc.out));clear Qy;obtain ⟨⟨k0,k1,k2,k3,k4,k5,k6,k7⟩,m0,m1,m2,m3,m4,m5,m6,m7⟩:=zah Qa.out.blk;obtain ⟨⟨n0,n1,n2,n3,n4,n5,n6,n7⟩,-⟩:=zah Qa.out.no;go_wp2;refine yi (zaa rfl _ _ r 81 _ (0,0) _ rfl (set8 Qa.out.blk _ _ _ _ _ _ _ _) Tryz.underlying81 rfl zas _ rfl) rfl ?_;exact zau (x:={ kind:=1,vk:=5,vs:=o }) Qa.out.bel Qa.out.wr HV.out _ _ _ _ _ _ _ _
theorem zhm {w:World} {a:Option Addr} {cap:Nat} {bs:List UInt8} (hr:Row w 1 a bs.length cap (bs.map u8C)) (hn:bs.length<=400000) {k:Int} (yq:Bool) (hk0:0<=k) (hk1:k<=bs.length) {f:Nat} (hf:zaL bs k=f) (hfl:f<bs.length) {V:Tk×Int×Int×Int} (hV:V=zbw bs f yq) (hc0:bs.getD f 0=47) (hla:yq=true) (hcf1:cap=f+1) :
  Calls Tryz.prog 66 #[.slice a bs.length cap,.int .i64 k,.bool yq] w (zaF w V):=by
 have Q8:=hr.2.1;have HV:=yb (hV.trans (zbg (yq:=yq) hfl hc0 (x:={ kind:=1,vk:=5,vs:=[] }) (j:=bs.length) (by rw [zbm (by omega),List.drop_length,hla];rfl) (by omega)));subst hla;obtain ⟨b,off,R,r,x,rfl,Qn,hx,hR,Qd,Qe,Qo,QG,QH,Qp,QI,Qq,QJ,QK,Qr,hS,Qf,hc,Qg,hZ,Qh⟩:=zaG hr hn hk0 hk1 hf hfl;have QC:=yb hr;have HC:=yb hc;have HS:=yb hS;have Qs:=yb Qf;have QL:=yb hR;have Qk:=yb Qd;have Qi:=yb Qe;have HZ:=yb hZ;have Qb:=yb Qh;clear hS Qf Qd hZ Qh;obtain rfl:x=47:=by rw [<-hx,hc0];rfl
 have QM:=yb (fun (W:World) (h:Below w.heap.size w W)=>zd4 (QC.out.mono h) hn bs.length (yp _));rw [show bs.length+runN (bs.drop bs.length)=bs.length by rw [List.drop_length];rfl] at QM;have Zj:f+1=bs.length:=by omega
 have Zk:(f:Int)+1=(bs.length:Int):=by omega
 obtain rfl:cap=bs.length:=hcf1.trans Zj;clear hcf1 Q8;clear hr hf hR Qe Qr hk0 hk1 hc hV hx;go_enter Tryz.func66,Tryz.ntmps66
 go_wp2_with fail
 refine (HS.out _ Qb.out).mono ?_;rintro e w' ⟨rfl,rfl⟩;rw [<-Qi.out];generalize w.alloc _=W1 at *;obtain ⟨Qc,Qt,Qu,Qv,hX⟩:=zax Qn Qi.out Qb.out Qg HZ.out;have HX:=yb hX;clear Qg hX;go_wp2_with fail
 refine (Qs.out _ HX.out.bel).mono ?_;rintro e w' ⟨rfl,rfl⟩;clear Qc Qt Qu Qv;generalize W1.alloc _=W2 at *;generalize W1.heap.size=p at *;clear HZ Qb;go_wp2_with fail
 refine (QM.out _ HX.out.bel).mono ?_;rintro e w' ⟨rfl,rfl⟩;have QT:=yb (zfW (bs:=[]) (Row.none1 W2 ⟨b,off,none⟩) (by simp));rw [show zdR []=some [] from rfl] at QT;unfold zd1 at QT;go_wp2_with fail
 refine QT.out.mono ?_;clear QT;rintro e w3 ⟨Qy,rfl⟩;unfold valC;have Qa:=yb ((HX.out.on Qy).alloc (.cells #[.int .i64 5,.int .i64 0,.string (mkB []),.slice none 0 0] 25));clear Qy;obtain ⟨⟨k0,k1,k2,k3,k4,k5,k6,k7⟩,m0,m1,m2,m3,m4,m5,m6,m7⟩:=zah Qa.out.blk;obtain ⟨⟨n0,n1,n2,n3,n4,n5,n6,n7⟩,-⟩:=zah Qa.out.no;go_wp2;refine yi (zaa rfl _ _ r 81 _ (0,0) _ rfl (set8 Qa.out.blk _ _ _ _ _ _ _ _) Tryz.underlying81 rfl zas _ rfl) rfl ?_;exact zau (x:={ kind:=1,vk:=5,vs:=[] }) Qa.out.bel Qa.out.wr HV.out _ _ _ _ _ _ _ _
theorem zhB {w:World} {a:Option Addr} {cap:Nat} {bs:List UInt8} (hr:Row w 1 a bs.length cap (bs.map u8C)) (hn:bs.length<=400000) {k:Int} (yq:Bool) (hk0:0<=k) (hk1:k<=bs.length) {f:Nat} (hf:zaL bs k=f) (hfl:f<bs.length) {V:Tk×Int×Int×Int} (hV:V=zbw bs f yq) (hreg:isRg (bs.getD f 0)=true) (h1:f+runN (bs.drop f)=bs.length) (hla:yq=false) :
  Calls Tryz.prog 66 #[.slice a bs.length cap,.int .i64 k,.bool yq] w (zaF w V):=by
 have HT:=yb (show tokV yq (bs.getD f 0) (bs.drop (f+1))=_ from zbI (X:=⟨none,0,bs,yq⟩) (k:=f) hfl hreg);have HV:=yb (hV.trans (za7 (e:=6) hfl rfl (by rw [HT.out];unfold rgV;rw [yg ⟨show runN (bs.drop f)=(bs.drop f).length by rw [ym];omega,hla⟩]) (by decide)));clear HT;subst hla
 have QB:isDl (bs.getD f 0)=false:=by
  have h:=hreg;unfold isRg at h
  cases hh:isDl (bs.getD f 0) with
  | false=>rfl
  | true=>rw [hh] at h;simp at h
 have n91:bs.getD f 0≠91:=fun e=>by rw [e] at hreg;exact absurd hreg (by decide)
 have n93:bs.getD f 0≠93:=fun e=>by rw [e] at hreg;exact absurd hreg (by decide)
 have n60:bs.getD f 0≠60:=fun e=>by rw [e] at hreg;exact absurd hreg (by decide)
 have n62:bs.getD f 0≠62:=fun e=>by rw [e] at hreg;exact absurd hreg (by decide)
 have n40:bs.getD f 0≠40:=fun e=>by rw [e] at hreg;exact absurd hreg (by decide)
 have n47:bs.getD f 0≠47:=fun e=>by rw [e] at hreg;exact absurd hreg (by decide)
 have e91:=zaw n91 91 rfl;have e93:=zaw n93 93 rfl;have e60:=zaw n60 60 rfl;have e62:=zaw n62 62 rfl;have e40:=zaw n40 40 rfl;have e47:=zaw n47 47 rfl;obtain ⟨b,off,R,r,x,rfl,Qn,hx,hR,Qd,Qe,Qo,QG,QH,Qp,QI,Qq,QJ,QK,Qr,hS,Qf,hc,Qg,hZ,Qh⟩:=zaG hr hn hk0 hk1 hf hfl;have QC:=yb hr;have HC:=yb hc;have HS:=yb hS;have Qs:=yb Qf;have QL:=yb hR;have Qk:=yb Qd;have Qi:=yb Qe;have HZ:=yb hZ;have Qb:=yb Qh;clear hS Qf Qd hZ Qh;have Ql:=yb (fun W=>zaV (bs.getD f 0).toNat W);rw [<-zb6,QB] at Ql;rw [hx] at Ql e91 e93 e60 e62 e40 e47;clear n91 n93 n60 n62 n40 n47 QB hreg;obtain rfl:R=bs.length:=hR.trans h1;clear h1;clear hr hf hR Qe Qr hk0 hk1 hc hV hx;go_enter Tryz.func66,Tryz.ntmps66
 go_wp2_with fail
 refine (HS.out _ Qb.out).mono ?_;rintro e w' ⟨rfl,rfl⟩;rw [<-Qi.out];generalize w.alloc _=W1 at *;obtain ⟨Qc,Qt,Qu,Qv,hX⟩:=zax Qn Qi.out Qb.out Qg HZ.out;have HX:=yb hX;clear Qg hX;go_wp2_with fail
 refine (Qs.out _ HX.out.bel).mono ?_;rintro e w' ⟨rfl,rfl⟩;clear Qc Qt Qu Qv;generalize W1.alloc _=W2 at *;generalize W1.heap.size=p at *;clear HZ Qb;obtain ⟨⟨k0,k1,k2,k3,k4,k5,k6,k7⟩,m0,m1,m2,m3,m4,m5,m6,m7⟩:=zah HX.out.blk;obtain ⟨⟨n0,n1,n2,n3,n4,n5,n6,n7⟩,-⟩:=zah HX.out.no;go_wp2_with (go_at_call 82;refine (Ql.out _).mono ?_;rintro e w' ⟨rfl,rfl⟩)
 refine yi (zaa rfl _ _ r 81 _ (0,0) _ rfl (set8 HX.out.blk _ _ _ _ _ _ _ _) Tryz.underlying81 rfl zas _ rfl) rfl ?_;exact zau (x:={ kind:=0 }) HX.out.bel HX.out.wr HV.out _ _ _ _ _ _ _ _
theorem zgI {w:World} {a:Option Addr} {cap:Nat} {bs:List UInt8} (hr:Row w 1 a bs.length cap (bs.map u8C)) (hn:bs.length<=400000) {k:Int} (yq:Bool) (hk0:0<=k) (hk1:k<=bs.length) {f:Nat} (hf:zaL bs k=f) (hfl:f<bs.length) {V:Tk×Int×Int×Int} (hV:V=zbw bs f yq) (hreg:isRg (bs.getD f 0)=true) (h1:f+runN (bs.drop f)≠bs.length) (hd:48<=(bs.getD f 0).toNat/\(bs.getD f 0).toNat<=57) :
  Calls Tryz.prog 66 #[.slice a bs.length cap,.int .i64 k,.bool yq] w (zaF w V):=by
 have HT:=yb (show tokV yq (bs.getD f 0) (bs.drop (f+1))=_ from zbI (X:=⟨none,0,bs,yq⟩) (k:=f) hfl hreg)
 have QD:¬(runN ((⟨none,0,bs,yq⟩:Src).bs.drop f)=((⟨none,0,bs,yq⟩:Src).bs.drop f).length/\(⟨none,0,bs,yq⟩:Src).yq=false):=by
  show ¬(runN (bs.drop f)=(bs.drop f).length/\yq=false);rw [ym];intro h;exact h1 (by omega)
 have Qj:(isDg (bs.getD f 0)=true\/bs.getD f 0=43\/bs.getD f 0=45\/bs.getD f 0=46):=by
  exact .inl (by unfold isDg;simp;exact hd)
 have ht:=HT.out;unfold rgV at ht;rw [yh QD,yg Qj] at ht;rw [List.drop_drop] at ht;clear HT QD Qj;obtain ⟨P,hP⟩:∃P,zaP (regs (bs.drop f))=P:=⟨_,rfl⟩;have QN:tokV yq (bs.getD f 0) (bs.drop (f+1))=(P.2.2,{ kind:=1,vk:=P.1,vn:=P.2.1 },bs.drop (f+runN (bs.drop f))):=by rw [<-hP];exact ht
 have HP:=yb hP;have HT:=yb QN;clear ht QN hP;have Qw:=yb hV;have Qx:=yb hfl
 have QB:isDl (bs.getD f 0)=false:=by
  have h:=hreg;unfold isRg at h
  cases hh:isDl (bs.getD f 0) with
  | false=>rfl
  | true=>rw [hh] at h;simp at h
 have n91:bs.getD f 0≠91:=fun e=>by rw [e] at hreg;exact absurd hreg (by decide)
 have n93:bs.getD f 0≠93:=fun e=>by rw [e] at hreg;exact absurd hreg (by decide)
 have n60:bs.getD f 0≠60:=fun e=>by rw [e] at hreg;exact absurd hreg (by decide)
 have n62:bs.getD f 0≠62:=fun e=>by rw [e] at hreg;exact absurd hreg (by decide)
 have n40:bs.getD f 0≠40:=fun e=>by rw [e] at hreg;exact absurd hreg (by decide)
 have n47:bs.getD f 0≠47:=fun e=>by rw [e] at hreg;exact absurd hreg (by decide)
 have e91:=zaw n91 91 rfl;have e93:=zaw n93 93 rfl;have e60:=zaw n60 60 rfl;have e62:=zaw n62 62 rfl;have e40:=zaw n40 40 rfl;have e47:=zaw n47 47 rfl;obtain ⟨b,off,R,r,x,rfl,Qn,hx,hR,Qd,Qe,Qo,QG,QH,Qp,QI,Qq,QJ,QK,Qr,hS,Qf,hc,Qg,hZ,Qh⟩:=zaG hr hn hk0 hk1 hf hfl;have QC:=yb hr;have HC:=yb hc;have HS:=yb hS;have Qs:=yb Qf;have QL:=yb hR;have Qk:=yb Qd;have Qi:=yb Qe;have HZ:=yb hZ;have Qb:=yb Qh;clear hS Qf Qd hZ Qh;have Ql:=yb (fun W=>zaV (bs.getD f 0).toNat W);rw [<-zb6,QB] at Ql;rw [hx] at Ql e91 e93 e60 e62 e40 e47;clear n91 n93 n60 n62 n40 n47 QB hreg;rw [<-hR] at HT;have QE:(bs.drop f).take (R-f)=regs (bs.drop f):=by rw [zbk,hR,Nat.add_sub_cancel_left]
 have QO:=yb QE;have QP:=zbu (bs.drop f);have QX:f<=R:=by omega
 have QQ:R<=bs.length:=Qk.out;have hcf1:¬cap=f:=by omega
 have Qm:=yb (show (regs (bs.drop f)).length<=400000 by show runN _<=_;omega);clear QE QP;rw [hx] at hd;have d1:decide ((48:Int)<=x)=true:=yd (by omega);have d2:decide ((x:Int)<=57)=true:=yd (by omega);clear hd;have q1:((R:Int)==(bs.length:Int))=false:=by rw [yf];omega
 have q2:decide (R=bs.length)=false:=ye (by omega);clear h1;clear hr hf hR Qe Qr hk0 hk1 hc hV hx;go_enter Tryz.func66,Tryz.ntmps66
 go_wp2_with fail
 refine (HS.out _ Qb.out).mono ?_;rintro e w' ⟨rfl,rfl⟩;rw [<-Qi.out];generalize w.alloc _=W1 at *;obtain ⟨Qc,Qt,Qu,Qv,hX⟩:=zax Qn Qi.out Qb.out Qg HZ.out;have HX:=yb hX;clear Qg hX;go_wp2_with fail
 refine (Qs.out _ HX.out.bel).mono ?_;rintro e w' ⟨rfl,rfl⟩;clear Qc Qt Qu Qv;generalize W1.alloc _=W2 at *;generalize W1.heap.size=p at *;clear HZ Qb;have Qz:(convert 28 9 (.slice (some ⟨b,off+f,none⟩) (R-f) (cap-f))).run Tryz.prog W2=.ok (.string (mkB ((bs.drop f).take (R-f)))) W2:=za1 (X:=⟨none,0,bs,true⟩) HC.out f (R-f) (by have:=Qk.out;show f+_<=bs.length;omega) W2 HX.out.bel;rw [QO.out] at Qz;obtain ⟨s,hs⟩:∃s,mkB (regs (bs.drop f))=s:=⟨_,rfl⟩;have QF:bl s=regs (bs.drop f):=by rw [<-hs];rfl
 have QA:=yb (zb2 s W2 (by rw [<-zaC,QF];exact Qm.out));rw [QF,HP.out] at QA;rw [hs] at Qz;unfold zbE valC zbn at QA;clear hs QF;go_wp2_with (go_at_call 82;refine (Ql.out _).mono ?_;rintro e w' ⟨rfl,rfl⟩)
 refine QA.out.mono ?_;rintro e w3 ⟨rfl,Qy⟩;have Qa:=yb ((HX.out.on Qy).alloc (.cells #[.int .i64 P.1,.int .i64 P.2.1,.string ⟨#[]⟩,.slice none 0 0] 25));clear Qy Qz QA
 by_cases her:P.2.2=0
 ·have HV:=yb (Qw.out.trans (zbg Qx.out rfl (x:={ kind:=1,vk:=P.1,vn:=P.2.1 }) (j:=R) (by rw [HT.out,her]) Qk.out))
  rw [her];clear her;obtain ⟨⟨k0,k1,k2,k3,k4,k5,k6,k7⟩,m0,m1,m2,m3,m4,m5,m6,m7⟩:=zah Qa.out.blk;obtain ⟨⟨n0,n1,n2,n3,n4,n5,n6,n7⟩,-⟩:=zah Qa.out.no;go_wp2;refine yi (zaa rfl _ _ r 81 _ (0,0) _ rfl (set8 Qa.out.blk _ _ _ _ _ _ _ _) Tryz.underlying81 rfl zas _ rfl) rfl ?_;exact zau (x:={ kind:=1,vk:=P.1,vn:=P.2.1 }) Qa.out.bel Qa.out.wr HV.out _ _ _ _ _ _ _ _
 ·have HV:=yb (Qw.out.trans (za7 (e:=P.2.2) Qx.out rfl (by rw [HT.out]) her))
  have er1:(P.2.2==0)=false:=by rw [yf];exact her
  have er2:(P.2.2 != 0)=true:=by simp only [bne,er1,yj]
  clear her;obtain ⟨⟨k0,k1,k2,k3,k4,k5,k6,k7⟩,m0,m1,m2,m3,m4,m5,m6,m7⟩:=zah Qa.out.blk;obtain ⟨⟨n0,n1,n2,n3,n4,n5,n6,n7⟩,-⟩:=zah Qa.out.no;go_wp2;refine yi (zaa rfl _ _ r 81 _ (0,0) _ rfl (set8 Qa.out.blk _ _ _ _ _ _ _ _) Tryz.underlying81 rfl zas _ rfl) rfl ?_;exact zau (x:={ kind:=0 }) Qa.out.bel Qa.out.wr HV.out _ _ _ _ _ _ _ _
theorem rnext_43_in {w:World} {a:Option Addr} {cap:Nat} {bs:List UInt8} (hr:Row w 1 a bs.length cap (bs.map u8C)) (hn:bs.length<=400000) {k:Int} (yq:Bool) (hk0:0<=k) (hk1:k<=bs.length) {f:Nat} (hf:zaL bs k=f) (hfl:f<bs.length) {V:Tk×Int×Int×Int} (hV:V=zbw bs f yq) (hreg:isRg (bs.getD f 0)=true) (h1:f+runN (bs.drop f)≠bs.length) (hc0:bs.getD f 0=43) :
  Calls Tryz.prog 66 #[.slice a bs.length cap,.int .i64 k,.bool yq] w (zaF w V):=by
 have HT:=yb (show tokV yq (bs.getD f 0) (bs.drop (f+1))=_ from zbI (X:=⟨none,0,bs,yq⟩) (k:=f) hfl hreg)
 have QD:¬(runN ((⟨none,0,bs,yq⟩:Src).bs.drop f)=((⟨none,0,bs,yq⟩:Src).bs.drop f).length/\(⟨none,0,bs,yq⟩:Src).yq=false):=by
  show ¬(runN (bs.drop f)=(bs.drop f).length/\yq=false);rw [ym];intro h;exact h1 (by omega)
 have Qj:(isDg (bs.getD f 0)=true\/bs.getD f 0=43\/bs.getD f 0=45\/bs.getD f 0=46):=by
  exact .inr (.inl hc0)
 have ht:=HT.out;unfold rgV at ht;rw [yh QD,yg Qj] at ht;rw [List.drop_drop] at ht;clear HT QD Qj;obtain ⟨P,hP⟩:∃P,zaP (regs (bs.drop f))=P:=⟨_,rfl⟩;have QN:tokV yq (bs.getD f 0) (bs.drop (f+1))=(P.2.2,{ kind:=1,vk:=P.1,vn:=P.2.1 },bs.drop (f+runN (bs.drop f))):=by rw [<-hP];exact ht
 have HP:=yb hP;have HT:=yb QN;clear ht QN hP;have Qw:=yb hV;have Qx:=yb hfl
 have QB:isDl (bs.getD f 0)=false:=by
  have h:=hreg;unfold isRg at h
  cases hh:isDl (bs.getD f 0) with
  | false=>rfl
  | true=>rw [hh] at h;simp at h
 have n91:bs.getD f 0≠91:=fun e=>by rw [e] at hreg;exact absurd hreg (by decide)
 have n93:bs.getD f 0≠93:=fun e=>by rw [e] at hreg;exact absurd hreg (by decide)
 have n60:bs.getD f 0≠60:=fun e=>by rw [e] at hreg;exact absurd hreg (by decide)
 have n62:bs.getD f 0≠62:=fun e=>by rw [e] at hreg;exact absurd hreg (by decide)
 have n40:bs.getD f 0≠40:=fun e=>by rw [e] at hreg;exact absurd hreg (by decide)
 have n47:bs.getD f 0≠47:=fun e=>by rw [e] at hreg;exact absurd hreg (by decide)
 have e91:=zaw n91 91 rfl;have e93:=zaw n93 93 rfl;have e60:=zaw n60 60 rfl;have e62:=zaw n62 62 rfl;have e40:=zaw n40 40 rfl;have e47:=zaw n47 47 rfl;obtain ⟨b,off,R,r,x,rfl,Qn,hx,hR,Qd,Qe,Qo,QG,QH,Qp,QI,Qq,QJ,QK,Qr,hS,Qf,hc,Qg,hZ,Qh⟩:=zaG hr hn hk0 hk1 hf hfl;have QC:=yb hr;have HC:=yb hc;have HS:=yb hS;have Qs:=yb Qf;have QL:=yb hR;have Qk:=yb Qd;have Qi:=yb Qe;have HZ:=yb hZ;have Qb:=yb Qh;clear hS Qf Qd hZ Qh;have Ql:=yb (fun W=>zaV (bs.getD f 0).toNat W);rw [<-zb6,QB] at Ql;rw [hx] at Ql e91 e93 e60 e62 e40 e47;clear n91 n93 n60 n62 n40 n47 QB hreg;rw [<-hR] at HT;have QE:(bs.drop f).take (R-f)=regs (bs.drop f):=by rw [zbk,hR,Nat.add_sub_cancel_left]
 have QO:=yb QE;have QP:=zbu (bs.drop f);have QX:f<=R:=by omega
 have QQ:R<=bs.length:=Qk.out;have hcf1:¬cap=f:=by omega
 have Qm:=yb (show (regs (bs.drop f)).length<=400000 by show runN _<=_;omega);clear QE QP;obtain rfl:x=43:=by rw [<-hx,hc0];rfl
 clear hc0;have q1:((R:Int)==(bs.length:Int))=false:=by rw [yf];omega
 have q2:decide (R=bs.length)=false:=ye (by omega);clear h1;clear hr hf hR Qe Qr hk0 hk1 hc hV hx;go_enter Tryz.func66,Tryz.ntmps66
 go_wp2_with fail
 refine (HS.out _ Qb.out).mono ?_;rintro e w' ⟨rfl,rfl⟩;rw [<-Qi.out];generalize w.alloc _=W1 at *;obtain ⟨Qc,Qt,Qu,Qv,hX⟩:=zax Qn Qi.out Qb.out Qg HZ.out;have HX:=yb hX;clear Qg hX;go_wp2_with fail
 refine (Qs.out _ HX.out.bel).mono ?_;rintro e w' ⟨rfl,rfl⟩;clear Qc Qt Qu Qv;generalize W1.alloc _=W2 at *;generalize W1.heap.size=p at *;clear HZ Qb;have Qz:(convert 28 9 (.slice (some ⟨b,off+f,none⟩) (R-f) (cap-f))).run Tryz.prog W2=.ok (.string (mkB ((bs.drop f).take (R-f)))) W2:=za1 (X:=⟨none,0,bs,true⟩) HC.out f (R-f) (by have:=Qk.out;show f+_<=bs.length;omega) W2 HX.out.bel;rw [QO.out] at Qz;obtain ⟨s,hs⟩:∃s,mkB (regs (bs.drop f))=s:=⟨_,rfl⟩;have QF:bl s=regs (bs.drop f):=by rw [<-hs];rfl
 have QA:=yb (zb2 s W2 (by rw [<-zaC,QF];exact Qm.out));rw [QF,HP.out] at QA;rw [hs] at Qz;unfold zbE valC zbn at QA;clear hs QF;go_wp2_with (go_at_call 82;refine (Ql.out _).mono ?_;rintro e w' ⟨rfl,rfl⟩)
 refine QA.out.mono ?_;rintro e w3 ⟨rfl,Qy⟩;have Qa:=yb ((HX.out.on Qy).alloc (.cells #[.int .i64 P.1,.int .i64 P.2.1,.string ⟨#[]⟩,.slice none 0 0] 25));clear Qy Qz QA
 by_cases her:P.2.2=0
 ·have HV:=yb (Qw.out.trans (zbg Qx.out rfl (x:={ kind:=1,vk:=P.1,vn:=P.2.1 }) (j:=R) (by rw [HT.out,her]) Qk.out))
  rw [her];clear her;obtain ⟨⟨k0,k1,k2,k3,k4,k5,k6,k7⟩,m0,m1,m2,m3,m4,m5,m6,m7⟩:=zah Qa.out.blk;obtain ⟨⟨n0,n1,n2,n3,n4,n5,n6,n7⟩,-⟩:=zah Qa.out.no;go_wp2;refine yi (zaa rfl _ _ r 81 _ (0,0) _ rfl (set8 Qa.out.blk _ _ _ _ _ _ _ _) Tryz.underlying81 rfl zas _ rfl) rfl ?_;exact zau (x:={ kind:=1,vk:=P.1,vn:=P.2.1 }) Qa.out.bel Qa.out.wr HV.out _ _ _ _ _ _ _ _
 ·have HV:=yb (Qw.out.trans (za7 (e:=P.2.2) Qx.out rfl (by rw [HT.out]) her))
  have er1:(P.2.2==0)=false:=by rw [yf];exact her
  have er2:(P.2.2 != 0)=true:=by simp only [bne,er1,yj]
  clear her;obtain ⟨⟨k0,k1,k2,k3,k4,k5,k6,k7⟩,m0,m1,m2,m3,m4,m5,m6,m7⟩:=zah Qa.out.blk;obtain ⟨⟨n0,n1,n2,n3,n4,n5,n6,n7⟩,-⟩:=zah Qa.out.no;go_wp2;refine yi (zaa rfl _ _ r 81 _ (0,0) _ rfl (set8 Qa.out.blk _ _ _ _ _ _ _ _) Tryz.underlying81 rfl zas _ rfl) rfl ?_;exact zau (x:={ kind:=0 }) Qa.out.bel Qa.out.wr HV.out _ _ _ _ _ _ _ _
theorem rnext_45_in {w:World} {a:Option Addr} {cap:Nat} {bs:List UInt8} (hr:Row w 1 a bs.length cap (bs.map u8C)) (hn:bs.length<=400000) {k:Int} (yq:Bool) (hk0:0<=k) (hk1:k<=bs.length) {f:Nat} (hf:zaL bs k=f) (hfl:f<bs.length) {V:Tk×Int×Int×Int} (hV:V=zbw bs f yq) (hreg:isRg (bs.getD f 0)=true) (h1:f+runN (bs.drop f)≠bs.length) (hc0:bs.getD f 0=45) :
  Calls Tryz.prog 66 #[.slice a bs.length cap,.int .i64 k,.bool yq] w (zaF w V):=by
 have HT:=yb (show tokV yq (bs.getD f 0) (bs.drop (f+1))=_ from zbI (X:=⟨none,0,bs,yq⟩) (k:=f) hfl hreg)
 have QD:¬(runN ((⟨none,0,bs,yq⟩:Src).bs.drop f)=((⟨none,0,bs,yq⟩:Src).bs.drop f).length/\(⟨none,0,bs,yq⟩:Src).yq=false):=by
  show ¬(runN (bs.drop f)=(bs.drop f).length/\yq=false);rw [ym];intro h;exact h1 (by omega)
 have Qj:(isDg (bs.getD f 0)=true\/bs.getD f 0=43\/bs.getD f 0=45\/bs.getD f 0=46):=by
  exact .inr (.inr (.inl hc0))
 have ht:=HT.out;unfold rgV at ht;rw [yh QD,yg Qj] at ht;rw [List.drop_drop] at ht;clear HT QD Qj;obtain ⟨P,hP⟩:∃P,zaP (regs (bs.drop f))=P:=⟨_,rfl⟩;have QN:tokV yq (bs.getD f 0) (bs.drop (f+1))=(P.2.2,{ kind:=1,vk:=P.1,vn:=P.2.1 },bs.drop (f+runN (bs.drop f))):=by rw [<-hP];exact ht
 have HP:=yb hP;have HT:=yb QN;clear ht QN hP;have Qw:=yb hV;have Qx:=yb hfl
 have QB:isDl (bs.getD f 0)=false:=by
  have h:=hreg;unfold isRg at h
  cases hh:isDl (bs.getD f 0) with
  | false=>rfl
  | true=>rw [hh] at h;simp at h
 have n91:bs.getD f 0≠91:=fun e=>by rw [e] at hreg;exact absurd hreg (by decide)
 have n93:bs.getD f 0≠93:=fun e=>by rw [e] at hreg;exact absurd hreg (by decide)
 have n60:bs.getD f 0≠60:=fun e=>by rw [e] at hreg;exact absurd hreg (by decide)
 have n62:bs.getD f 0≠62:=fun e=>by rw [e] at hreg;exact absurd hreg (by decide)
 have n40:bs.getD f 0≠40:=fun e=>by rw [e] at hreg;exact absurd hreg (by decide)
 have n47:bs.getD f 0≠47:=fun e=>by rw [e] at hreg;exact absurd hreg (by decide)
 have e91:=zaw n91 91 rfl;have e93:=zaw n93 93 rfl;have e60:=zaw n60 60 rfl;have e62:=zaw n62 62 rfl;have e40:=zaw n40 40 rfl;have e47:=zaw n47 47 rfl;obtain ⟨b,off,R,r,x,rfl,Qn,hx,hR,Qd,Qe,Qo,QG,QH,Qp,QI,Qq,QJ,QK,Qr,hS,Qf,hc,Qg,hZ,Qh⟩:=zaG hr hn hk0 hk1 hf hfl;have QC:=yb hr;have HC:=yb hc;have HS:=yb hS;have Qs:=yb Qf;have QL:=yb hR;have Qk:=yb Qd;have Qi:=yb Qe;have HZ:=yb hZ;have Qb:=yb Qh;clear hS Qf Qd hZ Qh;have Ql:=yb (fun W=>zaV (bs.getD f 0).toNat W);rw [<-zb6,QB] at Ql;rw [hx] at Ql e91 e93 e60 e62 e40 e47;clear n91 n93 n60 n62 n40 n47 QB hreg;rw [<-hR] at HT;have QE:(bs.drop f).take (R-f)=regs (bs.drop f):=by rw [zbk,hR,Nat.add_sub_cancel_left]
 have QO:=yb QE;have QP:=zbu (bs.drop f);have QX:f<=R:=by omega
 have QQ:R<=bs.length:=Qk.out;have hcf1:¬cap=f:=by omega
 have Qm:=yb (show (regs (bs.drop f)).length<=400000 by show runN _<=_;omega);clear QE QP;obtain rfl:x=45:=by rw [<-hx,hc0];rfl
 clear hc0;have q1:((R:Int)==(bs.length:Int))=false:=by rw [yf];omega
 have q2:decide (R=bs.length)=false:=ye (by omega);clear h1;clear hr hf hR Qe Qr hk0 hk1 hc hV hx;go_enter Tryz.func66,Tryz.ntmps66
 go_wp2_with fail
 refine (HS.out _ Qb.out).mono ?_;rintro e w' ⟨rfl,rfl⟩;rw [<-Qi.out];generalize w.alloc _=W1 at *;obtain ⟨Qc,Qt,Qu,Qv,hX⟩:=zax Qn Qi.out Qb.out Qg HZ.out;have HX:=yb hX;clear Qg hX;go_wp2_with fail
 refine (Qs.out _ HX.out.bel).mono ?_;rintro e w' ⟨rfl,rfl⟩;clear Qc Qt Qu Qv;generalize W1.alloc _=W2 at *;generalize W1.heap.size=p at *;clear HZ Qb;have Qz:(convert 28 9 (.slice (some ⟨b,off+f,none⟩) (R-f) (cap-f))).run Tryz.prog W2=.ok (.string (mkB ((bs.drop f).take (R-f)))) W2:=za1 (X:=⟨none,0,bs,true⟩) HC.out f (R-f) (by have:=Qk.out;show f+_<=bs.length;omega) W2 HX.out.bel;rw [QO.out] at Qz;obtain ⟨s,hs⟩:∃s,mkB (regs (bs.drop f))=s:=⟨_,rfl⟩;have QF:bl s=regs (bs.drop f):=by rw [<-hs];rfl
 have QA:=yb (zb2 s W2 (by rw [<-zaC,QF];exact Qm.out));rw [QF,HP.out] at QA;rw [hs] at Qz;unfold zbE valC zbn at QA;clear hs QF;go_wp2_with (go_at_call 82;refine (Ql.out _).mono ?_;rintro e w' ⟨rfl,rfl⟩)
 refine QA.out.mono ?_;rintro e w3 ⟨rfl,Qy⟩;have Qa:=yb ((HX.out.on Qy).alloc (.cells #[.int .i64 P.1,.int .i64 P.2.1,.string ⟨#[]⟩,.slice none 0 0] 25));clear Qy Qz QA
 by_cases her:P.2.2=0
 ·have HV:=yb (Qw.out.trans (zbg Qx.out rfl (x:={ kind:=1,vk:=P.1,vn:=P.2.1 }) (j:=R) (by rw [HT.out,her]) Qk.out))
  rw [her];clear her;obtain ⟨⟨k0,k1,k2,k3,k4,k5,k6,k7⟩,m0,m1,m2,m3,m4,m5,m6,m7⟩:=zah Qa.out.blk;obtain ⟨⟨n0,n1,n2,n3,n4,n5,n6,n7⟩,-⟩:=zah Qa.out.no;go_wp2;refine yi (zaa rfl _ _ r 81 _ (0,0) _ rfl (set8 Qa.out.blk _ _ _ _ _ _ _ _) Tryz.underlying81 rfl zas _ rfl) rfl ?_;exact zau (x:={ kind:=1,vk:=P.1,vn:=P.2.1 }) Qa.out.bel Qa.out.wr HV.out _ _ _ _ _ _ _ _
 ·have HV:=yb (Qw.out.trans (za7 (e:=P.2.2) Qx.out rfl (by rw [HT.out]) her))
  have er1:(P.2.2==0)=false:=by rw [yf];exact her
  have er2:(P.2.2 != 0)=true:=by simp only [bne,er1,yj]
  clear her;obtain ⟨⟨k0,k1,k2,k3,k4,k5,k6,k7⟩,m0,m1,m2,m3,m4,m5,m6,m7⟩:=zah Qa.out.blk;obtain ⟨⟨n0,n1,n2,n3,n4,n5,n6,n7⟩,-⟩:=zah Qa.out.no;go_wp2;refine yi (zaa rfl _ _ r 81 _ (0,0) _ rfl (set8 Qa.out.blk _ _ _ _ _ _ _ _) Tryz.underlying81 rfl zas _ rfl) rfl ?_;exact zau (x:={ kind:=0 }) Qa.out.bel Qa.out.wr HV.out _ _ _ _ _ _ _ _
theorem rnext_46_in {w:World} {a:Option Addr} {cap:Nat} {bs:List UInt8} (hr:Row w 1 a bs.length cap (bs.map u8C)) (hn:bs.length<=400000) {k:Int} (yq:Bool) (hk0:0<=k) (hk1:k<=bs.length) {f:Nat} (hf:zaL bs k=f) (hfl:f<bs.length) {V:Tk×Int×Int×Int} (hV:V=zbw bs f yq) (hreg:isRg (bs.getD f 0)=true) (h1:f+runN (bs.drop f)≠bs.length) (hc0:bs.getD f 0=46) :
  Calls Tryz.prog 66 #[.slice a bs.length cap,.int .i64 k,.bool yq] w (zaF w V):=by
 have HT:=yb (show tokV yq (bs.getD f 0) (bs.drop (f+1))=_ from zbI (X:=⟨none,0,bs,yq⟩) (k:=f) hfl hreg)
 have QD:¬(runN ((⟨none,0,bs,yq⟩:Src).bs.drop f)=((⟨none,0,bs,yq⟩:Src).bs.drop f).length/\(⟨none,0,bs,yq⟩:Src).yq=false):=by
  show ¬(runN (bs.drop f)=(bs.drop f).length/\yq=false);rw [ym];intro h;exact h1 (by omega)
 have Qj:(isDg (bs.getD f 0)=true\/bs.getD f 0=43\/bs.getD f 0=45\/bs.getD f 0=46):=by
  exact .inr (.inr (.inr hc0))
 have ht:=HT.out;unfold rgV at ht;rw [yh QD,yg Qj] at ht;rw [List.drop_drop] at ht;clear HT QD Qj;obtain ⟨P,hP⟩:∃P,zaP (regs (bs.drop f))=P:=⟨_,rfl⟩;have QN:tokV yq (bs.getD f 0) (bs.drop (f+1))=(P.2.2,{ kind:=1,vk:=P.1,vn:=P.2.1 },bs.drop (f+runN (bs.drop f))):=by rw [<-hP];exact ht
 have HP:=yb hP;have HT:=yb QN;clear ht QN hP;have Qw:=yb hV;have Qx:=yb hfl
 have QB:isDl (bs.getD f 0)=false:=by
  have h:=hreg;unfold isRg at h
  cases hh:isDl (bs.getD f 0) with
  | false=>rfl
  | true=>rw [hh] at h;simp at h
 have n91:bs.getD f 0≠91:=fun e=>by rw [e] at hreg;exact absurd hreg (by decide)
 have n93:bs.getD f 0≠93:=fun e=>by rw [e] at hreg;exact absurd hreg (by decide)
 have n60:bs.getD f 0≠60:=fun e=>by rw [e] at hreg;exact absurd hreg (by decide)
 have n62:bs.getD f 0≠62:=fun e=>by rw [e] at hreg;exact absurd hreg (by decide)
 have n40:bs.getD f 0≠40:=fun e=>by rw [e] at hreg;exact absurd hreg (by decide)
 have n47:bs.getD f 0≠47:=fun e=>by rw [e] at hreg;exact absurd hreg (by decide)
 have e91:=zaw n91 91 rfl;have e93:=zaw n93 93 rfl;have e60:=zaw n60 60 rfl;have e62:=zaw n62 62 rfl;have e40:=zaw n40 40 rfl;have e47:=zaw n47 47 rfl;obtain ⟨b,off,R,r,x,rfl,Qn,hx,hR,Qd,Qe,Qo,QG,QH,Qp,QI,Qq,QJ,QK,Qr,hS,Qf,hc,Qg,hZ,Qh⟩:=zaG hr hn hk0 hk1 hf hfl;have QC:=yb hr;have HC:=yb hc;have HS:=yb hS;have Qs:=yb Qf;have QL:=yb hR;have Qk:=yb Qd;have Qi:=yb Qe;have HZ:=yb hZ;have Qb:=yb Qh;clear hS Qf Qd hZ Qh;have Ql:=yb (fun W=>zaV (bs.getD f 0).toNat W);rw [<-zb6,QB] at Ql;rw [hx] at Ql e91 e93 e60 e62 e40 e47;clear n91 n93 n60 n62 n40 n47 QB hreg;rw [<-hR] at HT;have QE:(bs.drop f).take (R-f)=regs (bs.drop f):=by rw [zbk,hR,Nat.add_sub_cancel_left]
 have QO:=yb QE;have QP:=zbu (bs.drop f);have QX:f<=R:=by omega
 have QQ:R<=bs.length:=Qk.out;have hcf1:¬cap=f:=by omega
 have Qm:=yb (show (regs (bs.drop f)).length<=400000 by show runN _<=_;omega);clear QE QP;obtain rfl:x=46:=by rw [<-hx,hc0];rfl
 clear hc0;have q1:((R:Int)==(bs.length:Int))=false:=by rw [yf];omega
 have q2:decide (R=bs.length)=false:=ye (by omega);clear h1;clear hr hf hR Qe Qr hk0 hk1 hc hV hx;go_enter Tryz.func66,Tryz.ntmps66
 go_wp2_with fail
 refine (HS.out _ Qb.out).mono ?_;rintro e w' ⟨rfl,rfl⟩;rw [<-Qi.out];generalize w.alloc _=W1 at *;obtain ⟨Qc,Qt,Qu,Qv,hX⟩:=zax Qn Qi.out Qb.out Qg HZ.out;have HX:=yb hX;clear Qg hX;go_wp2_with fail
 refine (Qs.out _ HX.out.bel).mono ?_;rintro e w' ⟨rfl,rfl⟩;clear Qc Qt Qu Qv;generalize W1.alloc _=W2 at *;generalize W1.heap.size=p at *;clear HZ Qb;have Qz:(convert 28 9 (.slice (some ⟨b,off+f,none⟩) (R-f) (cap-f))).run Tryz.prog W2=.ok (.string (mkB ((bs.drop f).take (R-f)))) W2:=za1 (X:=⟨none,0,bs,true⟩) HC.out f (R-f) (by have:=Qk.out;show f+_<=bs.length;omega) W2 HX.out.bel;rw [QO.out] at Qz;obtain ⟨s,hs⟩:∃s,mkB (regs (bs.drop f))=s:=⟨_,rfl⟩;have QF:bl s=regs (bs.drop f):=by rw [<-hs];rfl
 have QA:=yb (zb2 s W2 (by rw [<-zaC,QF];exact Qm.out));rw [QF,HP.out] at QA;rw [hs] at Qz;unfold zbE valC zbn at QA;clear hs QF;go_wp2_with (go_at_call 82;refine (Ql.out _).mono ?_;rintro e w' ⟨rfl,rfl⟩)
 refine QA.out.mono ?_;rintro e w3 ⟨rfl,Qy⟩;have Qa:=yb ((HX.out.on Qy).alloc (.cells #[.int .i64 P.1,.int .i64 P.2.1,.string ⟨#[]⟩,.slice none 0 0] 25));clear Qy Qz QA
 by_cases her:P.2.2=0
 ·have HV:=yb (Qw.out.trans (zbg Qx.out rfl (x:={ kind:=1,vk:=P.1,vn:=P.2.1 }) (j:=R) (by rw [HT.out,her]) Qk.out))
  rw [her];clear her;obtain ⟨⟨k0,k1,k2,k3,k4,k5,k6,k7⟩,m0,m1,m2,m3,m4,m5,m6,m7⟩:=zah Qa.out.blk;obtain ⟨⟨n0,n1,n2,n3,n4,n5,n6,n7⟩,-⟩:=zah Qa.out.no;go_wp2;refine yi (zaa rfl _ _ r 81 _ (0,0) _ rfl (set8 Qa.out.blk _ _ _ _ _ _ _ _) Tryz.underlying81 rfl zas _ rfl) rfl ?_;exact zau (x:={ kind:=1,vk:=P.1,vn:=P.2.1 }) Qa.out.bel Qa.out.wr HV.out _ _ _ _ _ _ _ _
 ·have HV:=yb (Qw.out.trans (za7 (e:=P.2.2) Qx.out rfl (by rw [HT.out]) her))
  have er1:(P.2.2==0)=false:=by rw [yf];exact her
  have er2:(P.2.2 != 0)=true:=by simp only [bne,er1,yj]
  clear her;obtain ⟨⟨k0,k1,k2,k3,k4,k5,k6,k7⟩,m0,m1,m2,m3,m4,m5,m6,m7⟩:=zah Qa.out.blk;obtain ⟨⟨n0,n1,n2,n3,n4,n5,n6,n7⟩,-⟩:=zah Qa.out.no;go_wp2;refine yi (zaa rfl _ _ r 81 _ (0,0) _ rfl (set8 Qa.out.blk _ _ _ _ _ _ _ _) Tryz.underlying81 rfl zas _ rfl) rfl ?_;exact zau (x:={ kind:=0 }) Qa.out.bel Qa.out.wr HV.out _ _ _ _ _ _ _ _
theorem rnext_low_in {w:World} {a:Option Addr} {cap:Nat} {bs:List UInt8} (hr:Row w 1 a bs.length cap (bs.map u8C)) (hn:bs.length<=400000) {k:Int} (yq:Bool) (hk0:0<=k) (hk1:k<=bs.length) {f:Nat} (hf:zaL bs k=f) (hfl:f<bs.length) {V:Tk×Int×Int×Int} (hV:V=zbw bs f yq) (hreg:isRg (bs.getD f 0)=true) (h1:f+runN (bs.drop f)≠bs.length) (hd:(bs.getD f 0).toNat<48/\bs.getD f 0≠43/\bs.getD f 0≠45/\bs.getD f 0≠46) :
  Calls Tryz.prog 66 #[.slice a bs.length cap,.int .i64 k,.bool yq] w (zaF w V):=by
 have HT:=yb (show tokV yq (bs.getD f 0) (bs.drop (f+1))=_ from zbI (X:=⟨none,0,bs,yq⟩) (k:=f) hfl hreg)
 have QD:¬(runN ((⟨none,0,bs,yq⟩:Src).bs.drop f)=((⟨none,0,bs,yq⟩:Src).bs.drop f).length/\(⟨none,0,bs,yq⟩:Src).yq=false):=by
  show ¬(runN (bs.drop f)=(bs.drop f).length/\yq=false);rw [ym];intro h;exact h1 (by omega)
 have Qj:¬(isDg (bs.getD f 0)=true\/bs.getD f 0=43\/bs.getD f 0=45\/bs.getD f 0=46):=by
  rintro (h|h|h|h)
  ·have h2:=zba.1 h;have:=hd.1;omega
  ·exact hd.2.1 h
  ·exact hd.2.2.1 h
  ·exact hd.2.2.2 h
 have ht:=HT.out;unfold rgV at ht;rw [yh QD,yh Qj] at ht;rw [List.drop_drop] at ht;clear HT QD Qj;have HT:=yb (show tokV yq (bs.getD f 0) (bs.drop (f+1))=(0,{ kind:=6,s:=regs (bs.drop f) },bs.drop (f+runN (bs.drop f))) from ht);clear ht;have Qw:=yb hV;have Qx:=yb hfl
 have QB:isDl (bs.getD f 0)=false:=by
  have h:=hreg;unfold isRg at h
  cases hh:isDl (bs.getD f 0) with
  | false=>rfl
  | true=>rw [hh] at h;simp at h
 have n91:bs.getD f 0≠91:=fun e=>by rw [e] at hreg;exact absurd hreg (by decide)
 have n93:bs.getD f 0≠93:=fun e=>by rw [e] at hreg;exact absurd hreg (by decide)
 have n60:bs.getD f 0≠60:=fun e=>by rw [e] at hreg;exact absurd hreg (by decide)
 have n62:bs.getD f 0≠62:=fun e=>by rw [e] at hreg;exact absurd hreg (by decide)
 have n40:bs.getD f 0≠40:=fun e=>by rw [e] at hreg;exact absurd hreg (by decide)
 have n47:bs.getD f 0≠47:=fun e=>by rw [e] at hreg;exact absurd hreg (by decide)
 have e91:=zaw n91 91 rfl;have e93:=zaw n93 93 rfl;have e60:=zaw n60 60 rfl;have e62:=zaw n62 62 rfl;have e40:=zaw n40 40 rfl;have e47:=zaw n47 47 rfl;have e43:=zaw hd.2.1 43 rfl;have e45:=zaw hd.2.2.1 45 rfl;have e46:=zaw hd.2.2.2 46 rfl;have Q9:=hd.1;clear hd;obtain ⟨b,off,R,r,x,rfl,Qn,hx,hR,Qd,Qe,Qo,QG,QH,Qp,QI,Qq,QJ,QK,Qr,hS,Qf,hc,Qg,hZ,Qh⟩:=zaG hr hn hk0 hk1 hf hfl;have QC:=yb hr;have HC:=yb hc;have HS:=yb hS;have Qs:=yb Qf;have QL:=yb hR;have Qk:=yb Qd;have Qi:=yb Qe;have HZ:=yb hZ;have Qb:=yb Qh;clear hS Qf Qd hZ Qh;have Ql:=yb (fun W=>zaV (bs.getD f 0).toNat W);rw [<-zb6,QB] at Ql;rw [hx] at Ql e91 e93 e60 e62 e40 e47;clear n91 n93 n60 n62 n40 n47 QB hreg;rw [<-hR] at HT;have QE:(bs.drop f).take (R-f)=regs (bs.drop f):=by rw [zbk,hR,Nat.add_sub_cancel_left]
 have QO:=yb QE;have QP:=zbu (bs.drop f);have QX:f<=R:=by omega
 have QQ:R<=bs.length:=Qk.out;have hcf1:¬cap=f:=by omega
 have Qm:=yb (show (regs (bs.drop f)).length<=400000 by show runN _<=_;omega);clear QE QP;rw [hx] at Q9 e43 e45 e46;have d1:decide ((48:Int)<=x)=false:=ye (by omega);clear Q9;have q1:((R:Int)==(bs.length:Int))=false:=by rw [yf];omega
 have q2:decide (R=bs.length)=false:=ye (by omega);clear h1;clear hr hf hR Qe Qr hk0 hk1 hc hV hx;go_enter Tryz.func66,Tryz.ntmps66
 go_wp2_with fail
 refine (HS.out _ Qb.out).mono ?_;rintro e w' ⟨rfl,rfl⟩;rw [<-Qi.out];generalize w.alloc _=W1 at *;obtain ⟨Qc,Qt,Qu,Qv,hX⟩:=zax Qn Qi.out Qb.out Qg HZ.out;have HX:=yb hX;clear Qg hX;go_wp2_with fail
 refine (Qs.out _ HX.out.bel).mono ?_;rintro e w' ⟨rfl,rfl⟩;clear Qc Qt Qu Qv;generalize W1.alloc _=W2 at *;generalize W1.heap.size=p at *;clear HZ Qb;have Qz:(convert 28 9 (.slice (some ⟨b,off+f,none⟩) (R-f) (cap-f))).run Tryz.prog W2=.ok (.string (mkB ((bs.drop f).take (R-f)))) W2:=za1 (X:=⟨none,0,bs,true⟩) HC.out f (R-f) (by have:=Qk.out;show f+_<=bs.length;omega) W2 HX.out.bel;rw [QO.out] at Qz;have HV:=yb (Qw.out.trans (zbg Qx.out rfl (x:={ kind:=6,s:=regs (bs.drop f) }) (j:=R) HT.out Qk.out));obtain ⟨⟨k0,k1,k2,k3,k4,k5,k6,k7⟩,m0,m1,m2,m3,m4,m5,m6,m7⟩:=zah HX.out.blk;obtain ⟨⟨n0,n1,n2,n3,n4,n5,n6,n7⟩,-⟩:=zah HX.out.no;go_wp2_with (go_at_call 82;refine (Ql.out _).mono ?_;rintro e w' ⟨rfl,rfl⟩)
 refine yi (zaa rfl _ _ r 81 _ (0,0) _ rfl (set8 HX.out.blk _ _ _ _ _ _ _ _) Tryz.underlying81 rfl zas _ rfl) rfl ?_;exact zau (x:={ kind:=6,s:=regs (bs.drop f) }) HX.out.bel HX.out.wr HV.out _ _ _ _ _ _ _ _
theorem zhE {w:World} {a:Option Addr} {cap:Nat} {bs:List UInt8} (hr:Row w 1 a bs.length cap (bs.map u8C)) (hn:bs.length<=400000) {k:Int} (yq:Bool) (hk0:0<=k) (hk1:k<=bs.length) {f:Nat} (hf:zaL bs k=f) (hfl:f<bs.length) {V:Tk×Int×Int×Int} (hV:V=zbw bs f yq) (hreg:isRg (bs.getD f 0)=true) (h1:f+runN (bs.drop f)≠bs.length) (hd:57<(bs.getD f 0).toNat) :
  Calls Tryz.prog 66 #[.slice a bs.length cap,.int .i64 k,.bool yq] w (zaF w V):=by
 have HT:=yb (show tokV yq (bs.getD f 0) (bs.drop (f+1))=_ from zbI (X:=⟨none,0,bs,yq⟩) (k:=f) hfl hreg)
 have QD:¬(runN ((⟨none,0,bs,yq⟩:Src).bs.drop f)=((⟨none,0,bs,yq⟩:Src).bs.drop f).length/\(⟨none,0,bs,yq⟩:Src).yq=false):=by
  show ¬(runN (bs.drop f)=(bs.drop f).length/\yq=false);rw [ym];intro h;exact h1 (by omega)
 have Qj:¬(isDg (bs.getD f 0)=true\/bs.getD f 0=43\/bs.getD f 0=45\/bs.getD f 0=46):=by
  rintro (h|h|h|h)
  ·have h2:=zba.1 h;omega
  ·rw [h] at hd;exact absurd hd (by decide)
  ·rw [h] at hd;exact absurd hd (by decide)
  ·rw [h] at hd;exact absurd hd (by decide)
 have ht:=HT.out;unfold rgV at ht;rw [yh QD,yh Qj] at ht;rw [List.drop_drop] at ht;clear HT QD Qj;have HT:=yb (show tokV yq (bs.getD f 0) (bs.drop (f+1))=(0,{ kind:=6,s:=regs (bs.drop f) },bs.drop (f+runN (bs.drop f))) from ht);clear ht;have Qw:=yb hV;have Qx:=yb hfl
 have QB:isDl (bs.getD f 0)=false:=by
  have h:=hreg;unfold isRg at h
  cases hh:isDl (bs.getD f 0) with
  | false=>rfl
  | true=>rw [hh] at h;simp at h
 have n91:bs.getD f 0≠91:=fun e=>by rw [e] at hreg;exact absurd hreg (by decide)
 have n93:bs.getD f 0≠93:=fun e=>by rw [e] at hreg;exact absurd hreg (by decide)
 have n60:bs.getD f 0≠60:=fun e=>by rw [e] at hreg;exact absurd hreg (by decide)
 have n62:bs.getD f 0≠62:=fun e=>by rw [e] at hreg;exact absurd hreg (by decide)
 have n40:bs.getD f 0≠40:=fun e=>by rw [e] at hreg;exact absurd hreg (by decide)
 have n47:bs.getD f 0≠47:=fun e=>by rw [e] at hreg;exact absurd hreg (by decide)
 have e91:=zaw n91 91 rfl;have e93:=zaw n93 93 rfl;have e60:=zaw n60 60 rfl;have e62:=zaw n62 62 rfl;have e40:=zaw n40 40 rfl;have e47:=zaw n47 47 rfl;obtain ⟨b,off,R,r,x,rfl,Qn,hx,hR,Qd,Qe,Qo,QG,QH,Qp,QI,Qq,QJ,QK,Qr,hS,Qf,hc,Qg,hZ,Qh⟩:=zaG hr hn hk0 hk1 hf hfl;have QC:=yb hr;have HC:=yb hc;have HS:=yb hS;have Qs:=yb Qf;have QL:=yb hR;have Qk:=yb Qd;have Qi:=yb Qe;have HZ:=yb hZ;have Qb:=yb Qh;clear hS Qf Qd hZ Qh;have Ql:=yb (fun W=>zaV (bs.getD f 0).toNat W);rw [<-zb6,QB] at Ql;rw [hx] at Ql e91 e93 e60 e62 e40 e47;clear n91 n93 n60 n62 n40 n47 QB hreg;rw [<-hR] at HT;have QE:(bs.drop f).take (R-f)=regs (bs.drop f):=by rw [zbk,hR,Nat.add_sub_cancel_left]
 have QO:=yb QE;have QP:=zbu (bs.drop f);have QX:f<=R:=by omega
 have QQ:R<=bs.length:=Qk.out;have hcf1:¬cap=f:=by omega
 have Qm:=yb (show (regs (bs.drop f)).length<=400000 by show runN _<=_;omega);clear QE QP;rw [hx] at hd;have d1:decide ((48:Int)<=x)=true:=yd (by omega);have d2:decide ((x:Int)<=57)=false:=ye (by omega);have e43:((x:Int)==43)=false:=by rw [yf];omega
 have e45:((x:Int)==45)=false:=by rw [yf];omega
 have e46:((x:Int)==46)=false:=by rw [yf];omega
 clear hd;have q1:((R:Int)==(bs.length:Int))=false:=by rw [yf];omega
 have q2:decide (R=bs.length)=false:=ye (by omega);clear h1;clear hr hf hR Qe Qr hk0 hk1 hc hV hx;go_enter Tryz.func66,Tryz.ntmps66
 go_wp2_with fail
 refine (HS.out _ Qb.out).mono ?_;rintro e w' ⟨rfl,rfl⟩;rw [<-Qi.out];generalize w.alloc _=W1 at *;obtain ⟨Qc,Qt,Qu,Qv,hX⟩:=zax Qn Qi.out Qb.out Qg HZ.out;have HX:=yb hX;clear Qg hX;go_wp2_with fail
 refine (Qs.out _ HX.out.bel).mono ?_;rintro e w' ⟨rfl,rfl⟩;clear Qc Qt Qu Qv;generalize W1.alloc _=W2 at *;generalize W1.heap.size=p at *;clear HZ Qb;have Qz:(convert 28 9 (.slice (some ⟨b,off+f,none⟩) (R-f) (cap-f))).run Tryz.prog W2=.ok (.string (mkB ((bs.drop f).take (R-f)))) W2:=za1 (X:=⟨none,0,bs,true⟩) HC.out f (R-f) (by have:=Qk.out;show f+_<=bs.length;omega) W2 HX.out.bel;rw [QO.out] at Qz;have HV:=yb (Qw.out.trans (zbg Qx.out rfl (x:={ kind:=6,s:=regs (bs.drop f) }) (j:=R) HT.out Qk.out));obtain ⟨⟨k0,k1,k2,k3,k4,k5,k6,k7⟩,m0,m1,m2,m3,m4,m5,m6,m7⟩:=zah HX.out.blk;obtain ⟨⟨n0,n1,n2,n3,n4,n5,n6,n7⟩,-⟩:=zah HX.out.no;go_wp2_with (go_at_call 82;refine (Ql.out _).mono ?_;rintro e w' ⟨rfl,rfl⟩)
 refine yi (zaa rfl _ _ r 81 _ (0,0) _ rfl (set8 HX.out.blk _ _ _ _ _ _ _ _) Tryz.underlying81 rfl zas _ rfl) rfl ?_;exact zau (x:={ kind:=6,s:=regs (bs.drop f) }) HX.out.bel HX.out.wr HV.out _ _ _ _ _ _ _ _
theorem zfN {w:World} {a:Option Addr} {cap:Nat} {bs:List UInt8} (hr:Row w 1 a bs.length cap (bs.map u8C)) (hn:bs.length<=400000) {k:Int} (yq:Bool) (hk0:0<=k) (hk1:k<=bs.length) {f:Nat} (hf:zaL bs k=f) (hfl:f<bs.length) {V:Tk×Int×Int×Int} (hV:V=zbw bs f yq) (hreg:isRg (bs.getD f 0)=true) (h1:f+runN (bs.drop f)=bs.length) (hla:yq=true) (hd:48<=(bs.getD f 0).toNat/\(bs.getD f 0).toNat<=57) :
  Calls Tryz.prog 66 #[.slice a bs.length cap,.int .i64 k,.bool yq] w (zaF w V):=by
 have HT:=yb (show tokV yq (bs.getD f 0) (bs.drop (f+1))=_ from zbI (X:=⟨none,0,bs,yq⟩) (k:=f) hfl hreg)
 have QD:¬(runN ((⟨none,0,bs,yq⟩:Src).bs.drop f)=((⟨none,0,bs,yq⟩:Src).bs.drop f).length/\(⟨none,0,bs,yq⟩:Src).yq=false):=by
  show ¬(runN (bs.drop f)=(bs.drop f).length/\yq=false);rw [ym];rw [hla];simp
 have Qj:(isDg (bs.getD f 0)=true\/bs.getD f 0=43\/bs.getD f 0=45\/bs.getD f 0=46):=by
  exact .inl (by unfold isDg;simp;exact hd)
 have ht:=HT.out;unfold rgV at ht;rw [yh QD,yg Qj] at ht;rw [List.drop_drop] at ht;clear HT QD Qj;obtain ⟨P,hP⟩:∃P,zaP (regs (bs.drop f))=P:=⟨_,rfl⟩;have QN:tokV yq (bs.getD f 0) (bs.drop (f+1))=(P.2.2,{ kind:=1,vk:=P.1,vn:=P.2.1 },bs.drop (f+runN (bs.drop f))):=by rw [<-hP];exact ht
 have HP:=yb hP;have HT:=yb QN;clear ht QN hP;have Qw:=yb hV;have Qx:=yb hfl;subst hla
 have QB:isDl (bs.getD f 0)=false:=by
  have h:=hreg;unfold isRg at h
  cases hh:isDl (bs.getD f 0) with
  | false=>rfl
  | true=>rw [hh] at h;simp at h
 have n91:bs.getD f 0≠91:=fun e=>by rw [e] at hreg;exact absurd hreg (by decide)
 have n93:bs.getD f 0≠93:=fun e=>by rw [e] at hreg;exact absurd hreg (by decide)
 have n60:bs.getD f 0≠60:=fun e=>by rw [e] at hreg;exact absurd hreg (by decide)
 have n62:bs.getD f 0≠62:=fun e=>by rw [e] at hreg;exact absurd hreg (by decide)
 have n40:bs.getD f 0≠40:=fun e=>by rw [e] at hreg;exact absurd hreg (by decide)
 have n47:bs.getD f 0≠47:=fun e=>by rw [e] at hreg;exact absurd hreg (by decide)
 have e91:=zaw n91 91 rfl;have e93:=zaw n93 93 rfl;have e60:=zaw n60 60 rfl;have e62:=zaw n62 62 rfl;have e40:=zaw n40 40 rfl;have e47:=zaw n47 47 rfl;obtain ⟨b,off,R,r,x,rfl,Qn,hx,hR,Qd,Qe,Qo,QG,QH,Qp,QI,Qq,QJ,QK,Qr,hS,Qf,hc,Qg,hZ,Qh⟩:=zaG hr hn hk0 hk1 hf hfl;have QC:=yb hr;have HC:=yb hc;have HS:=yb hS;have Qs:=yb Qf;have QL:=yb hR;have Qk:=yb Qd;have Qi:=yb Qe;have HZ:=yb hZ;have Qb:=yb Qh;clear hS Qf Qd hZ Qh;have Ql:=yb (fun W=>zaV (bs.getD f 0).toNat W);rw [<-zb6,QB] at Ql;rw [hx] at Ql e91 e93 e60 e62 e40 e47;clear n91 n93 n60 n62 n40 n47 QB hreg;rw [<-hR] at HT;have QE:(bs.drop f).take (R-f)=regs (bs.drop f):=by rw [zbk,hR,Nat.add_sub_cancel_left]
 have QO:=yb QE;have QP:=zbu (bs.drop f);have QX:f<=R:=by omega
 have QQ:R<=bs.length:=Qk.out;have hcf1:¬cap=f:=by omega
 have Qm:=yb (show (regs (bs.drop f)).length<=400000 by show runN _<=_;omega);clear QE QP;rw [hx] at hd;have d1:decide ((48:Int)<=x)=true:=yd (by omega);have d2:decide ((x:Int)<=57)=true:=yd (by omega);clear hd;obtain rfl:R=bs.length:=hR.trans h1;clear h1;clear hr hf hR Qe Qr hk0 hk1 hc hV hx;go_enter Tryz.func66,Tryz.ntmps66
 go_wp2_with fail
 refine (HS.out _ Qb.out).mono ?_;rintro e w' ⟨rfl,rfl⟩;rw [<-Qi.out];generalize w.alloc _=W1 at *;obtain ⟨Qc,Qt,Qu,Qv,hX⟩:=zax Qn Qi.out Qb.out Qg HZ.out;have HX:=yb hX;clear Qg hX;go_wp2_with fail
 refine (Qs.out _ HX.out.bel).mono ?_;rintro e w' ⟨rfl,rfl⟩;clear Qc Qt Qu Qv;generalize W1.alloc _=W2 at *;generalize W1.heap.size=p at *;clear HZ Qb;have Qz:(convert 28 9 (.slice (some ⟨b,off+f,none⟩) (bs.length-f) (cap-f))).run Tryz.prog W2=.ok (.string (mkB ((bs.drop f).take (bs.length-f)))) W2:=za1 (X:=⟨none,0,bs,true⟩) HC.out f (bs.length-f) (by have:=Qk.out;show f+_<=bs.length;omega) W2 HX.out.bel;rw [QO.out] at Qz;obtain ⟨s,hs⟩:∃s,mkB (regs (bs.drop f))=s:=⟨_,rfl⟩;have QF:bl s=regs (bs.drop f):=by rw [<-hs];rfl
 have QA:=yb (zb2 s W2 (by rw [<-zaC,QF];exact Qm.out));rw [QF,HP.out] at QA;rw [hs] at Qz;unfold zbE valC zbn at QA;clear hs QF;go_wp2_with (go_at_call 82;refine (Ql.out _).mono ?_;rintro e w' ⟨rfl,rfl⟩)
 refine QA.out.mono ?_;rintro e w3 ⟨rfl,Qy⟩;have Qa:=yb ((HX.out.on Qy).alloc (.cells #[.int .i64 P.1,.int .i64 P.2.1,.string ⟨#[]⟩,.slice none 0 0] 25));clear Qy Qz QA
 by_cases her:P.2.2=0
 ·have HV:=yb (Qw.out.trans (zbg Qx.out rfl (x:={ kind:=1,vk:=P.1,vn:=P.2.1 }) (j:=bs.length) (by rw [HT.out,her]) Qk.out))
  rw [her];clear her;obtain ⟨⟨k0,k1,k2,k3,k4,k5,k6,k7⟩,m0,m1,m2,m3,m4,m5,m6,m7⟩:=zah Qa.out.blk;obtain ⟨⟨n0,n1,n2,n3,n4,n5,n6,n7⟩,-⟩:=zah Qa.out.no;go_wp2;refine yi (zaa rfl _ _ r 81 _ (0,0) _ rfl (set8 Qa.out.blk _ _ _ _ _ _ _ _) Tryz.underlying81 rfl zas _ rfl) rfl ?_;exact zau (x:={ kind:=1,vk:=P.1,vn:=P.2.1 }) Qa.out.bel Qa.out.wr HV.out _ _ _ _ _ _ _ _
 ·have HV:=yb (Qw.out.trans (za7 (e:=P.2.2) Qx.out rfl (by rw [HT.out]) her))
  have er1:(P.2.2==0)=false:=by rw [yf];exact her
  have er2:(P.2.2 != 0)=true:=by simp only [bne,er1,yj]
  clear her;obtain ⟨⟨k0,k1,k2,k3,k4,k5,k6,k7⟩,m0,m1,m2,m3,m4,m5,m6,m7⟩:=zah Qa.out.blk;obtain ⟨⟨n0,n1,n2,n3,n4,n5,n6,n7⟩,-⟩:=zah Qa.out.no;go_wp2;refine yi (zaa rfl _ _ r 81 _ (0,0) _ rfl (set8 Qa.out.blk _ _ _ _ _ _ _ _) Tryz.underlying81 rfl zas _ rfl) rfl ?_;exact zau (x:={ kind:=0 }) Qa.out.bel Qa.out.wr HV.out _ _ _ _ _ _ _ _
theorem rnext_43_end {w:World} {a:Option Addr} {cap:Nat} {bs:List UInt8} (hr:Row w 1 a bs.length cap (bs.map u8C)) (hn:bs.length<=400000) {k:Int} (yq:Bool) (hk0:0<=k) (hk1:k<=bs.length) {f:Nat} (hf:zaL bs k=f) (hfl:f<bs.length) {V:Tk×Int×Int×Int} (hV:V=zbw bs f yq) (hreg:isRg (bs.getD f 0)=true) (h1:f+runN (bs.drop f)=bs.length) (hla:yq=true) (hc0:bs.getD f 0=43) :
  Calls Tryz.prog 66 #[.slice a bs.length cap,.int .i64 k,.bool yq] w (zaF w V):=by
 have HT:=yb (show tokV yq (bs.getD f 0) (bs.drop (f+1))=_ from zbI (X:=⟨none,0,bs,yq⟩) (k:=f) hfl hreg)
 have QD:¬(runN ((⟨none,0,bs,yq⟩:Src).bs.drop f)=((⟨none,0,bs,yq⟩:Src).bs.drop f).length/\(⟨none,0,bs,yq⟩:Src).yq=false):=by
  show ¬(runN (bs.drop f)=(bs.drop f).length/\yq=false);rw [ym];rw [hla];simp
 have Qj:(isDg (bs.getD f 0)=true\/bs.getD f 0=43\/bs.getD f 0=45\/bs.getD f 0=46):=by
  exact .inr (.inl hc0)
 have ht:=HT.out;unfold rgV at ht;rw [yh QD,yg Qj] at ht;rw [List.drop_drop] at ht;clear HT QD Qj;obtain ⟨P,hP⟩:∃P,zaP (regs (bs.drop f))=P:=⟨_,rfl⟩;have QN:tokV yq (bs.getD f 0) (bs.drop (f+1))=(P.2.2,{ kind:=1,vk:=P.1,vn:=P.2.1 },bs.drop (f+runN (bs.drop f))):=by rw [<-hP];exact ht
 have HP:=yb hP;have HT:=yb QN;clear ht QN hP;have Qw:=yb hV;have Qx:=yb hfl;subst hla
 have QB:isDl (bs.getD f 0)=false:=by
  have h:=hreg;unfold isRg at h
  cases hh:isDl (bs.getD f 0) with
  | false=>rfl
  | true=>rw [hh] at h;simp at h
 have n91:bs.getD f 0≠91:=fun e=>by rw [e] at hreg;exact absurd hreg (by decide)
 have n93:bs.getD f 0≠93:=fun e=>by rw [e] at hreg;exact absurd hreg (by decide)
 have n60:bs.getD f 0≠60:=fun e=>by rw [e] at hreg;exact absurd hreg (by decide)
 have n62:bs.getD f 0≠62:=fun e=>by rw [e] at hreg;exact absurd hreg (by decide)
 have n40:bs.getD f 0≠40:=fun e=>by rw [e] at hreg;exact absurd hreg (by decide)
 have n47:bs.getD f 0≠47:=fun e=>by rw [e] at hreg;exact absurd hreg (by decide)
 have e91:=zaw n91 91 rfl;have e93:=zaw n93 93 rfl;have e60:=zaw n60 60 rfl;have e62:=zaw n62 62 rfl;have e40:=zaw n40 40 rfl;have e47:=zaw n47 47 rfl;obtain ⟨b,off,R,r,x,rfl,Qn,hx,hR,Qd,Qe,Qo,QG,QH,Qp,QI,Qq,QJ,QK,Qr,hS,Qf,hc,Qg,hZ,Qh⟩:=zaG hr hn hk0 hk1 hf hfl;have QC:=yb hr;have HC:=yb hc;have HS:=yb hS;have Qs:=yb Qf;have QL:=yb hR;have Qk:=yb Qd;have Qi:=yb Qe;have HZ:=yb hZ;have Qb:=yb Qh;clear hS Qf Qd hZ Qh;have Ql:=yb (fun W=>zaV (bs.getD f 0).toNat W);rw [<-zb6,QB] at Ql;rw [hx] at Ql e91 e93 e60 e62 e40 e47;clear n91 n93 n60 n62 n40 n47 QB hreg;rw [<-hR] at HT;have QE:(bs.drop f).take (R-f)=regs (bs.drop f):=by rw [zbk,hR,Nat.add_sub_cancel_left]
 have QO:=yb QE;have QP:=zbu (bs.drop f);have QX:f<=R:=by omega
 have QQ:R<=bs.length:=Qk.out;have hcf1:¬cap=f:=by omega
 have Qm:=yb (show (regs (bs.drop f)).length<=400000 by show runN _<=_;omega);clear QE QP;obtain rfl:x=43:=by rw [<-hx,hc0];rfl
 clear hc0;obtain rfl:R=bs.length:=hR.trans h1;clear h1;clear hr hf hR Qe Qr hk0 hk1 hc hV hx;go_enter Tryz.func66,Tryz.ntmps66
 go_wp2_with fail
 refine (HS.out _ Qb.out).mono ?_;rintro e w' ⟨rfl,rfl⟩;rw [<-Qi.out];generalize w.alloc _=W1 at *;obtain ⟨Qc,Qt,Qu,Qv,hX⟩:=zax Qn Qi.out Qb.out Qg HZ.out;have HX:=yb hX;clear Qg hX;go_wp2_with fail
 refine (Qs.out _ HX.out.bel).mono ?_;rintro e w' ⟨rfl,rfl⟩;clear Qc Qt Qu Qv;generalize W1.alloc _=W2 at *;generalize W1.heap.size=p at *;clear HZ Qb;have Qz:(convert 28 9 (.slice (some ⟨b,off+f,none⟩) (bs.length-f) (cap-f))).run Tryz.prog W2=.ok (.string (mkB ((bs.drop f).take (bs.length-f)))) W2:=za1 (X:=⟨none,0,bs,true⟩) HC.out f (bs.length-f) (by have:=Qk.out;show f+_<=bs.length;omega) W2 HX.out.bel;rw [QO.out] at Qz;obtain ⟨s,hs⟩:∃s,mkB (regs (bs.drop f))=s:=⟨_,rfl⟩;have QF:bl s=regs (bs.drop f):=by rw [<-hs];rfl
 have QA:=yb (zb2 s W2 (by rw [<-zaC,QF];exact Qm.out));rw [QF,HP.out] at QA;rw [hs] at Qz;unfold zbE valC zbn at QA;clear hs QF;go_wp2_with (go_at_call 82;refine (Ql.out _).mono ?_;rintro e w' ⟨rfl,rfl⟩)
 refine QA.out.mono ?_;rintro e w3 ⟨rfl,Qy⟩;have Qa:=yb ((HX.out.on Qy).alloc (.cells #[.int .i64 P.1,.int .i64 P.2.1,.string ⟨#[]⟩,.slice none 0 0] 25));clear Qy Qz QA
 by_cases her:P.2.2=0
 ·have HV:=yb (Qw.out.trans (zbg Qx.out rfl (x:={ kind:=1,vk:=P.1,vn:=P.2.1 }) (j:=bs.length) (by rw [HT.out,her]) Qk.out))
  rw [her];clear her;obtain ⟨⟨k0,k1,k2,k3,k4,k5,k6,k7⟩,m0,m1,m2,m3,m4,m5,m6,m7⟩:=zah Qa.out.blk;obtain ⟨⟨n0,n1,n2,n3,n4,n5,n6,n7⟩,-⟩:=zah Qa.out.no;go_wp2;refine yi (zaa rfl _ _ r 81 _ (0,0) _ rfl (set8 Qa.out.blk _ _ _ _ _ _ _ _) Tryz.underlying81 rfl zas _ rfl) rfl ?_;exact zau (x:={ kind:=1,vk:=P.1,vn:=P.2.1 }) Qa.out.bel Qa.out.wr HV.out _ _ _ _ _ _ _ _
 ·have HV:=yb (Qw.out.trans (za7 (e:=P.2.2) Qx.out rfl (by rw [HT.out]) her))
  have er1:(P.2.2==0)=false:=by rw [yf];exact her
  have er2:(P.2.2 != 0)=true:=by simp only [bne,er1,yj]
  clear her;obtain ⟨⟨k0,k1,k2,k3,k4,k5,k6,k7⟩,m0,m1,m2,m3,m4,m5,m6,m7⟩:=zah Qa.out.blk;obtain ⟨⟨n0,n1,n2,n3,n4,n5,n6,n7⟩,-⟩:=zah Qa.out.no;go_wp2;refine yi (zaa rfl _ _ r 81 _ (0,0) _ rfl (set8 Qa.out.blk _ _ _ _ _ _ _ _) Tryz.underlying81 rfl zas _ rfl) rfl ?_;exact zau (x:={ kind:=0 }) Qa.out.bel Qa.out.wr HV.out _ _ _ _ _ _ _ _
theorem rnext_45_end {w:World} {a:Option Addr} {cap:Nat} {bs:List UInt8} (hr:Row w 1 a bs.length cap (bs.map u8C)) (hn:bs.length<=400000) {k:Int} (yq:Bool) (hk0:0<=k) (hk1:k<=bs.length) {f:Nat} (hf:zaL bs k=f) (hfl:f<bs.length) {V:Tk×Int×Int×Int} (hV:V=zbw bs f yq) (hreg:isRg (bs.getD f 0)=true) (h1:f+runN (bs.drop f)=bs.length) (hla:yq=true) (hc0:bs.getD f 0=45) :
  Calls Tryz.prog 66 #[.slice a bs.length cap,.int .i64 k,.bool yq] w (zaF w V):=by
 have HT:=yb (show tokV yq (bs.getD f 0) (bs.drop (f+1))=_ from zbI (X:=⟨none,0,bs,yq⟩) (k:=f) hfl hreg)
 have QD:¬(runN ((⟨none,0,bs,yq⟩:Src).bs.drop f)=((⟨none,0,bs,yq⟩:Src).bs.drop f).length/\(⟨none,0,bs,yq⟩:Src).yq=false):=by
  show ¬(runN (bs.drop f)=(bs.drop f).length/\yq=false);rw [ym];rw [hla];simp
 have Qj:(isDg (bs.getD f 0)=true\/bs.getD f 0=43\/bs.getD f 0=45\/bs.getD f 0=46):=by
  exact .inr (.inr (.inl hc0))
 have ht:=HT.out;unfold rgV at ht;rw [yh QD,yg Qj] at ht;rw [List.drop_drop] at ht;clear HT QD Qj;obtain ⟨P,hP⟩:∃P,zaP (regs (bs.drop f))=P:=⟨_,rfl⟩;have QN:tokV yq (bs.getD f 0) (bs.drop (f+1))=(P.2.2,{ kind:=1,vk:=P.1,vn:=P.2.1 },bs.drop (f+runN (bs.drop f))):=by rw [<-hP];exact ht
 have HP:=yb hP;have HT:=yb QN;clear ht QN hP;have Qw:=yb hV;have Qx:=yb hfl;subst hla
 have QB:isDl (bs.getD f 0)=false:=by
  have h:=hreg;unfold isRg at h
  cases hh:isDl (bs.getD f 0) with
  | false=>rfl
  | true=>rw [hh] at h;simp at h
 have n91:bs.getD f 0≠91:=fun e=>by rw [e] at hreg;exact absurd hreg (by decide)
 have n93:bs.getD f 0≠93:=fun e=>by rw [e] at hreg;exact absurd hreg (by decide)
 have n60:bs.getD f 0≠60:=fun e=>by rw [e] at hreg;exact absurd hreg (by decide)
 have n62:bs.getD f 0≠62:=fun e=>by rw [e] at hreg;exact absurd hreg (by decide)
 have n40:bs.getD f 0≠40:=fun e=>by rw [e] at hreg;exact absurd hreg (by decide)
 have n47:bs.getD f 0≠47:=fun e=>by rw [e] at hreg;exact absurd hreg (by decide)
 have e91:=zaw n91 91 rfl;have e93:=zaw n93 93 rfl;have e60:=zaw n60 60 rfl;have e62:=zaw n62 62 rfl;have e40:=zaw n40 40 rfl;have e47:=zaw n47 47 rfl;obtain ⟨b,off,R,r,x,rfl,Qn,hx,hR,Qd,Qe,Qo,QG,QH,Qp,QI,Qq,QJ,QK,Qr,hS,Qf,hc,Qg,hZ,Qh⟩:=zaG hr hn hk0 hk1 hf hfl;have QC:=yb hr;have HC:=yb hc;have HS:=yb hS;have Qs:=yb Qf;have QL:=yb hR;have Qk:=yb Qd;have Qi:=yb Qe;have HZ:=yb hZ;have Qb:=yb Qh;clear hS Qf Qd hZ Qh;have Ql:=yb (fun W=>zaV (bs.getD f 0).toNat W);rw [<-zb6,QB] at Ql;rw [hx] at Ql e91 e93 e60 e62 e40 e47;clear n91 n93 n60 n62 n40 n47 QB hreg;rw [<-hR] at HT;have QE:(bs.drop f).take (R-f)=regs (bs.drop f):=by rw [zbk,hR,Nat.add_sub_cancel_left]
 have QO:=yb QE;have QP:=zbu (bs.drop f);have QX:f<=R:=by omega
 have QQ:R<=bs.length:=Qk.out;have hcf1:¬cap=f:=by omega
 have Qm:=yb (show (regs (bs.drop f)).length<=400000 by show runN _<=_;omega);clear QE QP;obtain rfl:x=45:=by rw [<-hx,hc0];rfl
 clear hc0;obtain rfl:R=bs.length:=hR.trans h1;clear h1;clear hr hf hR Qe Qr hk0 hk1 hc hV hx;go_enter Tryz.func66,Tryz.ntmps66
 go_wp2_with fail
 refine (HS.out _ Qb.out).mono ?_;rintro e w' ⟨rfl,rfl⟩;rw [<-Qi.out];generalize w.alloc _=W1 at *;obtain ⟨Qc,Qt,Qu,Qv,hX⟩:=zax Qn Qi.out Qb.out Qg HZ.out;have HX:=yb hX;clear Qg hX;go_wp2_with fail
 refine (Qs.out _ HX.out.bel).mono ?_;rintro e w' ⟨rfl,rfl⟩;clear Qc Qt Qu Qv;generalize W1.alloc _=W2 at *;generalize W1.heap.size=p at *;clear HZ Qb;have Qz:(convert 28 9 (.slice (some ⟨b,off+f,none⟩) (bs.length-f) (cap-f))).run Tryz.prog W2=.ok (.string (mkB ((bs.drop f).take (bs.length-f)))) W2:=za1 (X:=⟨none,0,bs,true⟩) HC.out f (bs.length-f) (by have:=Qk.out;show f+_<=bs.length;omega) W2 HX.out.bel;rw [QO.out] at Qz;obtain ⟨s,hs⟩:∃s,mkB (regs (bs.drop f))=s:=⟨_,rfl⟩;have QF:bl s=regs (bs.drop f):=by rw [<-hs];rfl
 have QA:=yb (zb2 s W2 (by rw [<-zaC,QF];exact Qm.out));rw [QF,HP.out] at QA;rw [hs] at Qz;unfold zbE valC zbn at QA;clear hs QF;go_wp2_with (go_at_call 82;refine (Ql.out _).mono ?_;rintro e w' ⟨rfl,rfl⟩)
 refine QA.out.mono ?_;rintro e w3 ⟨rfl,Qy⟩;have Qa:=yb ((HX.out.on Qy).alloc (.cells #[.int .i64 P.1,.int .i64 P.2.1,.string ⟨#[]⟩,.slice none 0 0] 25));clear Qy Qz QA
 by_cases her:P.2.2=0
 ·have HV:=yb (Qw.out.trans (zbg Qx.out rfl (x:={ kind:=1,vk:=P.1,vn:=P.2.1 }) (j:=bs.length) (by rw [HT.out,her]) Qk.out))
  rw [her];clear her;obtain ⟨⟨k0,k1,k2,k3,k4,k5,k6,k7⟩,m0,m1,m2,m3,m4,m5,m6,m7⟩:=zah Qa.out.blk;obtain ⟨⟨n0,n1,n2,n3,n4,n5,n6,n7⟩,-⟩:=zah Qa.out.no;go_wp2;refine yi (zaa rfl _ _ r 81 _ (0,0) _ rfl (set8 Qa.out.blk _ _ _ _ _ _ _ _) Tryz.underlying81 rfl zas _ rfl) rfl ?_;exact zau (x:={ kind:=1,vk:=P.1,vn:=P.2.1 }) Qa.out.bel Qa.out.wr HV.out _ _ _ _ _ _ _ _
 ·have HV:=yb (Qw.out.trans (za7 (e:=P.2.2) Qx.out rfl (by rw [HT.out]) her))
  have er1:(P.2.2==0)=false:=by rw [yf];exact her
  have er2:(P.2.2 != 0)=true:=by simp only [bne,er1,yj]
  clear her;obtain ⟨⟨k0,k1,k2,k3,k4,k5,k6,k7⟩,m0,m1,m2,m3,m4,m5,m6,m7⟩:=zah Qa.out.blk;obtain ⟨⟨n0,n1,n2,n3,n4,n5,n6,n7⟩,-⟩:=zah Qa.out.no;go_wp2;refine yi (zaa rfl _ _ r 81 _ (0,0) _ rfl (set8 Qa.out.blk _ _ _ _ _ _ _ _) Tryz.underlying81 rfl zas _ rfl) rfl ?_;exact zau (x:={ kind:=0 }) Qa.out.bel Qa.out.wr HV.out _ _ _ _ _ _ _ _
theorem rnext_46_end {w:World} {a:Option Addr} {cap:Nat} {bs:List UInt8} (hr:Row w 1 a bs.length cap (bs.map u8C)) (hn:bs.length<=400000) {k:Int} (yq:Bool) (hk0:0<=k) (hk1:k<=bs.length) {f:Nat} (hf:zaL bs k=f) (hfl:f<bs.length) {V:Tk×Int×Int×Int} (hV:V=zbw bs f yq) (hreg:isRg (bs.getD f 0)=true) (h1:f+runN (bs.drop f)=bs.length) (hla:yq=true) (hc0:bs.getD f 0=46) :
  Calls Tryz.prog 66 #[.slice a bs.length cap,.int .i64 k,.bool yq] w (zaF w V):=by
 have HT:=yb (show tokV yq (bs.getD f 0) (bs.drop (f+1))=_ from zbI (X:=⟨none,0,bs,yq⟩) (k:=f) hfl hreg)
 have QD:¬(runN ((⟨none,0,bs,yq⟩:Src).bs.drop f)=((⟨none,0,bs,yq⟩:Src).bs.drop f).length/\(⟨none,0,bs,yq⟩:Src).yq=false):=by
  show ¬(runN (bs.drop f)=(bs.drop f).length/\yq=false);rw [ym];rw [hla];simp
 have Qj:(isDg (bs.getD f 0)=true\/bs.getD f 0=43\/bs.getD f 0=45\/bs.getD f 0=46):=by
  exact .inr (.inr (.inr hc0))
 have ht:=HT.out;unfold rgV at ht;rw [yh QD,yg Qj] at ht;rw [List.drop_drop] at ht;clear HT QD Qj;obtain ⟨P,hP⟩:∃P,zaP (regs (bs.drop f))=P:=⟨_,rfl⟩;have QN:tokV yq (bs.getD f 0) (bs.drop (f+1))=(P.2.2,{ kind:=1,vk:=P.1,vn:=P.2.1 },bs.drop (f+runN (bs.drop f))):=by rw [<-hP];exact ht
 have HP:=yb hP;have HT:=yb QN;clear ht QN hP;have Qw:=yb hV;have Qx:=yb hfl;subst hla
 have QB:isDl (bs.getD f 0)=false:=by
  have h:=hreg;unfold isRg at h
  cases hh:isDl (bs.getD f 0) with
  | false=>rfl
  | true=>rw [hh] at h;simp at h
 have n91:bs.getD f 0≠91:=fun e=>by rw [e] at hreg;exact absurd hreg (by decide)
 have n93:bs.getD f 0≠93:=fun e=>by rw [e] at hreg;exact absurd hreg (by decide)
 have n60:bs.getD f 0≠60:=fun e=>by rw [e] at hreg;exact absurd hreg (by decide)
 have n62:bs.getD f 0≠62:=fun e=>by rw [e] at hreg;exact absurd hreg (by decide)
 have n40:bs.getD f 0≠40:=fun e=>by rw [e] at hreg;exact absurd hreg (by decide)
 have n47:bs.getD f 0≠47:=fun e=>by rw [e] at hreg;exact absurd hreg (by decide)
 have e91:=zaw n91 91 rfl;have e93:=zaw n93 93 rfl;have e60:=zaw n60 60 rfl;have e62:=zaw n62 62 rfl;have e40:=zaw n40 40 rfl;have e47:=zaw n47 47 rfl;obtain ⟨b,off,R,r,x,rfl,Qn,hx,hR,Qd,Qe,Qo,QG,QH,Qp,QI,Qq,QJ,QK,Qr,hS,Qf,hc,Qg,hZ,Qh⟩:=zaG hr hn hk0 hk1 hf hfl;have QC:=yb hr;have HC:=yb hc;have HS:=yb hS;have Qs:=yb Qf;have QL:=yb hR;have Qk:=yb Qd;have Qi:=yb Qe;have HZ:=yb hZ;have Qb:=yb Qh;clear hS Qf Qd hZ Qh;have Ql:=yb (fun W=>zaV (bs.getD f 0).toNat W);rw [<-zb6,QB] at Ql;rw [hx] at Ql e91 e93 e60 e62 e40 e47;clear n91 n93 n60 n62 n40 n47 QB hreg;rw [<-hR] at HT;have QE:(bs.drop f).take (R-f)=regs (bs.drop f):=by rw [zbk,hR,Nat.add_sub_cancel_left]
 have QO:=yb QE;have QP:=zbu (bs.drop f);have QX:f<=R:=by omega
 have QQ:R<=bs.length:=Qk.out;have hcf1:¬cap=f:=by omega
 have Qm:=yb (show (regs (bs.drop f)).length<=400000 by show runN _<=_;omega);clear QE QP;obtain rfl:x=46:=by rw [<-hx,hc0];rfl
 clear hc0;obtain rfl:R=bs.length:=hR.trans h1;clear h1;clear hr hf hR Qe Qr hk0 hk1 hc hV hx;go_enter Tryz.func66,Tryz.ntmps66
 go_wp2_with fail
 refine (HS.out _ Qb.out).mono ?_;rintro e w' ⟨rfl,rfl⟩;rw [<-Qi.out];generalize w.alloc _=W1 at *;obtain ⟨Qc,Qt,Qu,Qv,hX⟩:=zax Qn Qi.out Qb.out Qg HZ.out;have HX:=yb hX;clear Qg hX;go_wp2_with fail
 refine (Qs.out _ HX.out.bel).mono ?_;rintro e w' ⟨rfl,rfl⟩;clear Qc Qt Qu Qv;generalize W1.alloc _=W2 at *;generalize W1.heap.size=p at *;clear HZ Qb;have Qz:(convert 28 9 (.slice (some ⟨b,off+f,none⟩) (bs.length-f) (cap-f))).run Tryz.prog W2=.ok (.string (mkB ((bs.drop f).take (bs.length-f)))) W2:=za1 (X:=⟨none,0,bs,true⟩) HC.out f (bs.length-f) (by have:=Qk.out;show f+_<=bs.length;omega) W2 HX.out.bel;rw [QO.out] at Qz;obtain ⟨s,hs⟩:∃s,mkB (regs (bs.drop f))=s:=⟨_,rfl⟩;have QF:bl s=regs (bs.drop f):=by rw [<-hs];rfl
 have QA:=yb (zb2 s W2 (by rw [<-zaC,QF];exact Qm.out));rw [QF,HP.out] at QA;rw [hs] at Qz;unfold zbE valC zbn at QA;clear hs QF;go_wp2_with (go_at_call 82;refine (Ql.out _).mono ?_;rintro e w' ⟨rfl,rfl⟩)
 refine QA.out.mono ?_;rintro e w3 ⟨rfl,Qy⟩;have Qa:=yb ((HX.out.on Qy).alloc (.cells #[.int .i64 P.1,.int .i64 P.2.1,.string ⟨#[]⟩,.slice none 0 0] 25));clear Qy Qz QA
 by_cases her:P.2.2=0
 ·have HV:=yb (Qw.out.trans (zbg Qx.out rfl (x:={ kind:=1,vk:=P.1,vn:=P.2.1 }) (j:=bs.length) (by rw [HT.out,her]) Qk.out))
  rw [her];clear her;obtain ⟨⟨k0,k1,k2,k3,k4,k5,k6,k7⟩,m0,m1,m2,m3,m4,m5,m6,m7⟩:=zah Qa.out.blk;obtain ⟨⟨n0,n1,n2,n3,n4,n5,n6,n7⟩,-⟩:=zah Qa.out.no;go_wp2;refine yi (zaa rfl _ _ r 81 _ (0,0) _ rfl (set8 Qa.out.blk _ _ _ _ _ _ _ _) Tryz.underlying81 rfl zas _ rfl) rfl ?_;exact zau (x:={ kind:=1,vk:=P.1,vn:=P.2.1 }) Qa.out.bel Qa.out.wr HV.out _ _ _ _ _ _ _ _
 ·have HV:=yb (Qw.out.trans (za7 (e:=P.2.2) Qx.out rfl (by rw [HT.out]) her))
  have er1:(P.2.2==0)=false:=by rw [yf];exact her
  have er2:(P.2.2 != 0)=true:=by simp only [bne,er1,yj]
  clear her;obtain ⟨⟨k0,k1,k2,k3,k4,k5,k6,k7⟩,m0,m1,m2,m3,m4,m5,m6,m7⟩:=zah Qa.out.blk;obtain ⟨⟨n0,n1,n2,n3,n4,n5,n6,n7⟩,-⟩:=zah Qa.out.no;go_wp2;refine yi (zaa rfl _ _ r 81 _ (0,0) _ rfl (set8 Qa.out.blk _ _ _ _ _ _ _ _) Tryz.underlying81 rfl zas _ rfl) rfl ?_;exact zau (x:={ kind:=0 }) Qa.out.bel Qa.out.wr HV.out _ _ _ _ _ _ _ _
theorem zhS {w:World} {a:Option Addr} {cap:Nat} {bs:List UInt8} (hr:Row w 1 a bs.length cap (bs.map u8C)) (hn:bs.length<=400000) {k:Int} (yq:Bool) (hk0:0<=k) (hk1:k<=bs.length) {f:Nat} (hf:zaL bs k=f) (hfl:f<bs.length) {V:Tk×Int×Int×Int} (hV:V=zbw bs f yq) (hreg:isRg (bs.getD f 0)=true) (h1:f+runN (bs.drop f)=bs.length) (hla:yq=true) (hd:(bs.getD f 0).toNat<48/\bs.getD f 0≠43/\bs.getD f 0≠45/\bs.getD f 0≠46) :
  Calls Tryz.prog 66 #[.slice a bs.length cap,.int .i64 k,.bool yq] w (zaF w V):=by
 have HT:=yb (show tokV yq (bs.getD f 0) (bs.drop (f+1))=_ from zbI (X:=⟨none,0,bs,yq⟩) (k:=f) hfl hreg)
 have QD:¬(runN ((⟨none,0,bs,yq⟩:Src).bs.drop f)=((⟨none,0,bs,yq⟩:Src).bs.drop f).length/\(⟨none,0,bs,yq⟩:Src).yq=false):=by
  show ¬(runN (bs.drop f)=(bs.drop f).length/\yq=false);rw [ym];rw [hla];simp
 have Qj:¬(isDg (bs.getD f 0)=true\/bs.getD f 0=43\/bs.getD f 0=45\/bs.getD f 0=46):=by
  rintro (h|h|h|h)
  ·have h2:=zba.1 h;have:=hd.1;omega
  ·exact hd.2.1 h
  ·exact hd.2.2.1 h
  ·exact hd.2.2.2 h
 have ht:=HT.out;unfold rgV at ht;rw [yh QD,yh Qj] at ht;rw [List.drop_drop] at ht;clear HT QD Qj;have HT:=yb (show tokV yq (bs.getD f 0) (bs.drop (f+1))=(0,{ kind:=6,s:=regs (bs.drop f) },bs.drop (f+runN (bs.drop f))) from ht);clear ht;have Qw:=yb hV;have Qx:=yb hfl;subst hla
 have QB:isDl (bs.getD f 0)=false:=by
  have h:=hreg;unfold isRg at h
  cases hh:isDl (bs.getD f 0) with
  | false=>rfl
  | true=>rw [hh] at h;simp at h
 have n91:bs.getD f 0≠91:=fun e=>by rw [e] at hreg;exact absurd hreg (by decide)
 have n93:bs.getD f 0≠93:=fun e=>by rw [e] at hreg;exact absurd hreg (by decide)
 have n60:bs.getD f 0≠60:=fun e=>by rw [e] at hreg;exact absurd hreg (by decide)
 have n62:bs.getD f 0≠62:=fun e=>by rw [e] at hreg;exact absurd hreg (by decide)
 have n40:bs.getD f 0≠40:=fun e=>by rw [e] at hreg;exact absurd hreg (by decide)
 have n47:bs.getD f 0≠47:=fun e=>by rw [e] at hreg;exact absurd hreg (by decide)
 have e91:=zaw n91 91 rfl;have e93:=zaw n93 93 rfl;have e60:=zaw n60 60 rfl;have e62:=zaw n62 62 rfl;have e40:=zaw n40 40 rfl;have e47:=zaw n47 47 rfl;have e43:=zaw hd.2.1 43 rfl;have e45:=zaw hd.2.2.1 45 rfl;have e46:=zaw hd.2.2.2 46 rfl;have Q9:=hd.1;clear hd;obtain ⟨b,off,R,r,x,rfl,Qn,hx,hR,Qd,Qe,Qo,QG,QH,Qp,QI,Qq,QJ,QK,Qr,hS,Qf,hc,Qg,hZ,Qh⟩:=zaG hr hn hk0 hk1 hf hfl;have QC:=yb hr;have HC:=yb hc;have HS:=yb hS;have Qs:=yb Qf;have QL:=yb hR;have Qk:=yb Qd;have Qi:=yb Qe;have HZ:=yb hZ;have Qb:=yb Qh;clear hS Qf Qd hZ Qh;have Ql:=yb (fun W=>zaV (bs.getD f 0).toNat W);rw [<-zb6,QB] at Ql;rw [hx] at Ql e91 e93 e60 e62 e40 e47;clear n91 n93 n60 n62 n40 n47 QB hreg;rw [<-hR] at HT;have QE:(bs.drop f).take (R-f)=regs (bs.drop f):=by rw [zbk,hR,Nat.add_sub_cancel_left]
 have QO:=yb QE;have QP:=zbu (bs.drop f);have QX:f<=R:=by omega
 have QQ:R<=bs.length:=Qk.out;have hcf1:¬cap=f:=by omega
 have Qm:=yb (show (regs (bs.drop f)).length<=400000 by show runN _<=_;omega);clear QE QP;rw [hx] at Q9 e43 e45 e46;have d1:decide ((48:Int)<=x)=false:=ye (by omega);clear Q9;obtain rfl:R=bs.length:=hR.trans h1;clear h1;clear hr hf hR Qe Qr hk0 hk1 hc hV hx;go_enter Tryz.func66,Tryz.ntmps66
 go_wp2_with fail
 refine (HS.out _ Qb.out).mono ?_;rintro e w' ⟨rfl,rfl⟩;rw [<-Qi.out];generalize w.alloc _=W1 at *;obtain ⟨Qc,Qt,Qu,Qv,hX⟩:=zax Qn Qi.out Qb.out Qg HZ.out;have HX:=yb hX;clear Qg hX;go_wp2_with fail
 refine (Qs.out _ HX.out.bel).mono ?_;rintro e w' ⟨rfl,rfl⟩;clear Qc Qt Qu Qv;generalize W1.alloc _=W2 at *;generalize W1.heap.size=p at *;clear HZ Qb;have Qz:(convert 28 9 (.slice (some ⟨b,off+f,none⟩) (bs.length-f) (cap-f))).run Tryz.prog W2=.ok (.string (mkB ((bs.drop f).take (bs.length-f)))) W2:=za1 (X:=⟨none,0,bs,true⟩) HC.out f (bs.length-f) (by have:=Qk.out;show f+_<=bs.length;omega) W2 HX.out.bel;rw [QO.out] at Qz;have HV:=yb (Qw.out.trans (zbg Qx.out rfl (x:={ kind:=6,s:=regs (bs.drop f) }) (j:=bs.length) HT.out Qk.out));obtain ⟨⟨k0,k1,k2,k3,k4,k5,k6,k7⟩,m0,m1,m2,m3,m4,m5,m6,m7⟩:=zah HX.out.blk;obtain ⟨⟨n0,n1,n2,n3,n4,n5,n6,n7⟩,-⟩:=zah HX.out.no;go_wp2_with (go_at_call 82;refine (Ql.out _).mono ?_;rintro e w' ⟨rfl,rfl⟩)
 refine yi (zaa rfl _ _ r 81 _ (0,0) _ rfl (set8 HX.out.blk _ _ _ _ _ _ _ _) Tryz.underlying81 rfl zas _ rfl) rfl ?_;exact zau (x:={ kind:=6,s:=regs (bs.drop f) }) HX.out.bel HX.out.wr HV.out _ _ _ _ _ _ _ _
theorem zgF {w:World} {a:Option Addr} {cap:Nat} {bs:List UInt8} (hr:Row w 1 a bs.length cap (bs.map u8C)) (hn:bs.length<=400000) {k:Int} (yq:Bool) (hk0:0<=k) (hk1:k<=bs.length) {f:Nat} (hf:zaL bs k=f) (hfl:f<bs.length) {V:Tk×Int×Int×Int} (hV:V=zbw bs f yq) (hreg:isRg (bs.getD f 0)=true) (h1:f+runN (bs.drop f)=bs.length) (hla:yq=true) (hd:57<(bs.getD f 0).toNat) :
  Calls Tryz.prog 66 #[.slice a bs.length cap,.int .i64 k,.bool yq] w (zaF w V):=by
 have HT:=yb (show tokV yq (bs.getD f 0) (bs.drop (f+1))=_ from zbI (X:=⟨none,0,bs,yq⟩) (k:=f) hfl hreg)
 have QD:¬(runN ((⟨none,0,bs,yq⟩:Src).bs.drop f)=((⟨none,0,bs,yq⟩:Src).bs.drop f).length/\(⟨none,0,bs,yq⟩:Src).yq=false):=by
  show ¬(runN (bs.drop f)=(bs.drop f).length/\yq=false);rw [ym];rw [hla];simp
 have Qj:¬(isDg (bs.getD f 0)=true\/bs.getD f 0=43\/bs.getD f 0=45\/bs.getD f 0=46):=by
  rintro (h|h|h|h)
  ·have h2:=zba.1 h;omega
  ·rw [h] at hd;exact absurd hd (by decide)
  ·rw [h] at hd;exact absurd hd (by decide)
  ·rw [h] at hd;exact absurd hd (by decide)
 have ht:=HT.out;unfold rgV at ht;rw [yh QD,yh Qj] at ht;rw [List.drop_drop] at ht;clear HT QD Qj;have HT:=yb (show tokV yq (bs.getD f 0) (bs.drop (f+1))=(0,{ kind:=6,s:=regs (bs.drop f) },bs.drop (f+runN (bs.drop f))) from ht);clear ht;have Qw:=yb hV;have Qx:=yb hfl;subst hla
 have QB:isDl (bs.getD f 0)=false:=by
  have h:=hreg;unfold isRg at h
  cases hh:isDl (bs.getD f 0) with
  | false=>rfl
  | true=>rw [hh] at h;simp at h
 have n91:bs.getD f 0≠91:=fun e=>by rw [e] at hreg;exact absurd hreg (by decide)
 have n93:bs.getD f 0≠93:=fun e=>by rw [e] at hreg;exact absurd hreg (by decide)
 have n60:bs.getD f 0≠60:=fun e=>by rw [e] at hreg;exact absurd hreg (by decide)
 have n62:bs.getD f 0≠62:=fun e=>by rw [e] at hreg;exact absurd hreg (by decide)
 have n40:bs.getD f 0≠40:=fun e=>by rw [e] at hreg;exact absurd hreg (by decide)
 have n47:bs.getD f 0≠47:=fun e=>by rw [e] at hreg;exact absurd hreg (by decide)
 have e91:=zaw n91 91 rfl;have e93:=zaw n93 93 rfl;have e60:=zaw n60 60 rfl;have e62:=zaw n62 62 rfl;have e40:=zaw n40 40 rfl;have e47:=zaw n47 47 rfl;obtain ⟨b,off,R,r,x,rfl,Qn,hx,hR,Qd,Qe,Qo,QG,QH,Qp,QI,Qq,QJ,QK,Qr,hS,Qf,hc,Qg,hZ,Qh⟩:=zaG hr hn hk0 hk1 hf hfl;have QC:=yb hr;have HC:=yb hc;have HS:=yb hS;have Qs:=yb Qf;have QL:=yb hR;have Qk:=yb Qd;have Qi:=yb Qe;have HZ:=yb hZ;have Qb:=yb Qh;clear hS Qf Qd hZ Qh;have Ql:=yb (fun W=>zaV (bs.getD f 0).toNat W);rw [<-zb6,QB] at Ql;rw [hx] at Ql e91 e93 e60 e62 e40 e47;clear n91 n93 n60 n62 n40 n47 QB hreg;rw [<-hR] at HT;have QE:(bs.drop f).take (R-f)=regs (bs.drop f):=by rw [zbk,hR,Nat.add_sub_cancel_left]
 have QO:=yb QE;have QP:=zbu (bs.drop f);have QX:f<=R:=by omega
 have QQ:R<=bs.length:=Qk.out;have hcf1:¬cap=f:=by omega
 have Qm:=yb (show (regs (bs.drop f)).length<=400000 by show runN _<=_;omega);clear QE QP;rw [hx] at hd;have d1:decide ((48:Int)<=x)=true:=yd (by omega);have d2:decide ((x:Int)<=57)=false:=ye (by omega);have e43:((x:Int)==43)=false:=by rw [yf];omega
 have e45:((x:Int)==45)=false:=by rw [yf];omega
 have e46:((x:Int)==46)=false:=by rw [yf];omega
 clear hd;obtain rfl:R=bs.length:=hR.trans h1;clear h1;clear hr hf hR Qe Qr hk0 hk1 hc hV hx;go_enter Tryz.func66,Tryz.ntmps66
 go_wp2_with fail
 refine (HS.out _ Qb.out).mono ?_;rintro e w' ⟨rfl,rfl⟩;rw [<-Qi.out];generalize w.alloc _=W1 at *;obtain ⟨Qc,Qt,Qu,Qv,hX⟩:=zax Qn Qi.out Qb.out Qg HZ.out;have HX:=yb hX;clear Qg hX;go_wp2_with fail
 refine (Qs.out _ HX.out.bel).mono ?_;rintro e w' ⟨rfl,rfl⟩;clear Qc Qt Qu Qv;generalize W1.alloc _=W2 at *;generalize W1.heap.size=p at *;clear HZ Qb;have Qz:(convert 28 9 (.slice (some ⟨b,off+f,none⟩) (bs.length-f) (cap-f))).run Tryz.prog W2=.ok (.string (mkB ((bs.drop f).take (bs.length-f)))) W2:=za1 (X:=⟨none,0,bs,true⟩) HC.out f (bs.length-f) (by have:=Qk.out;show f+_<=bs.length;omega) W2 HX.out.bel;rw [QO.out] at Qz;have HV:=yb (Qw.out.trans (zbg Qx.out rfl (x:={ kind:=6,s:=regs (bs.drop f) }) (j:=bs.length) HT.out Qk.out));obtain ⟨⟨k0,k1,k2,k3,k4,k5,k6,k7⟩,m0,m1,m2,m3,m4,m5,m6,m7⟩:=zah HX.out.blk;obtain ⟨⟨n0,n1,n2,n3,n4,n5,n6,n7⟩,-⟩:=zah HX.out.no;go_wp2_with (go_at_call 82;refine (Ql.out _).mono ?_;rintro e w' ⟨rfl,rfl⟩)
 refine yi (zaa rfl _ _ r 81 _ (0,0) _ rfl (set8 HX.out.blk _ _ _ _ _ _ _ _) Tryz.underlying81 rfl zas _ rfl) rfl ?_;exact zau (x:={ kind:=6,s:=regs (bs.drop f) }) HX.out.bel HX.out.wr HV.out _ _ _ _ _ _ _ _
end Go.Proofs.YtcmoehknppjkiaaGreatDoor
