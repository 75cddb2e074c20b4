/-
  Our texts LexW to SymP, in one.
-/
import Derived.Test.YtcmoehknppjkiaaGreatDoorPkB7
import Derived.Deep.DeepCutAuto
import Derived.Test.YtcmoehknppjkiaaGreatDoorProg
import Derived.BigQuiet
import Derived.Sort.LotA
import Derived.Sort.Lot0
import Derived.Deep.Draws
import Derived.RangeFuncBox
import Derived.RangeFuncNested
import Derived.RangeFuncBound
import Derived.RangeFuncCalls
import Derived.RangeFuncLeaves
import Derived.Shelf.Abstract
import Derived.Shelf.RegionOpen
import Derived.OwnWalkIn
import Derived.TacticsInMore
import Derived.LoopNIn
import Derived.LoopIn
import Derived.Lib.AppendZeros
set_option maxRecDepth 8000
set_option maxHeartbeats 8000000
namespace Go.Proofs.YtcmoehknppjkiaaGreatDoor
open Go.RowKit
theorem rnext_out {w:World} {a:Option Addr} {cap n:Nat} {k:Int} (yq:Bool) (_:(n:Int)<=9223372036854775807) (h:k<0\/(n:Int)<k) {V:Tk×Int×Int×Int} (hV:V=({ kind:=0 },0,0,2)) :
  Calls Tryz.prog 66 #[.slice a n cap,.int .i64 k,.bool yq] w (zaF w V):=by
 have HV:=yb hV;have HZ:=yb (show (w.alloc (.cells #[.int .i64 0,.int .i64 0,.int .i64 0,.int .i64 0,.int .i64 0,.string ⟨#[]⟩,.slice none 0 0,.string ⟨#[]⟩] 81)).heap[w.heap.size]?=some (.cells #[.int .i64 0,.int .i64 0,.int .i64 0,.int .i64 0,.int .i64 0,.string ⟨#[]⟩,.slice none 0 0,.string ⟨#[]⟩] 81 (0,0)) from zac _ rfl);have QC:=yb (zai w (.cells #[.int .i64 0,.int .i64 0,.int .i64 0,.int .i64 0,.int .i64 0,.string ⟨#[]⟩,.slice none 0 0,.string ⟨#[]⟩] 81));clear hV
 by_cases hk0:k<0
 ·have Za:decide (k<0)=true:=yd hk0
  clear h;go_enter Tryz.func66,Tryz.ntmps66
  go_wp2;refine yi (zaa rfl _ _ w.heap.size 81 _ (0,0) _ rfl (zac _ rfl) Tryz.underlying81 rfl (by exact zas) _ rfl) rfl ?_;rw [HV.out];exact ⟨rfl,zai _ _⟩
 ·have hk1:(n:Int)<k:=by omega
  have Za:decide (k<0)=false:=ye hk0;have Zk:decide ((n:Int)<k)=true:=yd hk1;clear h hk0 hk1;go_enter Tryz.func66,Tryz.ntmps66
  go_wp2;refine yi (zaa rfl _ _ w.heap.size 81 _ (0,0) _ rfl (zac _ rfl) Tryz.underlying81 rfl (by exact zas) _ rfl) rfl ?_;rw [HV.out];exact ⟨rfl,zai _ _⟩
theorem rnext_end {w:World} {a:Option Addr} {cap:Nat} {bs:List UInt8} (hr:Row w 1 a bs.length cap (bs.map u8C)) (hn:bs.length<=400000) {k:Int} (yq:Bool) (hk0:0<=k) (hk1:k<=bs.length) (hf:zaL bs k=bs.length) {V:Tk×Int×Int×Int} (hV:V=zbw bs bs.length yq) :
  Calls Tryz.prog 66 #[.slice a bs.length cap,.int .i64 k,.bool yq] w (zaF w V):=by
 rw [zdx yq (by simp)] at hV;have HV:=yb hV;have Yd:=yb hr;have hcm:=hr.i64c;have Za:decide (k<0)=false:=ye (by omega);have Zk:decide ((bs.length:Int)<k)=false:=ye (by omega);have HS:=yb (fun (W:World) (h:Below w.heap.size w W)=>rskip_any (Yd.out.mono h) hn k);rw [hf] at HS;obtain ⟨r,Zl⟩:∃r,r=w.heap.size:=⟨_,rfl⟩;have ZQ:=yb Zl;have HZ:=yb (show (w.alloc (.cells #[.int .i64 0,.int .i64 0,.int .i64 0,.int .i64 0,.int .i64 0,.string ⟨#[]⟩,.slice none 0 0,.string ⟨#[]⟩] 81)).heap[r]?=some (.cells #[.int .i64 0,.int .i64 0,.int .i64 0,.int .i64 0,.int .i64 0,.string ⟨#[]⟩,.slice none 0 0,.string ⟨#[]⟩] 81 (0,0)) from zac _ Zl);have QC:=yb (zai w (.cells #[.int .i64 0,.int .i64 0,.int .i64 0,.int .i64 0,.int .i64 0,.string ⟨#[]⟩,.slice none 0 0,.string ⟨#[]⟩] 81));clear hr hf Zl hk0 hk1 hV;generalize bs.length=f at *;go_enter Tryz.func66,Tryz.ntmps66
 go_wp2_with fail
 refine (HS.out _ QC.out).mono ?_;rintro e w' ⟨rfl,rfl⟩;rw [<-ZQ.out];generalize w.alloc _=W1 at *;have HX:=yb (show Rx w r W1.heap.size f (W1.alloc (.cells #[.int .i64 0,.int .i64 f,.int .i64 f,.int .i64 0,.int .i64 0,.string ⟨#[]⟩,.slice none 0 0,.string ⟨#[]⟩] 81)) from ⟨zal _ HZ.out,zac _ rfl,QC.out.alloc QC.out.size _,by rw [ZQ.out];exact yp _⟩);obtain ⟨⟨k0,k1,k2,k3,k4,k5,k6,k7⟩,m0,m1,m2,m3,m4,m5,m6,m7⟩:=zah HX.out.blk;obtain ⟨⟨n0,n1,n2,n3,n4,n5,n6,n7⟩,-⟩:=zah HX.out.no
 cases yq
 ·go_wp2
  refine yi (zaa rfl _ _ r 81 _ (0,0) _ rfl (set8 HX.out.blk _ _ _ _ _ _ _ _) Tryz.underlying81 rfl zas _ rfl) rfl ?_;exact zau (x:={ kind:=0 }) HX.out.bel HX.out.wr HV.out _ _ _ _ _ _ _ _
 ·go_wp2
  refine yi (zaa rfl _ _ r 81 _ (0,0) _ rfl (set8 HX.out.blk _ _ _ _ _ _ _ _) Tryz.underlying81 rfl zas _ rfl) rfl ?_;exact zau (x:={ kind:=0 }) HX.out.bel HX.out.wr HV.out _ _ _ _ _ _ _ _
theorem zcv {w:World} {a:Option Addr} {cap:Nat} {bs:List UInt8} (hr:Row w 1 a bs.length cap (bs.map u8C)) (hn:bs.length<=400000) (k:Int) (yq:Bool) :
  Calls Tryz.prog 66 #[.slice a bs.length cap,.int .i64 k,.bool yq] w (zaF w (zan bs k yq)):=by
 by_cases hk:k<0\/(bs.length:Int)<k
 ·exact rnext_out yq hr.i64 hk (by unfold zan;rw [yg hk])
 have hk0:0<=k:=by omega
 have hk1:k<=bs.length:=by omega
 have hV:=zcF (bs:=bs) yq hk0 hk1;have Ye:=(zfs hk0 hk1).2;have ZR:=fun f hf hl=>skip_here (bs:=bs) (f:=f) hk0 hk1 hf hl;rw [hV];obtain ⟨f,hf⟩:∃f,zaL bs k=f:=⟨_,rfl⟩
 by_cases hfe:f=bs.length
 ·subst hfe
  exact rnext_end hr hn yq hk0 hk1 hf (by rw [hf])
 have Qd:f<bs.length:=by omega
 obtain ⟨YN,Zm⟩:=ZR f hf Qd;have Qe:zbw bs (zaL bs k) yq=zbw bs f yq:=by rw [hf]
 clear hV ZR
 by_cases hrg:isRg (bs.getD f 0)=true
 ·by_cases he:f+runN (bs.drop f)=bs.length
  ·cases yq with
   | false=>exact zhB hr hn false hk0 hk1 hf Qd Qe hrg he rfl
   | true =>
    by_cases h43:bs.getD f 0=43
    ·exact rnext_43_end hr hn true hk0 hk1 hf Qd Qe hrg he rfl h43
    by_cases h45:bs.getD f 0=45
    ·exact rnext_45_end hr hn true hk0 hk1 hf Qd Qe hrg he rfl h45
    by_cases h46:bs.getD f 0=46
    ·exact rnext_46_end hr hn true hk0 hk1 hf Qd Qe hrg he rfl h46
    by_cases hlo:(bs.getD f 0).toNat<48
    ·exact zhS hr hn true hk0 hk1 hf Qd Qe hrg he rfl ⟨hlo,h43,h45,h46⟩
    by_cases hhi:57<(bs.getD f 0).toNat
    ·exact zgF hr hn true hk0 hk1 hf Qd Qe hrg he rfl hhi
    exact zfN hr hn true hk0 hk1 hf Qd Qe hrg he rfl ⟨by omega,by omega⟩
  ·by_cases h43:bs.getD f 0=43
   ·exact rnext_43_in hr hn yq hk0 hk1 hf Qd Qe hrg he h43
   by_cases h45:bs.getD f 0=45
   ·exact rnext_45_in hr hn yq hk0 hk1 hf Qd Qe hrg he h45
   by_cases h46:bs.getD f 0=46
   ·exact rnext_46_in hr hn yq hk0 hk1 hf Qd Qe hrg he h46
   by_cases hlo:(bs.getD f 0).toNat<48
   ·exact rnext_low_in hr hn yq hk0 hk1 hf Qd Qe hrg he ⟨hlo,h43,h45,h46⟩
   by_cases hhi:57<(bs.getD f 0).toNat
   ·exact zhE hr hn yq hk0 hk1 hf Qd Qe hrg he hhi
   exact zgI hr hn yq hk0 hk1 hf Qd Qe hrg he ⟨by omega,by omega⟩
 have Yf:isDl (bs.getD f 0)=true:=by
  unfold isRg at hrg;rw [Zm] at hrg
  simpa using hrg
 by_cases h91:bs.getD f 0=91
 ·exact rnext_91 hr hn yq hk0 hk1 hf Qd Qe h91
 by_cases h93:bs.getD f 0=93
 ·exact rnext_93 hr hn yq hk0 hk1 hf Qd Qe h93
 by_cases h60:bs.getD f 0=60
 ·by_cases h1:f+1<bs.length
  ·by_cases h2:bs.getD (f+1) 0=60
   ·exact rnext_6060 hr hn yq hk0 hk1 hf Qd Qe h60 h1 h2
   ·exact rnext_hex hr hn yq hk0 hk1 hf Qd Qe h60 h1 h2
  ·exact rnext_hexend hr hn yq hk0 hk1 hf Qd Qe h60 h1
 by_cases h62:bs.getD f 0=62
 ·by_cases h1:f+1<bs.length
  ·by_cases h2:bs.getD (f+1) 0=62
   ·exact rnext_6262 hr hn yq hk0 hk1 hf Qd Qe h62 h1 h2
   ·exact rnext_62form hr hn yq hk0 hk1 hf Qd Qe h62 h1 h2
  ·cases yq with
   | false=>exact rnext_62more hr hn false hk0 hk1 hf Qd Qe h62 (by omega) rfl
   | true=>exact rnext_62last hr hn true hk0 hk1 hf Qd Qe h62 (by omega) rfl
 by_cases h40:bs.getD f 0=40
 ·exact rnext_text hr hn yq hk0 hk1 hf Qd Qe h40
 by_cases h47:bs.getD f 0=47
 ·by_cases h1:f+1+runN (bs.drop (f+1))=bs.length
  ·cases yq with
   | false=>exact zgJ hr hn false hk0 hk1 hf Qd Qe h47 h1 rfl
   | true =>
    by_cases hcap:cap=f+1
    ·exact zhm hr hn true hk0 hk1 hf Qd Qe h47 rfl hcap
    ·exact zgG hr hn true hk0 hk1 hf Qd Qe h47 (fun _ h=>by cases h) h1 rfl hcap
  ·by_cases hcap:cap=f+1
   ·exfalso
    have h2:=hr.2.1
    apply h1
    rw [zbm (by omega)]
    show f+1+0=_;omega
   ·exact rnext_name hr hn yq hk0 hk1 hf Qd Qe h47 (fun h _=>h1 h) h1 hcap
 exact rnext_dl hr hn yq hk0 hk1 hf Qd Qe Yf h91 h93 h60 h62 h40 h47
theorem rwhole_tk (x:Tk) (f t:Int) (w:World):Calls Tryz.prog 113 #[.agg (tokN x f t)] w fun e w'=>e=.returned (.bool (zaN x))/\Below w.heap.size w w':=by
 unfold tokN zaN;generalize x.kind=a0 at *;generalize x.vk=a1 at *;generalize x.vn=a2 at *;generalize mkB x.vs=s1 at *;generalize mkB x.s=s2 at *
 cases h0:(a0==1)
 ·go_enter Tryz.func113,Tryz.ntmps113
  go_wp2;go_ret;exact ⟨rfl,zai w _⟩
 ·go_enter Tryz.func113,Tryz.ntmps113
  go_wp2;go_ret;exact ⟨rfl,zai w _⟩
theorem rref_any {w:World} {a:Option Addr} {cap:Nat} {bs:List UInt8} (hr:Row w 1 a bs.length cap (bs.map u8C)) (hn:bs.length<=400000) (k:Int) (yq:Bool) (n:Int) :
  Calls Tryz.prog 114 #[.slice a bs.length cap,.int .i64 k,.bool yq,.int .i64 n] w fun e w' =>
   e=.returned (.tuple #[.bool (refD bs yq k n).1,.int .i64 (refD bs yq k n).2.1,.int .i64 (refD bs yq k n).2.2])/\Below w.heap.size w w':=by
 have HN:=yb (zcv hr hn k yq);have Qk:=yb (fun (W:World) (h:Below w.heap.size w W)=>zcv (hr.mono h) hn (zan bs k yq).2.2.1 yq);have Qm:=yb (fun (W:World)=>rwhole_tk (zan bs k yq).1 (zan bs k yq).2.1 (zan bs k yq).2.2.1 W);obtain ⟨R,hR⟩:∃R,R=refD bs yq k n:=⟨_,rfl⟩;rw [<-hR];unfold refD at hR;simp only at hR;clear hr hn;generalize zan bs (zan bs k yq).2.2.1 yq=V2 at *;generalize zan bs k yq=V at *;obtain ⟨x,f,t,er⟩:=V;obtain ⟨y,f2,t2,er2⟩:=V2;simp only at hR Qk Qm;unfold zaF tokN at HN Qk;unfold tokN at Qm;simp only at HN Qk;have Zb:=zcl y.s [82];have HR:=yb hR;have QD:=yb Zb;clear hR Zb;generalize x.kind=a0 at *;generalize x.vk=a1 at *;generalize x.vn=a2 at *;generalize mkB x.vs=s1 at *;generalize mkB x.s=s2 at *;generalize zaN x=wh at *;generalize y.kind=b0 at *;generalize y.vk=b1 at *;generalize y.vn=b2 at *;generalize mkB y.vs=u1 at *;generalize mkB y.s=u2 at *;generalize y.s=ys at *;generalize bs.length=L at *;go_enter Tryz.func114,Tryz.ntmps114
 go_wp2_with fail
 refine HN.out.mono ?_;rintro e w1 ⟨rfl,Qp⟩;have HB:=yb (Qp.alloc Qp.size (.cells #[.int .i64 a0,.int .i64 f,.int .i64 t,.int .i64 a1,.int .i64 a2,.string s1,.slice none 0 0,.string s2] 81));have HK:=yb (zac (w:=w1) (b:=w1.heap.size) (.cells #[.int .i64 a0,.int .i64 f,.int .i64 t,.int .i64 a1,.int .i64 a2,.string s1,.slice none 0 0,.string s2] 81) rfl);clear Qp HN
 by_cases h6:er=6
 ·subst h6
  have hR:=HR.out;rw [yg rfl] at hR;subst hR;clear HR HK Qk Qm QD;go_wp2
  go_ret3
  exact ⟨rfl,HB.out⟩
 have e6:(er==6)=false:=by rw [yf];exact h6
 by_cases h0:er=0
 case neg =>
  have e0:(er==0)=false:=by rw [yf];exact h0
  have e1:(er != 0)=true:=by simp only [bne,e0,yj]
  have hR:=HR.out;rw [yh h6,yg (.inl h0)] at hR;subst hR;clear HR HK Qk Qm QD h6 h0;go_wp2
  go_ret3
  exact ⟨rfl,HB.out⟩
 subst h0;obtain ⟨r1,Qz⟩:∃r1,r1=w1.heap.size:=⟨_,rfl⟩;rw [<-Qz] at HK;obtain ⟨W1,Zn⟩:∃W1,W1=w1.alloc (.cells #[.int .i64 a0,.int .i64 f,.int .i64 t,.int .i64 a1,.int .i64 a2,.string s1,.slice none 0 0,.string s2] 81):=⟨_,rfl⟩;rw [<-Zn] at HK HB;clear h6;have QN:=yb Zn;have QI:=yb Qz;clear Zn Qz
 cases wh with
 | false =>
  have hR:=HR.out;rw [yh (by decide),yg (.inr rfl)] at hR;subst hR;clear HR Qk QD
  go_upto_region 2 with fail
  rw [<-QN.out,<-QI.out];obtain ⟨⟨k0,k1,k2,k3,k4,k5,k6,k7⟩,-⟩:=zah HK.out;go_wp2_with fail
  refine (Qm.out _).mono ?_;rintro e w2 ⟨rfl,hb2⟩;have Ql:=yo HB hb2;clear hb2 k0 k1 k2 k3 k4 k5 k6 k7;go_wp2
  go_ret3
  exact ⟨rfl,Ql.out⟩
 | true =>
  have hR:=HR.out;rw [yh (by decide),yh (by simp)] at hR;have HR:=yb hR;clear hR
  go_upto_region 2 with fail
  rw [<-QN.out,<-QI.out];obtain ⟨⟨k0,k1,k2,k3,k4,k5,k6,k7⟩,-⟩:=zah HK.out;go_wp2_with fail
  refine (Qm.out _).mono ?_;rintro e w2 ⟨rfl,hb2⟩;have Ql:=yo HB hb2;have Zo:=yb (zab hb2 HK.out);clear hb2 k0 k1 k2 k3 k4 k5 k6 k7 HK QN QI HB Qm;obtain ⟨⟨k0,k1,k2,k3,k4,k5,k6,k7⟩,-⟩:=zah Zo.out;go_wp2_with fail
  refine (Qk.out _ Ql.out).mono ?_;rintro e w3 ⟨rfl,Qg⟩;have QO:=Qg.alloc Qg.size (.cells #[.int .i64 b0,.int .i64 f2,.int .i64 t2,.int .i64 b1,.int .i64 b2,.string u1,.slice none 0 0,.string u2] 81);have Qf:=yo Ql QO;have Qn:=yb (zab QO Zo.out);have QP:=yb (zac (w:=w3) (b:=w3.heap.size) (.cells #[.int .i64 b0,.int .i64 f2,.int .i64 t2,.int .i64 b1,.int .i64 b2,.string u1,.slice none 0 0,.string u2] 81) rfl);clear Qg QO k0 k1 k2 k3 k4 k5 k6 k7 Zo Ql Qk
  by_cases h6:er2=6
  ·subst h6
   have hR:=HR.out;rw [yg rfl] at hR;subst hR;clear HR Qn QP QD;go_wp2
   go_ret3
   exact ⟨rfl,Qf.out⟩
  have e6:(er2==6)=false:=by rw [yf];exact h6
  by_cases h0:er2=0
  case neg =>
   have e0:(er2==0)=false:=by rw [yf];exact h0
   have e1:(er2 != 0)=true:=by simp only [bne,e0,yj]
   have hR:=HR.out;rw [yh h6,yg (.inl h0)] at hR;subst hR;clear HR Qn QP QD h6 h0;go_wp2
   go_ret3
   exact ⟨rfl,Qf.out⟩
  subst h0;obtain ⟨r3,QW⟩:∃r3,r3=w3.heap.size:=⟨_,rfl⟩;rw [<-QW] at QP;obtain ⟨W3,Zp⟩:∃W3,W3=w3.alloc (.cells #[.int .i64 b0,.int .i64 f2,.int .i64 t2,.int .i64 b1,.int .i64 b2,.string u1,.slice none 0 0,.string u2] 81):=⟨_,rfl⟩;rw [<-Zp] at Qn QP Qf;have Zq:=yb Zp;have Zr:=yb QW;clear h6 Zp QW
  by_cases hc:b0=6
  case neg =>
   have c1:(b0==6)=false:=by rw [yf];exact hc
   have c2:(b0 != 6)=true:=by simp only [bne,c1,yj]
   have hR:=HR.out;rw [yh (by decide),yg (.inr (.inl hc))] at hR;subst hR;clear HR hc QD Qn
   go_upto_region 7 with fail
   rw [<-Zq.out,<-Zr.out];obtain ⟨⟨k0,k1,k2,k3,k4,k5,k6,k7⟩,-⟩:=zah QP.out;go_wp2
   go_ret3
   exact ⟨rfl,Qf.out⟩
  subst hc;have Zc:=QD.out
  by_cases hs:ys=[82]
  case neg =>
   rw [ye hs] at Zc;have c2:(u2.toList != [82])=true:=by simp only [bne,Zc,yj]
   have hR:=HR.out;rw [yh (by decide),yg (.inr (.inr hs))] at hR;subst hR;clear HR hs QD Qn
   go_upto_region 7 with fail
   rw [<-Zq.out,<-Zr.out];obtain ⟨⟨k0,k1,k2,k3,k4,k5,k6,k7⟩,-⟩:=zah QP.out;go_wp2
   go_ret3
   exact ⟨rfl,Qf.out⟩
  rw [yd hs] at Zc;have c2:(u2.toList != [82])=false:=by simp only [bne,Zc,Bool.not_true]
  have hR:=HR.out;rw [yh (by decide),yh (by rintro (h|h|h);exact h rfl;exact h rfl;exact h hs)] at hR;have HR:=yb hR;clear hR hs QD
  go_upto_region 7 with fail
  rw [<-Zq.out,<-Zr.out];obtain ⟨⟨k0,k1,k2,k3,k4,k5,k6,k7⟩,-⟩:=zah QP.out;obtain ⟨⟨m0,m1,m2,m3,m4,m5,m6,m7⟩,-⟩:=zah Qn.out;have hR:=HR.out
  by_cases q1:n<1
  ·have d1:decide (n<1)=true:=yd q1
   rw [yg (.inl q1)] at hR;subst hR;clear HR q1;go_wp2
   go_ret3
   exact ⟨rfl,Qf.out⟩
  have d1:decide (n<1)=false:=ye q1
  by_cases q2:4096<n
  ·have d2:decide (4096<n)=true:=yd q2
   rw [yg (.inr (.inl q2))] at hR;subst hR;clear HR q1 q2;go_wp2
   go_ret3
   exact ⟨rfl,Qf.out⟩
  have d2:decide (4096<n)=false:=ye q2
  by_cases q3:a2=0
  case neg =>
   have d3:(a2==0)=false:=by rw [yf];exact q3
   have d4:(a2 != 0)=true:=by simp only [bne,d3,yj]
   rw [yg (.inr (.inr q3))] at hR;subst hR;clear HR q1 q2 q3;go_wp2
   go_ret3
   exact ⟨rfl,Qf.out⟩
  subst q3;rw [yh (by rintro (h|h|h);exact q1 h;exact q2 h;exact h rfl)] at hR;subst hR;clear HR q1 q2;go_wp2
  go_quiet (fail)
  go_wp2
  go_ret3
  exact ⟨rfl,zag Qf.out _⟩
end Go.Proofs.YtcmoehknppjkiaaGreatDoor
namespace Go.Proofs.YtcmoehknppjkiaaGreatDoor
mutual
def zbJ:PV->PV->Int
 | .mk k n s l,.mk k2 n2 s2 l2 =>
  if k<k2\/(k=k2/\(n<n2\/(n=n2/\sLt s s2=true))) then -1
  else if k≠k2\/n≠n2\/s≠s2 then 1
  else zcp l l2
def zcp:List PV->List PV->Int
 | [],[]=>0
 | [],_::_=>-1
 | _::_,[]=>1
 | x::l,y::m=>if zbJ x y≠0 then zbJ x y else zcp l m
end
mutual
theorem zfe:∀a:PV,zbJ a a=0
 | .mk k n s l=>by
  simp only [zbJ];rw [yh (by rintro (h|⟨-,h|⟨-,h⟩⟩);omega;omega;rw [zdA] at h;cases h),yh (by simp)];exact zez l
theorem zez:∀l:List PV,zcp l l=0
 | []=>rfl
 | x::l=>by
  simp only [zcp];rw [yh (by simp [zfe x])];exact zez l
end
end Go.Proofs.YtcmoehknppjkiaaGreatDoor
namespace Go.Proofs.YtcmoehknppjkiaaGreatDoor
open Go.RowKit
theorem zce:∀a b:List UInt8,Op.bytesLess a b=sLt a b
 | [],[]=>rfl
 | [],_::_=>rfl
 | _::_,[]=>rfl
 | a::l,b::m=>by
  simp only [Op.bytesLess,sLt];rw [zce l m]
  by_cases h:a.toNat<b.toNat
  ·rw [yg h]
   have:(a<b):=h;simp [this]
  ·rw [yh h]
   have h':¬(a<b):=h
   by_cases h2:b.toNat<a.toNat
   ·rw [yg h2]
    have:(a==b)=false:=by rw [yf];intro e;subst e;omega
    simp [h',this]
   ·rw [yh h2]
    have:a=b:=UInt8.toNat_inj.1 (by omega);subst this;simp
theorem zaj (l:List UInt8):(mkB l).toList=l:=by unfold mkB;exact ByteArray.toList_eq _
structure Box4 (w:World) (b:Nat) (v:PV) (sl:Value):Prop where
 blk:w.heap[b]?=some (.cells #[.int .i64 v.kind,.int .i64 v.n,.string (mkB v.s),sl] 25 (0,0))
theorem Box4.cells {w:World} {b:Nat} {v:PV} {sl:Value} (h:Box4 w b v sl):w.cell? ⟨b,0,none⟩=some (.int .i64 v.kind)/\w.cell? ⟨b,1,none⟩=some (.int .i64 v.n)/\w.cell? ⟨b,2,none⟩=some (.string (mkB v.s))/\w.cell? ⟨b,3,none⟩=some sl:=by
 refine ⟨?_,?_,?_,?_⟩
 ·rw [cell_of_row w b 0 _ _ _ h.blk];rfl
 ·rw [cell_of_row w b 1 _ _ _ h.blk];rfl
 ·rw [cell_of_row w b 2 _ _ _ h.blk];rfl
 ·rw [cell_of_row w b 3 _ _ _ h.blk];rfl
theorem cmpL_step {l m:List PV} {k:Nat} {x y:PV} (h1:l[k]?=some x) (h2:m[k]?=some y) :
  zcp (l.drop k) (m.drop k)=if zbJ x y≠0 then zbJ x y else zcp (l.drop (k+1)) (m.drop (k+1)):=by
 obtain ⟨g1,e1⟩:=List.getElem?_eq_some_iff.1 h1;obtain ⟨g2,e2⟩:=List.getElem?_eq_some_iff.1 h2;rw [List.drop_eq_getElem_cons g1,List.drop_eq_getElem_cons g2,e1,e2];rfl
theorem cmpL_end {l m:List PV} {k:Nat} (h:¬(k<l.length/\k<m.length)) (h1:k<=l.length) (h2:k<=m.length) :
  zcp (l.drop k) (m.drop k)=if l.length<m.length then -1 else if m.length<l.length then 1 else 0:=by
 by_cases g1:k<l.length
 ·have g2:k=m.length:=by omega
  rw [List.drop_eq_getElem_cons g1,List.drop_of_length_le (l:=m) (by omega),yh (by omega),yg (by omega)];rfl
 ·rw [List.drop_of_length_le (l:=l) (by omega)]
  by_cases g2:k<m.length
  ·rw [List.drop_eq_getElem_cons g2,yg (by omega)]
   rfl
  ·rw [List.drop_of_length_le (l:=m) (by omega),yh (by omega),yh (by omega)]
   rfl
def anyF:Nat->Prop:=fun _=>True
theorem IsV.any {w:World} {F:Nat->Prop} {v:PV} {sl:Value} (h:IsV w F v sl):IsV w anyF v sl:=h.weaken fun _ _=>trivial
theorem zb3 {v x:PV} {k:Nat} (h:v.l[k]?=some x):SizeOf.sizeOf x<SizeOf.sizeOf v:=by
 obtain ⟨a,b,c,l⟩:=v;have:SizeOf.sizeOf x<SizeOf.sizeOf l:=List.sizeOf_lt_of_mem (List.mem_of_getElem? (h:l[k]?=some x));simp only [PV.mk.sizeOf_spec];omega
theorem compare_any:∀(N:Nat) (a b:PV) (sa sb:Value) (w:World),SizeOf.sizeOf a<=N->IsV w anyF a sa->IsV w anyF b sb ->
  Calls Tryz.prog 70 #[pvA a sa,pvA b sb] w fun e w'=>e=.returned (.int .i64 (zbJ a b))/\Below w.heap.size w w':=by
 intro N
 induction N with
 | zero=>intro a b sa sb w h;obtain ⟨_,_,_,_⟩:=a;simp at h
 | succ N ih =>
 intro a b sa sb w hN ha hb;obtain ⟨a1,cap1,e1,g1,g2,g3⟩:=ha.len;obtain ⟨a2,cap2,e2,g4,g5,g6⟩:=hb.len;have HA:=yb ha;have HB:=yb hb;have Zs:=yb ih;have HN:=yb hN
 have hC:zbJ a b=if a.kind<b.kind\/(a.kind=b.kind/\(a.n<b.n\/(a.n=b.n/\sLt a.s b.s=true))) then -1
  else if a.kind≠b.kind\/a.n≠b.n\/a.s≠b.s then 1 else zcp a.l b.l:=by
  obtain ⟨_,_,_,_⟩:=a;obtain ⟨_,_,_,_⟩:=b;simp only [zbJ];rfl
 have ZS:=yb (fun (k:Nat) (x:PV) (h:a.l[k]?=some x)=>zb3 h);subst e1 e2;obtain ⟨la,Zd⟩:∃la,la=a.l:=⟨_,rfl⟩;obtain ⟨lb,Ze⟩:∃lb,lb=b.l:=⟨_,rfl⟩;rw [<-Zd] at g1 HA |-;rw [<-Ze] at g4 HB |-;rw [<-Zd,<-Ze] at hC;have Zt:=yb Zd;have ZT:=yb Ze;have m1:(la.length:Int)<=9223372036854775807:=by unfold maxLen at g2;omega
 have m2:(lb.length:Int)<=9223372036854775807:=by unfold maxLen at g5;omega
 have QX:Op.bytesLess (mkB a.s).toList (mkB b.s).toList=sLt a.s b.s:=by rw [zaj,zaj,zce]
 have QJ:((mkB a.s).toList==(mkB b.s).toList)=decide (a.s=b.s):=by rw [zaj,zaj];by_cases h:a.s=b.s<;>simp [h]
 clear ih hN Zd Ze ha hb;unfold pvA;generalize zbJ a b=V at *;generalize a.kind=ka at *;generalize b.kind=kb at *;generalize a.n=na at *;generalize b.n=nb at *;generalize a.s=s1 at *;generalize b.s=s2 at *
 by_cases h1:ka<kb
 ·have hd:decide (ka<kb)=true:=yd h1
  rw [yg (.inl h1)] at hC;have HC:=yb hC;clear h1 hC QX QJ;go_enter Tryz.func70,Tryz.ntmps70
  go_wp2;go_ret;exact ⟨by rw [HC.out];rfl,za6 w _ _⟩
 have Zu:decide (ka<kb)=false:=ye h1
 by_cases h2:kb<ka
 ·have hq:(ka==kb)=false:=by rw [yf];omega
  have Yg:(ka != kb)=true:=by simp [bne,hq]
  rw [yh (by omega),yg (.inl (by omega))] at hC;have HC:=yb hC;clear h1 h2 hC QX QJ;go_enter Tryz.func70,Tryz.ntmps70
  go_wp2;go_ret;exact ⟨by rw [HC.out];rfl,za6 w _ _⟩
 obtain rfl:ka=kb:=by omega
 clear h1 h2 Zu
 by_cases h1:na<nb
 ·have hd:decide (na<nb)=true:=yd h1
  rw [yg (.inr ⟨rfl,.inl h1⟩)] at hC;have HC:=yb hC;clear h1 hC QX QJ;go_enter Tryz.func70,Tryz.ntmps70
  go_wp2;go_ret;exact ⟨by rw [HC.out];rfl,za6 w _ _⟩
 have Zu:decide (na<nb)=false:=ye h1
 by_cases h2:nb<na
 ·have hq:(na==nb)=false:=by rw [yf];omega
  have Yg:(na != nb)=true:=by simp [bne,hq]
  rw [yh (by rintro (h|⟨-,h|⟨h,-⟩⟩)<;>omega),yg (.inr (.inl (by omega)))] at hC
  have HC:=yb hC;clear h1 h2 hC QX QJ;go_enter Tryz.func70,Tryz.ntmps70
  go_wp2;go_ret;exact ⟨by rw [HC.out];rfl,za6 w _ _⟩
 obtain rfl:na=nb:=by omega
 clear h1 h2 Zu
 by_cases h1:sLt s1 s2=true
 ·rw [yg (.inr ⟨rfl,.inr ⟨rfl,h1⟩⟩)] at hC
  rw [h1] at QX;have HC:=yb hC;clear h1 hC QJ;go_enter Tryz.func70,Tryz.ntmps70
  go_wp2;go_ret;exact ⟨by rw [HC.out];rfl,za6 w _ _⟩
 rw [yh (by rintro (h|⟨-,h|⟨-,h⟩⟩);omega;omega;exact h1 h)] at hC;rw [show sLt s1 s2=false by simpa using h1] at QX;clear h1
 by_cases h2:s1=s2
 case neg =>
  rw [yg (.inr (.inr h2))] at hC;rw [ye h2] at QJ;have YO:((mkB s1).toList != (mkB s2).toList)=true:=by simp [bne,QJ]
  have HC:=yb hC;clear h2 hC;go_enter Tryz.func70,Tryz.ntmps70
  go_wp2;go_ret;exact ⟨by rw [HC.out];rfl,za6 w _ _⟩
 subst h2;rw [yh (by simp)] at hC;have HC:=yb hC;clear hC QJ;go_enter Tryz.func70,Tryz.ntmps70
 go_wp2;obtain ⟨B,hB⟩:∃B,B=w.heap.size:=⟨_,rfl⟩;rw [<-hB];have ZU:((w.alloc (.cells #[.int .i64 ka,.int .i64 na,.string (mkB s1),.slice a1 la.length cap1] 25)).alloc (.cells #[.int .i64 ka,.int .i64 na,.string (mkB s1),.slice a2 lb.length cap2] 25)).heap[B]?=some (.cells #[.int .i64 ka,.int .i64 na,.string (mkB s1),.slice a1 la.length cap1] 25 (0,0)):=zal _ (zac _ hB);have ZV:((w.alloc (.cells #[.int .i64 ka,.int .i64 na,.string (mkB s1),.slice a1 la.length cap1] 25)).alloc (.cells #[.int .i64 ka,.int .i64 na,.string (mkB s1),.slice a2 lb.length cap2] 25)).heap[B+1]?=some (.cells #[.int .i64 ka,.int .i64 na,.string (mkB s1),.slice a2 lb.length cap2] 25 (0,0)):=zac _ (by rw [zaq,hB]);have Yh:=yb ZU;have Yi:=yb ZV;have HW:=yb (za6 w (.cells #[.int .i64 ka,.int .i64 na,.string (mkB s1),.slice a1 la.length cap1] 25) (.cells #[.int .i64 ka,.int .i64 na,.string (mkB s1),.slice a2 lb.length cap2] 25));have YP:=yb hB;clear ZU ZV hB;generalize (w.alloc _).alloc _=W1 at *
 go_loopw [5] (fun vk wr=>∃k:Nat,vk=.int .i64 k/\k<=la.length/\k<=lb.length/\Hid (Below w.heap.size w wr)/\Hid (Below W1.heap.size W1 wr)/\Hid (V=zcp (la.drop k) (lb.drop k))) (fun vk _=>la.length-(intOf vk).toNat)
 case atStart=>exact ⟨0,rfl,Nat.zero_le _,Nat.zero_le _,HW,Below.refl _ _,HC⟩
 case round =>
  obtain ⟨k,rfl,hk1,Zf,Q1,QN,HV⟩:=hrel;have Zv:=zab QN.out Yh.out;have Zw:=zab QN.out Yi.out;obtain ⟨c0,c1,c2,c3⟩:=Box4.cells (v:=.mk ka na s1 la) (sl:=.slice a1 la.length cap1) (w:=wr) (b:=B) ⟨Zv⟩;obtain ⟨d0,d1,d2,d3⟩:=Box4.cells (v:=.mk ka na s1 lb) (sl:=.slice a2 lb.length cap2) (w:=wr) (b:=B+1) ⟨Zw⟩
  by_cases q1:k<la.length/\k<lb.length
  case neg =>
   have hv:=HV.out;rw [cmpL_end q1 hk1 Zf] at hv;have QY:=yb hv;clear hv Zv Zw HA HB Zs HV
   by_cases t1:la.length<lb.length
   ·have hd:decide (la.length<lb.length)=true:=yd t1
    have q2:¬k<la.length:=by omega
    go_wp2;go_ret;exact ⟨by rw [QY.out,yg t1];rfl,Q1.out⟩
   ·have hd:decide (la.length<lb.length)=false:=ye t1
    by_cases t2:lb.length<la.length
    ·have Zg:decide (lb.length<la.length)=true:=yd t2
     have q2:¬k<lb.length:=by omega
     have q3:k<la.length:=by omega
     go_wp2;go_ret;exact ⟨by rw [QY.out,yh t1,yg t2];rfl,Q1.out⟩
    ·have Zg:decide (lb.length<la.length)=false:=ye t2
     have q2:¬k<la.length:=by omega
     go_wp2;go_ret;exact ⟨by rw [QY.out,yh t1,yh t2];rfl,Q1.out⟩
  obtain ⟨q1,q2⟩:=q1;obtain ⟨x,hx⟩:∃x,la[k]?=some x:=⟨_,List.getElem?_eq_getElem q1⟩;obtain ⟨y,hy⟩:∃y,lb[k]?=some y:=⟨_,List.getElem?_eq_getElem q2⟩;have Zx:Below w.heap.size w wr:=Q1.out;obtain ⟨-,-,-,b1,o1,rfl,-,-,Zy⟩:=(HA.out.below Zx).at (by omega);obtain ⟨-,-,-,b2,o2,rfl,-,-,Zz⟩:=(HB.out.below Zx).at (by omega);rw [<-Zt.out] at Zy;rw [<-ZT.out] at Zz;obtain ⟨sx,ZW,x0,x1,x2,x3⟩:=Zy k x hx;obtain ⟨sy,ZX,y0,y1,y2,y3⟩:=Zz k y hy;have hlt:SizeOf.sizeOf x<SizeOf.sizeOf a:=ZS.out k x (by rw [<-Zt.out];exact hx);have hN:=HN.out;have Qv:=fun (p:zaI wr)=>Zs.out x y sx sy p.w (by omega) (ZW.below p.h) (ZX.below p.h);have hv:=HV.out;rw [cmpL_step hx hy] at hv;have QY:=yb hv;unfold pvA at Qv;generalize zbJ x y=c at *;have Q2:=yb Qv;clear Qv hv ZW ZX hlt hN Zy Zz hx hy HA HB Zs HV Zv Zw Zx ZS Zt ZT HN;have u3:=zaI.cell c3;have v3:=zaI.cell d3;have e0:=zaI.cell x0;have e1:=zaI.cell x1;have e2:=zaI.cell x2;have e3:=zaI.cell x3;have r0:=zaI.cell y0;have r1:=zaI.cell y1;have r2:=zaI.cell y2;have r3:=zaI.cell y3;have YQ:(0:Int)<=(k:Int):=by omega
  have YR:(k:Int)<(la.length:Int):=by omega
  have ZA:(k:Int)<(lb.length:Int):=by omega
  go_wp2;refine zaX (by kernel_rfl) (by kernel_rfl) ?_
  repeat (quiet_step ((go_at_call 70;with_reducible exact Calls.below_of (Q2.out _))))
  refine wpQuiet_nil ?_;rintro _ ⟨⟨w4,ZB⟩,rfl⟩;have ZY:=yo Q1 ZB;have Yj:=yo QN ZB;clear u3 v3 e0 e1 e2 e3 r0 r1 r2 r3 x0 x1 x2 x3 y0 y1 y2 y3 c0 c1 c2 c3 d0 d1 d2 d3 ZB
  by_cases hc:c=0
  ·subst hc
   go_wp2
   go_roundw
   case rel=>exact ⟨k+1,by go_num,by omega,by omega,ZY,Yj,by rw [QY.out];rfl⟩
   case measure=>simp [intOf];omega
  ·have QE:(c==0)=false:=by rw [yf];exact hc
   have ZZ:(c != 0)=true:=by simp [bne,QE]
   go_wp2;go_ret;exact ⟨by rw [QY.out,yg hc];rfl,ZY.out⟩
theorem compare_two {a b:PV} {sa sb:Value} {w:World} {F G:Nat->Prop} (ha:IsV w F a sa) (hb:IsV w G b sb) :
  Calls Tryz.prog 70 #[pvA a sa,pvA b sb] w fun e w'=>e=.returned (.int .i64 (zbJ a b))/\Below w.heap.size w w' :=
 compare_any _ a b sa sb w (yp _) ha.any hb.any
theorem same_any {a b:PV} {sa sb:Value} {w:World} {F G:Nat->Prop} (ha:IsV w F a sa) (hb:IsV w G b sb) :
  Calls Tryz.prog 36 #[pvA a sa,pvA b sb] w fun e w'=>e=.returned (.bool (zbJ a b==0))/\Below w.heap.size w w':=by
 have QC:=yb (za6 w (.cells #[.int .i64 a.kind,.int .i64 a.n,.string (mkB a.s),sa] 25) (.cells #[.int .i64 b.kind,.int .i64 b.n,.string (mkB b.s),sb] 25));have hc:=compare_two (ha.below QC.out) (hb.below QC.out);unfold pvA at *;have HC:=yb hc;clear hc ha hb;generalize zbJ a b=c at *;generalize a.kind=a0 at *;generalize a.n=a1 at *;generalize mkB a.s=a2 at *;generalize b.kind=b0 at *;generalize b.n=b1 at *;generalize mkB b.s=b2 at *;go_enter Tryz.func36,Tryz.ntmps36
 go_wp2_with (go_at_call 70;refine HC.out.mono ?_;rintro e w' ⟨rfl,hb⟩)
 go_ret;exact ⟨rfl,QC.out.trans (hb.mono QC.out.size)⟩
theorem zfK {w:World} {g n cap:Nat} {d:Bool} {a:Option Addr} (h:w.heap[g]?=some (.cells #[.bool d,.slice a n cap] 128 (0,0))) (hn:n<=maxLen) :
  Calls Tryz.prog 139 #[.pointer (some ⟨g,0,none⟩)] w fun e w'=>e=.returned (.bool (d&&n % 2==0))/\w=w':=by
 have c0:w.cell? ⟨g,0,none⟩=some (.bool d):=by rw [cell_of_row w g 0 _ _ _ h];rfl
 have c1:w.cell? ⟨g,1,none⟩=some (.slice a n cap):=by rw [cell_of_row w g 1 _ _ _ h];rfl
 have hi:(n:Int)<=9223372036854775807:=by unfold maxLen at hn;omega
 have he:((n:Int) % 2==0)=(n % 2==0):=by rw [Bool.eq_iff_iff];simp;omega
 have HE:=yb he;clear h hn he
 cases d
 ·go_enter Tryz.func139,Tryz.ntmps139
  go_wp2;go_ret;exact ⟨rfl,rfl⟩
 ·go_enter Tryz.func139,Tryz.ntmps139
  go_wp2;go_ret;exact ⟨zbF (by rw [Bool.true_and];exact HE.out),rfl⟩
section
variable {w0 w w' : World} {F F' G : Nat -> Prop} {p : Nat} {a : Option Addr} {cap : Nat} {bs : List UInt8} {yq : Bool} {st : List Lv} {at_ : Int} {gs : List Nat} {osl : Value}
def RefEnd (w0 w:World) (F G:Nat->Prop) (p:Nat) (a:Option Addr) (cap:Nat) (bs:List UInt8) (yq:Bool) (st:List Lv) (gs:List Nat) (osl:Value) (R:PV×Int×Int) (e:Ending) (w':World):Prop :=
 e=.returned (.tuple #[pvA R.1 (.slice none 0 0),.int .i64 R.2.2])/\zaA w0 w' F G p a cap bs yq st R.2.1 gs osl/\zak (fun b=>b=p) w w'
theorem fin4 (h:zaA w0 w F G p a cap bs yq st at_ gs osl) {W:World} (hb:Below w.heap.size w W) {q:Nat} (hq:w.heap.size<=q) (hl:q<W.heap.size) (y0 y1 y2 y3:Value) :
  zaA w0 ((((W.setCell ⟨q,0,none⟩ y0).setCell ⟨q,1,none⟩ y1).setCell ⟨q,2,none⟩ y2).setCell ⟨q,3,none⟩ y3) F G p a cap bs yq st at_ gs osl /\
   zak (fun b=>b=p) w ((((W.setCell ⟨q,0,none⟩ y0).setCell ⟨q,1,none⟩ y1).setCell ⟨q,2,none⟩ y2).setCell ⟨q,3,none⟩ y3) :=
 ⟨((h.res (G':=fun b=>G b\/b=q) hb (fun b hb=>hb.imp id fun e=>by rw [e];exact ⟨hq,hl⟩)).set4 (.inr rfl) _ _ _ _).give fun b hb=>.inl hb,zbv (zaz hb) hq _ _ _ _⟩
theorem fin4a (h:zaA w0 w F G p a cap bs yq st at_ gs osl) {W:World} (hb:Below w.heap.size w W) {q:Nat} (hq:w.heap.size<=q) (hl:q<W.heap.size) (at2:Int) (y0 y1 y2 y3:Value) :
  zaA w0 (((((W.setCell ⟨p,1,none⟩ (.int .i64 at2)).setCell ⟨q,0,none⟩ y0).setCell ⟨q,1,none⟩ y1).setCell ⟨q,2,none⟩ y2).setCell ⟨q,3,none⟩ y3) F G p a cap bs yq st at2 gs osl /\
   zak (fun b=>b=p) w (((((W.setCell ⟨p,1,none⟩ (.int .i64 at2)).setCell ⟨q,0,none⟩ y0).setCell ⟨q,1,none⟩ y1).setCell ⟨q,2,none⟩ y2).setCell ⟨q,3,none⟩ y3) :=
 ⟨(((h.res (G':=fun b=>G b\/b=q) hb (fun b hb=>hb.imp id fun e=>by rw [e];exact ⟨hq,hl⟩)).setAt at2).set4 (.inr rfl) _ _ _ _).give fun b hb=>.inl hb,
  zbv (zak.setCell (S:=fun b=>b=p) (a:=⟨p,1,none⟩) (zaz hb) (.inl rfl) _) hq _ _ _ _⟩
theorem drew4 {W:World} {S:Nat->Prop} (h:zaA w0 W F G p a cap bs yq st at_ gs osl/\zak S w W):zaA w0 W.drew F G p a cap bs yq st at_ gs osl/\zak S w W.drew:=⟨h.1.drewN 1,h.2.drewN 1⟩
theorem ref_any (h:zaA w0 w F G p a cap bs yq st at_ gs osl) (v:PV):Calls Tryz.prog 143 #[.pointer (some ⟨p,0,none⟩),pvA v (.slice none 0 0)] w (RefEnd w0 w F G p a cap bs yq st gs osl (refV bs yq at_ v)):=by
 have HN:=yb (fun (W:World) (hb:Below w.heap.size w W)=>zd6 (h.bytes.mono hb) h.small at_ yq);obtain ⟨R,hR⟩:∃R,R=refV bs yq at_ v:=⟨_,rfl⟩;rw [<-hR];unfold refV at hR;simp only at hR;have Qm:=yb (fun (W:World)=>whole_tk (zan bs at_ yq).1 (zan bs at_ yq).2.1 (zan bs at_ yq).2.2.1 W);have Qk:=yb (fun (W:World) (hb:Below w.heap.size w W)=>zd6 (h.bytes.mono hb) h.small (zan bs at_ yq).2.2.1 yq);generalize zan bs (zan bs at_ yq).2.2.1 yq=V2 at *;generalize zan bs at_ yq=V at *;obtain ⟨x,gf,gt,ger⟩:=V;obtain ⟨y,rf,rt,rer⟩:=V2;simp only at hR Qk Qm;unfold zaF tokN at HN Qk;unfold tokN at Qm;simp only at HN Qk;unfold pvA;have HR:=yb hR;have Zb:=yb (zcl y.s [82]);clear hR;generalize x.kind=ga0 at *;generalize x.vk=ga1 at *;generalize x.vn=ga2 at *;generalize mkB x.vs=gs1 at *;generalize mkB x.s=gs2 at *;generalize y.kind=ra0 at *;generalize y.vk=ra1 at *;generalize y.vn=ra2 at *;generalize mkB y.vs=rs1 at *;generalize mkB y.s=rs2 at *;generalize zaN x=wh at *;obtain ⟨vk,vn,vs,vl⟩:=v;simp only [PV.kind,PV.n,PV.s] at HR |-;have HS:=yb h;have ZC:=h.lt;clear h;go_enter Tryz.func143,Tryz.ntmps143
 go_wp2;have Qq:=yb (za6 w (.cells #[.int .i64 vk,.int .i64 vn,.string (mkB vs),.slice none 0 0] 25) (.cells #[.int .i64 0,.int .i64 0,.string ⟨#[]⟩,.slice none 0 0] 25));have QA:=yb (HS.out.mono Qq.out);have Qn:=yb (zal (.cells #[.int .i64 0,.int .i64 0,.string ⟨#[]⟩,.slice none 0 0] 25) (zac (w:=w) (b:=w.heap.size) (.cells #[.int .i64 vk,.int .i64 vn,.string (mkB vs),.slice none 0 0] 25) rfl));have QK:=yb (zac (w:=w.alloc (.cells #[.int .i64 vk,.int .i64 vn,.string (mkB vs),.slice none 0 0] 25)) (b:=w.heap.size+1) (.cells #[.int .i64 0,.int .i64 0,.string ⟨#[]⟩,.slice none 0 0] 25) (by rw [zaq]));generalize (w.alloc _).alloc _=W1 at *;obtain ⟨r,hr⟩:∃r,r=w.heap.size:=⟨_,rfl⟩;have ZD:p≠r:=by omega
 have QQ:p≠r+1:=by omega
 rw [<-hr] at Qn QK |-;have Qr:=yb hr;clear hr ZC;obtain ⟨⟨c0,c1,c2,c3⟩,f0,f1,f2,f3⟩:=QA.out.cells
 go_upto_region 1 with fail
 go_cut [6,7] from 9 (fun v6 v7 wx=>∃r2,v6=.pointer (some ⟨r2,0,none⟩)/\v7=.int .i64 ger/\Hid (TkM W1 wx r2 #[.int .i64 ga0,.int .i64 gf,.int .i64 gt,.int .i64 ga1,.int .i64 ga2,.string gs1,.slice none 0 0,.string gs2]))
 case first =>
  have QR:=yb (fun o:Obj=>(zai W1 o).drew);have ZE:=yb (fun o:Obj=>Qq.out.trans ((QR.out o).mono (show w.heap.size<=W1.heap.size from Qq.out.size)));have Qw:Hid (S3 W1 p 0 (.slice a bs.length cap) p 1 (.int .i64 at_) p 2 (.bool yq)):=yb ⟨c0,c1,c2⟩;have QF:Hid (p≠W1.heap.size/\p≠W1.heap.size/\p≠W1.heap.size):=yb ⟨Nat.ne_of_lt (World.block_lt_of_cell? W1 _ c0),Nat.ne_of_lt (World.block_lt_of_cell? W1 _ c1),Nat.ne_of_lt (World.block_lt_of_cell? W1 _ c2)⟩
  go_region_held3 (fun w'=>w'.cell? ⟨p,0,none⟩=some (.slice a bs.length cap)/\w'.cell? ⟨p,1,none⟩=some (.int .i64 at_)/\w'.cell? ⟨p,2,none⟩=some (.bool yq))
   ((show S3 _ p 0 (.slice a bs.length cap) p 1 (.int .i64 at_) p 2 (.bool yq);(first
    |(with_reducible exact Qw.out.drew)
    |(with_reducible exact Qw.out)
    |(with_reducible exact (Qw.out.alloc _).drew)
    |(with_reducible exact Hid.out (by assumption))
    |(with_reducible exact S3.alloc (Hid.out (by assumption)) _)
    |(with_reducible exact S3.set8 (Hid.out (by assumption)) QF.out.1 QF.out.2.1 QF.out.2.2 _ _ _ _ _ _ _ _))))
   ((go_at_call 100;first
    |((with_reducible refine (HN.out _ Qq.out.drew).mono ?_);rintro e wN ⟨rfl,Qx⟩;have Qh:Below W1.heap.size W1 wN:=(Below.refl _ _).drew.trans Qx;have Q3:=yb (Qw.out.below Qh))
    |((with_reducible refine (HN.out _ (ZE.out _)).mono ?_);rintro e wN ⟨rfl,Qx⟩;have Qh:Below W1.heap.size W1 wN:=(QR.out _).trans (Qx.mono (QR.out _).size);have Q3:=yb (Qw.out.below Qh);have HZ:=yb (zab Qx (zac (w:=W1) (b:=W1.heap.size) (.cells #[.int .i64 0,.int .i64 0,.int .i64 0,.int .i64 0,.int .i64 0,.string ⟨#[]⟩,.slice none 0 0,.string ⟨#[]⟩] 112) rfl));obtain ⟨⟨z0,z1,z2,z3,z4,z5,z6,z7⟩,y0,y1,y2,y3,y4,y5,y6,y7⟩:=zah HZ.out)))
  all_goals
   first
    |(obtain ⟨W2,Qi⟩:∃W2,W2=wN.alloc (.cells #[.int .i64 ga0,.int .i64 gf,.int .i64 gt,.int .i64 ga1,.int .i64 ga2,.string gs1,.slice none 0 0,.string gs2] 112):=⟨_,rfl⟩
      rw [<-Qi];have HT:=yb (show TkM W1 W2 wN.heap.size #[.int .i64 ga0,.int .i64 gf,.int .i64 gt,.int .i64 ga1,.int .i64 ga2,.string gs1,.slice none 0 0,.string gs2] from ⟨by rw [Qi];exact Qh.alloc Qh.size _,by rw [Qi];exact zac _ rfl,Qh.size⟩);obtain ⟨r2,Qa⟩:∃r2,r2=wN.heap.size:=⟨_,rfl⟩;rw [<-Qa] at HT |-)
    |(obtain ⟨W2,Qi⟩:∃W2,W2=((((((((wN.setCell ⟨W1.heap.size,0,none⟩ (.int .i64 ga0)).setCell ⟨W1.heap.size,1,none⟩ (.int .i64 gf)).setCell ⟨W1.heap.size,2,none⟩ (.int .i64 gt)).setCell ⟨W1.heap.size,3,none⟩ (.int .i64 ga1)).setCell ⟨W1.heap.size,4,none⟩ (.int .i64 ga2)).setCell ⟨W1.heap.size,5,none⟩ (.string gs1)).setCell ⟨W1.heap.size,6,none⟩ (.slice none 0 0)).setCell ⟨W1.heap.size,7,none⟩ (.string gs2)):=⟨_,rfl⟩
      rw [<-Qi];have HT:=yb (show TkM W1 W2 W1.heap.size #[.int .i64 ga0,.int .i64 gf,.int .i64 gt,.int .i64 ga1,.int .i64 ga2,.string gs1,.slice none 0 0,.string gs2] from ⟨by rw [Qi];exact za9 Qh (yp _) _ _ _ _ _ _ _ _,by rw [Qi];exact set8 HZ.out _ _ _ _ _ _ _ _,yp _⟩);clear z0 z1 z2 z3 z4 z5 z6 z7 y0 y1 y2 y3 y4 y5 y6 y7 HZ;obtain ⟨r2,Qa⟩:∃r2,r2=W1.heap.size:=⟨_,rfl⟩;rw [<-Qa] at HT |-)
   clear Qi Qa Qx Qh Q3
  all_goals
   go_wp2
   go_meet
   exact ⟨r2,rfl,rfl,HT⟩
 case rest =>
  obtain ⟨r2,rfl,rfl,HT⟩:=hcut;have Yk:=yb (QA.out.mono HT.out.bel);have Ql:=yb (Qq.out.trans (HT.out.bel.mono Qq.out.size));have QL:=yb (zab HT.out.bel Qn.out);have Qs:=yb (zab HT.out.bel QK.out);have QS:=yb HT.out.blk;clear c0 c1 c2 c3 f0 f1 f2 f3 HT Qn QK QA Qq HN;have Q4:=yb (fun e w=>more_any e w)
  by_cases hg:ger=0
  case neg =>
   have e1:(ger==0)=false:=by rw [yf];exact hg
   have e2:(ger != 0)=true:=by simp only [bne,e1,yj]
   have Qa:=HR.out;rw [yg (.inl hg)] at Qa;have Qb:=yb Qa;obtain ⟨⟨k0,k1,k2,k3⟩,m0,m1,m2,m3⟩:=zad QL.out;obtain ⟨⟨q0,q1,q2,q3⟩,n0,n1,n2,n3⟩:=zad Qs.out;clear Qa hg HR Qk;go_wp2
   go_region_with ((go_at_call 174;refine (Q4.out _ _).mono ?_;rintro e w' ⟨rfl,rfl⟩))
   all_goals
    go_wp2;refine yi (zaa rfl _ _ (r+1) 25 _ (0,0) _ rfl (by exact set4 Qs.out _ _ _ _) Tryz.underlying25 rfl (by exact zav) _ rfl) rfl ?_;rw [Qb.out];exact ⟨rfl,drew4 (fin4 HS.out Ql.out (by rw [Qr.out];exact Nat.le_succ _) (zam Qs.out) _ _ _ _)⟩
  subst hg
  cases wh with
  | false =>
   have Qa:=HR.out;rw [yg (.inr rfl)] at Qa;have Qb:=yb Qa;obtain ⟨⟨k0,k1,k2,k3,k4,k5,k6,k7⟩,-⟩:=zah QS.out;clear Qa HR Qk;go_wp2_with fail
   refine (Qm.out _).mono ?_;rintro e w' ⟨rfl,hb⟩;have Qy:=yb (zab hb QL.out);have Qc:=yb (zab hb Qs.out);have Qf:=yo Ql hb;obtain ⟨⟨k0,k1,k2,k3⟩,m0,m1,m2,m3⟩:=zad Qy.out;obtain ⟨⟨q0,q1,q2,q3⟩,n0,n1,n2,n3⟩:=zad Qc.out;clear hb;go_wp2
   go_region_with ((go_at_call 174;refine (Q4.out _ _).mono ?_;rintro e w' ⟨rfl,rfl⟩))
   all_goals
    go_wp2;refine yi (zaa rfl _ _ (r+1) 25 _ (0,0) _ rfl (by exact set4 Qc.out _ _ _ _) Tryz.underlying25 rfl (by exact zav) _ rfl) rfl ?_;rw [Qb.out];exact ⟨rfl,drew4 (fin4 HS.out Qf.out (by rw [Qr.out];exact Nat.le_succ _) (zam Qc.out) _ _ _ _)⟩
  | true =>
   have Qz:=HR.out;rw [yh (by simp)] at Qz;have Qt:=yb Qz;obtain ⟨⟨k0,k1,k2,k3,k4,k5,k6,k7⟩,-⟩:=zah QS.out;clear Qz HR
   go_upto_region 4 with (go_at_call 142;refine (Qm.out _).mono ?_;rintro e W3 ⟨rfl,Qg⟩)
   have Qf:=yo Ql Qg;have Z0:=yb (Yk.out.mono Qg);have Qy:=yb (zab Qg QL.out);have Qc:=yb (zab Qg Qs.out);have Q5:=yb (zab Qg QS.out);clear Qg k0 k1 k2 k3 k4 k5 k6 k7
   go_cut [7,8] from 9 (fun v7 v8 wx=>∃r3,v7=.int .i64 rer/\v8=.pointer (some ⟨r3,0,none⟩)/\Hid (TkM W3 wx r3 #[.int .i64 ra0,.int .i64 rf,.int .i64 rt,.int .i64 ra1,.int .i64 ra2,.string rs1,.slice none 0 0,.string rs2]))
   case first =>
    obtain ⟨⟨k0,k1,k2,k3,k4,k5,k6,k7⟩,-⟩:=zah Q5.out;obtain ⟨⟨c0,c1,c2,c3⟩,-⟩:=Z0.out.cells;clear k0 k1 k3 k4 k5 k6 k7 c1 c3;have QR:=yb (fun o:Obj=>(zai W3 o).drew);have ZE:=yb (fun o:Obj=>Qf.out.trans ((QR.out o).mono (show w.heap.size<=W3.heap.size from Qf.out.size)));have Qw:Hid (S3 W3 p 0 (.slice a bs.length cap) r2 2 (.int .i64 gt) p 2 (.bool yq)):=yb ⟨c0,k2,c2⟩;have QF:Hid (p≠W3.heap.size/\r2≠W3.heap.size/\p≠W3.heap.size):=yb ⟨Nat.ne_of_lt (World.block_lt_of_cell? W3 _ c0),Nat.ne_of_lt (World.block_lt_of_cell? W3 _ k2),Nat.ne_of_lt (World.block_lt_of_cell? W3 _ c2)⟩
    go_region_held3 (fun w'=>w'.cell? ⟨p,0,none⟩=some (.slice a bs.length cap)/\w'.cell? ⟨r2,2,none⟩=some (.int .i64 gt)/\w'.cell? ⟨p,2,none⟩=some (.bool yq))
     ((show S3 _ p 0 (.slice a bs.length cap) r2 2 (.int .i64 gt) p 2 (.bool yq);(first
      |(with_reducible exact Qw.out.drew)
      |(with_reducible exact Qw.out)
      |(with_reducible exact (Qw.out.alloc _).drew)
      |(with_reducible exact Hid.out (by assumption))
      |(with_reducible exact S3.alloc (Hid.out (by assumption)) _)
      |(with_reducible exact S3.set8 (Hid.out (by assumption)) QF.out.1 QF.out.2.1 QF.out.2.2 _ _ _ _ _ _ _ _))))
     ((go_at_call 100;first
      |((with_reducible refine (Qk.out _ Qf.out.drew).mono ?_);rintro e wN ⟨rfl,Qx⟩;have Qh:Below W3.heap.size W3 wN:=(Below.refl _ _).drew.trans Qx;have Q3:=yb (Qw.out.below Qh))
      |((with_reducible refine (Qk.out _ (ZE.out _)).mono ?_);rintro e wN ⟨rfl,Qx⟩;have Qh:Below W3.heap.size W3 wN:=(QR.out _).trans (Qx.mono (QR.out _).size);have Q3:=yb (Qw.out.below Qh);have HZ:=yb (zab Qx (zac (w:=W3) (b:=W3.heap.size) (.cells #[.int .i64 0,.int .i64 0,.int .i64 0,.int .i64 0,.int .i64 0,.string ⟨#[]⟩,.slice none 0 0,.string ⟨#[]⟩] 112) rfl));obtain ⟨⟨z0,z1,z2,z3,z4,z5,z6,z7⟩,y0,y1,y2,y3,y4,y5,y6,y7⟩:=zah HZ.out)))
    all_goals
     first
      |(obtain ⟨W2,Qi⟩:∃W2,W2=wN.alloc (.cells #[.int .i64 ra0,.int .i64 rf,.int .i64 rt,.int .i64 ra1,.int .i64 ra2,.string rs1,.slice none 0 0,.string rs2] 112):=⟨_,rfl⟩
        rw [<-Qi];have HT:=yb (show TkM W3 W2 wN.heap.size #[.int .i64 ra0,.int .i64 rf,.int .i64 rt,.int .i64 ra1,.int .i64 ra2,.string rs1,.slice none 0 0,.string rs2] from ⟨by rw [Qi];exact Qh.alloc Qh.size _,by rw [Qi];exact zac _ rfl,Qh.size⟩);obtain ⟨r2_1,Qa⟩:∃r2_1,r2_1=wN.heap.size:=⟨_,rfl⟩;rw [<-Qa] at HT |-)
      |(obtain ⟨W2,Qi⟩:∃W2,W2=((((((((wN.setCell ⟨W3.heap.size,0,none⟩ (.int .i64 ra0)).setCell ⟨W3.heap.size,1,none⟩ (.int .i64 rf)).setCell ⟨W3.heap.size,2,none⟩ (.int .i64 rt)).setCell ⟨W3.heap.size,3,none⟩ (.int .i64 ra1)).setCell ⟨W3.heap.size,4,none⟩ (.int .i64 ra2)).setCell ⟨W3.heap.size,5,none⟩ (.string rs1)).setCell ⟨W3.heap.size,6,none⟩ (.slice none 0 0)).setCell ⟨W3.heap.size,7,none⟩ (.string rs2)):=⟨_,rfl⟩
        rw [<-Qi];have HT:=yb (show TkM W3 W2 W3.heap.size #[.int .i64 ra0,.int .i64 rf,.int .i64 rt,.int .i64 ra1,.int .i64 ra2,.string rs1,.slice none 0 0,.string rs2] from ⟨by rw [Qi];exact za9 Qh (yp _) _ _ _ _ _ _ _ _,by rw [Qi];exact set8 HZ.out _ _ _ _ _ _ _ _,yp _⟩);clear z0 z1 z2 z3 z4 z5 z6 z7 y0 y1 y2 y3 y4 y5 y6 y7 HZ;obtain ⟨r2_1,Qa⟩:∃r2_1,r2_1=W3.heap.size:=⟨_,rfl⟩;rw [<-Qa] at HT |-)
     clear Qi Qa Qx Qh Q3
    all_goals
     go_wp2
     go_meet
     exact ⟨r2_1,rfl,rfl,HT⟩
   case rest =>
    obtain ⟨r3,rfl,rfl,HT⟩:=hcut;have ZF:=yb (Z0.out.mono HT.out.bel);have QT:=yb (Qf.out.trans (HT.out.bel.mono Qf.out.size));have Yl:=yb (zab HT.out.bel Qy.out);have Qo:=yb (zab HT.out.bel Qc.out);have Ym:=yb (zab HT.out.bel Q5.out);have Yn:=yb HT.out.blk;clear HT;obtain ⟨⟨k0,k1,k2,k3⟩,m0,m1,m2,m3⟩:=zad Yl.out;obtain ⟨⟨q0,q1,q2,q3⟩,n0,n1,n2,n3⟩:=zad Qo.out;obtain ⟨⟨t0,t1,t2,t3,t4,t5,t6,t7⟩,-⟩:=zah Yn.out;obtain ⟨⟨d0,d1,d2,d3,d4,d5,d6,d7⟩,-⟩:=zah Ym.out;obtain ⟨⟨c0,c1,c2,c3⟩,f0,f1,f2,f3⟩:=ZF.out.cells;have Zh:=Zb.out
    by_cases h0:rer=0
    case neg =>
     have e1:(rer==0)=false:=by rw [yf];exact h0
     have e2:(rer != 0)=true:=by simp only [bne,e1,yj]
     have Qa:=Qt.out;rw [yg (.inl h0)] at Qa;have Qb:=yb Qa;clear Qa h0 Zh;go_wp2
     go_region_with ((go_at_call 174;refine (Q4.out _ _).mono ?_;rintro e w' ⟨rfl,rfl⟩))
     all_goals
      go_wp2;refine yi (zaa rfl _ _ (r+1) 25 _ (0,0) _ rfl (by exact set4 Qo.out _ _ _ _) Tryz.underlying25 rfl (by exact zav) _ rfl) rfl ?_;rw [Qb.out];exact ⟨rfl,drew4 (fin4 HS.out QT.out (by rw [Qr.out];exact Nat.le_succ _) (zam Qo.out) _ _ _ _)⟩
    subst h0
    by_cases h6:ra0=6
    case neg =>
     have e1:(ra0==6)=false:=by rw [yf];exact h6
     have e2:(ra0 != 6)=true:=by simp only [bne,e1,yj]
     have Qa:=Qt.out;rw [yg (.inr (.inl h6))] at Qa;have Qb:=yb Qa;clear Qa h6 Zh;go_wp2
     go_region_with ((go_at_call 174;refine (Q4.out _ _).mono ?_;rintro e w' ⟨rfl,rfl⟩))
     all_goals
      go_wp2;refine yi (zaa rfl _ _ (r+1) 25 _ (0,0) _ rfl (by exact set4 Qo.out _ _ _ _) Tryz.underlying25 rfl (by exact zav) _ rfl) rfl ?_;rw [Qb.out];exact ⟨rfl,drew4 (fin4 HS.out QT.out (by rw [Qr.out];exact Nat.le_succ _) (zam Qo.out) _ _ _ _)⟩
    subst h6
    by_cases hs:y.s=[82]
    case neg =>
     rw [ye hs] at Zh;have Qa:=Qt.out;rw [yg (.inr (.inr hs))] at Qa;have Qb:=yb Qa;clear Qa hs;go_wp2
     go_region_with ((go_at_call 174;refine (Q4.out _ _).mono ?_;rintro e w' ⟨rfl,rfl⟩))
     all_goals
      go_wp2;refine yi (zaa rfl _ _ (r+1) 25 _ (0,0) _ rfl (by exact set4 Qo.out _ _ _ _) Tryz.underlying25 rfl (by exact zav) _ rfl) rfl ?_;rw [Qb.out];exact ⟨rfl,drew4 (fin4 HS.out QT.out (by rw [Qr.out];exact Nat.le_succ _) (zam Qo.out) _ _ _ _)⟩
    rw [yd hs] at Zh;have Qa:=Qt.out;rw [yh (by rintro (h|h|h);exact h rfl;exact h rfl;exact h hs)] at Qa;have QG:=yb Qa;clear Qa hs
    by_cases hv1:vn<1
    case pos =>
     have hd:decide (vn<1)=true:=yd hv1;have Qa:=QG.out.trans (yg (show vn<1\/4096<vn\/ga2≠0 from .inl hv1));have Qb:=yb Qa;clear Qa hv1;go_wp2;refine yi (zaa rfl _ _ (r+1) 25 _ (0,0) _ rfl (by exact set4 Qo.out _ _ _ _) Tryz.underlying25 rfl (by exact zav) _ rfl) rfl ?_;rw [Qb.out];exact ⟨rfl,fin4 HS.out QT.out (by rw [Qr.out];exact Nat.le_succ _) (zam Qo.out) _ _ _ _⟩
    have hd1:decide (vn<1)=false:=ye hv1
    by_cases hv2:4096<vn
    case pos =>
     have hd:decide (4096<vn)=true:=yd hv2;have Qa:=QG.out.trans (yg (show vn<1\/4096<vn\/ga2≠0 from .inr (.inl hv2)));have Qb:=yb Qa;clear Qa hv2 hv1;go_wp2;refine yi (zaa rfl _ _ (r+1) 25 _ (0,0) _ rfl (by exact set4 Qo.out _ _ _ _) Tryz.underlying25 rfl (by exact zav) _ rfl) rfl ?_;rw [Qb.out];exact ⟨rfl,fin4 HS.out QT.out (by rw [Qr.out];exact Nat.le_succ _) (zam Qo.out) _ _ _ _⟩
    have Zg:decide (4096<vn)=false:=ye hv2
    by_cases hg2:ga2=0
    case neg =>
     have e1:(ga2==0)=false:=by rw [yf];exact hg2
     have e2:(ga2 != 0)=true:=by simp only [bne,e1,yj]
     have Qa:=QG.out.trans (yg (show vn<1\/4096<vn\/ga2≠0 from .inr (.inr hg2)));have Qb:=yb Qa;clear Qa hv2 hv1 hg2;go_wp2;refine yi (zaa rfl _ _ (r+1) 25 _ (0,0) _ rfl (by exact set4 Qo.out _ _ _ _) Tryz.underlying25 rfl (by exact zav) _ rfl) rfl ?_;rw [Qb.out];exact ⟨rfl,fin4 HS.out QT.out (by rw [Qr.out];exact Nat.le_succ _) (zam Qo.out) _ _ _ _⟩
    subst hg2;have Qa:=QG.out.trans (yh (show ¬(vn<1\/4096<vn\/(0:Int)≠0) by rintro (h|h|h);exact hv1 h;exact hv2 h;exact h rfl));have Qb:=yb Qa;clear Qa hv2 hv1;go_wp2;refine yi (zaa rfl _ _ (r+1) 25 _ (0,0) _ rfl (by exact set4 ((heap_setCell_other _ _ _ _ (Ne.symm QQ)).trans Qo.out) _ _ _ _) Tryz.underlying25 rfl (by exact zav) _ rfl) rfl ?_;rw [Qb.out];exact ⟨rfl,fin4a HS.out QT.out (by rw [Qr.out];exact Nat.le_succ _) (zam Qo.out) _ _ _ _ _⟩
end
section
variable {w0 w w' : World} {F F' G : Nat -> Prop} {p : Nat} {a : Option Addr} {cap : Nat} {bs : List UInt8} {yq : Bool} {st : List Lv} {at_ : Int} {gs : List Nat} {osl : Value}
theorem zaA.top (h:zaA w0 w F G p a cap bs yq st at_ gs osl):(st=[]/\gs=[])\/∃v st' g t sa sc,st=v::st'/\gs=g::t/\v.l.length<=sc/\sc<=maxLen/\w.heap[g]?=some (.cells #[.bool v.dict,.slice sa v.l.length sc] 128 (0,0)):=by
 cases st with
 | nil=>exact .inl ⟨rfl,List.eq_nil_of_length_eq_zero (by rw [h.lvs.len];rfl)⟩
 | cons v st' =>
  obtain ⟨g,t,sl,cs,h1,h2,h3,h4,h5,h6,h7,h8⟩:=h.lvs;obtain ⟨sa,sc,rfl,h9,ZG⟩:=zaB h5;exact .inr ⟨v,st',g,t,sa,sc,rfl,h1,h9,ZG,h4⟩
theorem single_any (h:zaA w0 w F G p a cap bs yq st at_ gs osl) (x:Tk) (f t:Int):Calls Tryz.prog 104 #[.pointer (some ⟨p,0,none⟩),.agg (tokN x f t)] w (RefEnd w0 w F G p a cap bs yq st gs osl (zbb bs yq st at_ x)):=by
 obtain ⟨R,hR⟩:∃R,R=zbb bs yq st at_ x:=⟨_,rfl⟩;rw [<-hR];unfold zbb at hR;have HR:=yb hR;have QU:=yb (fun (W:World) (hb:Below w.heap.size w W)=>zhp (h.mono hb));have ZH:=yb (fun (W:World) (hb:Below w.heap.size w W)=>(h.mono hb).top);have QH:=yb (fun (W:World) (hb:Below w.heap.size w W) (hl:w.heap.size+1<W.heap.size)=>ref_any (h.res (G':=fun b=>G b\/b=w.heap.size+1) hb (fun b h=>h.imp id fun e=>by rw [e];exact ⟨Nat.le_succ _,hl⟩)) (tkV x));have ZI:=yb (fun (W:World)=>pword_any x.s W);have Qm:=yb (fun (W:World)=>whole_tk x f t W);have QS:=yb (show tkV x=.mk x.vk x.vn x.vs [] from rfl);generalize tkV x=TV at *;unfold tokN at *;generalize zaN x=wh at *;generalize x.kind=a0 at *;generalize x.vk=a1 at *;generalize x.vn=a2 at *;generalize hxs:x.vs=xs at *;generalize x.s=ys at *;have HS:=yb h;have ZC:=h.lt;clear h hR hxs;go_enter Tryz.func104,Tryz.ntmps104
 go_wp2_with fail
 have Qq:=yb (za6 w (.cells #[.int .i64 a0,.int .i64 f,.int .i64 t,.int .i64 a1,.int .i64 a2,.string (mkB xs),.slice none 0 0,.string (mkB ys)] 112) (.cells #[.int .i64 0,.int .i64 0,.string ⟨#[]⟩,.slice none 0 0] 25));have Qn:=yb (zal (.cells #[.int .i64 0,.int .i64 0,.string ⟨#[]⟩,.slice none 0 0] 25) (zac (w:=w) (b:=w.heap.size) (.cells #[.int .i64 a0,.int .i64 f,.int .i64 t,.int .i64 a1,.int .i64 a2,.string (mkB xs),.slice none 0 0,.string (mkB ys)] 112) rfl));have QK:=yb (zac (w:=w.alloc (.cells #[.int .i64 a0,.int .i64 f,.int .i64 t,.int .i64 a1,.int .i64 a2,.string (mkB xs),.slice none 0 0,.string (mkB ys)] 112)) (b:=w.heap.size+1) (.cells #[.int .i64 0,.int .i64 0,.string ⟨#[]⟩,.slice none 0 0] 25) (by rw [zaq]));refine (QU.out _ Qq.out).mono ?_;rintro e w1 ⟨rfl,q,rfl⟩;generalize (w.alloc _).alloc _=W1 at *;have Ql:=yb (zag Qq.out q);have QL:=yb (show (W1.drewN q).heap[w.heap.size]?=_ from Qn.out);have Qs:=yb (show (W1.drewN q).heap[w.heap.size+1]?=_ from QK.out);clear Qn QK Qq;generalize W1.drewN q=W2 at *;obtain ⟨r,hr⟩:∃r,r=w.heap.size:=⟨_,rfl⟩;have ZD:p≠r:=by omega
 have QQ:p≠r+1:=by omega
 rw [<-hr] at QL Qs |-;have Qr:=yb hr;clear hr ZC
 go_upto_region 2 with fail
 go_cut [25] from 7 (fun v25 wx=>∃c:Bool,v25=.bool c/\Hid (c=true↔(topW st=true/\(a0≠1\/a1≠5)))/\W2=wx)
 case first =>
  obtain ⟨⟨k0,k1,k2,k3,k4,k5,k6,k7⟩,-⟩:=zah QL.out;rcases ZH.out _ Ql.out with ⟨rfl,rfl⟩|⟨v,st',g,t',sa,sc,rfl,rfl,h1,h2,h3⟩
  ·unfold topP
   go_wp2
   go_meet
   exact ⟨false,rfl,yb (by simp [topW]),rfl⟩
  ·have QZ:=yb (zfK h3 (by omega))
   have QM:=yb (show topW (v::st')=(v.dict&&v.l.length % 2==0) from rfl);unfold topP;generalize (v.dict&&v.l.length % 2==0)=tw at *;clear h1 h2 h3
   cases tw
   ·go_wp2_with (go_at_call 139;refine QZ.out.mono ?_;rintro e w' ⟨rfl,rfl⟩)
    go_meet
    exact ⟨false,rfl,yb (by rw [QM.out];simp),rfl⟩
   ·by_cases h1:a0=1
    ·subst h1
     by_cases h5:a1=5
     ·subst h5
      go_wp2_with (go_at_call 139;refine QZ.out.mono ?_;rintro e w' ⟨rfl,rfl⟩)
      go_meet
      exact ⟨false,rfl,yb (by simp),rfl⟩
     ·have e1:(a1==5)=false:=by rw [yf];exact h5
      have e2:(a1 != 5)=true:=by simp only [bne,e1,yj]
      go_wp2_with (go_at_call 139;refine QZ.out.mono ?_;rintro e w' ⟨rfl,rfl⟩)
      go_meet
      exact ⟨true,rfl,yb (by rw [QM.out];simp [h5]),rfl⟩
    ·have e1:(a0==1)=false:=by rw [yf];exact h1
     have e2:(a0 != 1)=true:=by simp only [bne,e1,yj]
     go_wp2_with (go_at_call 139;refine QZ.out.mono ?_;rintro e w' ⟨rfl,rfl⟩)
     go_meet
     exact ⟨true,rfl,yb (by rw [QM.out];simp [h1]),rfl⟩
 case rest =>
  obtain ⟨c,rfl,HC,rfl⟩:=hcut;have Qz:w.heap.size<=r+1:=by rw [Qr.out];exact Nat.le_succ _
  have QI:=yb Qz;clear Qz
  cases c with
  | true =>
   have Qa:=HR.out;rw [yg (HC.out.1 rfl)] at Qa;have Qb:=yb Qa;obtain ⟨⟨q0,q1,q2,q3⟩,n0,n1,n2,n3⟩:=zad Qs.out;clear Qa HR QH ZI Qm;go_wp2;refine yi (zaa rfl _ _ (r+1) 25 _ (0,0) _ rfl (by exact set4 Qs.out _ _ _ _) Tryz.underlying25 rfl (by exact zav) _ rfl) rfl ?_;rw [Qb.out];exact ⟨rfl,fin4 HS.out Ql.out QI.out (zam Qs.out) _ _ _ _⟩
  | false =>
   have Qa:=HR.out;rw [yh (fun h=>absurd (HC.out.2 h) (by decide))] at Qa;have Qt:=yb Qa;obtain ⟨⟨k0,k1,k2,k3,k4,k5,k6,k7⟩,-⟩:=zah QL.out;clear Qa HR HC
   by_cases h6:a0=6
   ·have Qa:=Qt.out
    rw [yg h6] at Qa;subst h6
    have QW:R=((wordE ys).1,at_,(wordE ys).2):=by
     rw [Qa];unfold wordE;cases zeN ys<;>rfl
    have Qb:=yb QW;unfold pvA at ZI;clear Qa QW Qt;go_wp2_with fail
    refine (ZI.out _).mono ?_;rintro e w3 ⟨rfl,Qg⟩;have Qc:=yb (zab Qg Qs.out);have Qf:=yo Ql Qg;obtain ⟨⟨q0,q1,q2,q3⟩,n0,n1,n2,n3⟩:=zad Qc.out;clear Qg;go_wp2;refine yi (zaa rfl _ _ (r+1) 25 _ (0,0) _ rfl (by exact set4 Qc.out _ _ _ _) Tryz.underlying25 rfl (by exact zav) _ rfl) rfl ?_;rw [Qb.out];exact ⟨rfl,fin4 HS.out Qf.out QI.out (zam Qc.out) _ _ _ _⟩
   ·have Qa:=Qt.out
    rw [yh h6] at Qa;have QG:=yb Qa;have e1:(a0==6)=false:=by rw [yf];exact h6
    clear Qa h6 Qt;go_wp2_with fail
    refine (Qm.out _).mono ?_;rintro e w3 ⟨rfl,Qg⟩;have Qy:=yb (zab Qg QL.out);have Qc:=yb (zab Qg Qs.out);have Qf:=yo Ql Qg;clear k0 k1 k2 k3 k4 k5 k6 k7 Qg;obtain ⟨⟨k0,k1,k2,k3,k4,k5,k6,k7⟩,-⟩:=zah Qy.out
    cases wh with
    | true =>
     have Qa:=QG.out;rw [yg rfl] at Qa;have Qb:=yb Qa;have Q6:=yb (QH.out _ Qf.out (by rw [<-Qr.out];exact zam Qc.out));rw [QS.out] at Q6;unfold pvA at Q6;simp only [PV.kind,PV.n,PV.s] at Q6;clear Qa QG QH;go_wp2_with fail
     refine Q6.out.mono ?_;rintro e w4 ⟨he,ZJ,QB⟩;unfold pvA at he;subst he;have Q7:=yb (QB.obj Qc.out (fun e=>QQ e.symm));have ZF:=yb ZJ;have QK:=yb ((zaz Qf.out).trans QB (fun b hb=>.inl hb));obtain ⟨⟨q0,q1,q2,q3⟩,n0,n1,n2,n3⟩:=zad Q7.out;clear ZJ QB Q6;go_wp2;refine yi (zaa rfl _ _ (r+1) 25 _ (0,0) _ rfl (by exact set4 Q7.out _ _ _ _) Tryz.underlying25 rfl (by exact zav) _ rfl) rfl ?_;rw [Qb.out];rw [QS.out];exact ⟨rfl,(ZF.out.set4 (.inr (by rw [Qr.out])) _ _ _ _).give fun b hb=>.inl hb,zbv QK.out QI.out _ _ _ _⟩
    | false =>
     have Qa:=QG.out;rw [yh (by decide)] at Qa;have Qb:=yb Qa;obtain ⟨⟨q0,q1,q2,q3⟩,n0,n1,n2,n3⟩:=zad Qc.out;clear Qa QG QH;go_wp2;refine yi (zaa rfl _ _ (r+1) 25 _ (0,0) _ rfl (by exact set4 Qc.out _ _ _ _) Tryz.underlying25 rfl (by exact zav) _ rfl) rfl ?_;rw [Qb.out,QS.out];exact ⟨rfl,fin4 HS.out Qf.out QI.out (zam Qc.out) _ _ _ _⟩
end
theorem ptrs_cons (g:Nat) (gs:List Nat):ptrs (g::gs)=ptrs gs++[.pointer (some ⟨g,0,none⟩)]:=by simp [ptrs]
section
variable {w0 w w' : World} {F F' G G' : Nat -> Prop} {p : Nat} {a : Option Addr} {cap : Nat} {bs : List UInt8} {yq : Bool} {st : List Lv} {at_ : Int} {gs : List Nat} {osl : Value}
theorem zaA.ownp (h:zaA w0 w F G p a cap bs yq st at_ gs osl) {b:Nat} (hb:osl.ownBlock=some b):b≠p:=by
 obtain ⟨cs,hc⟩:=zaY h.own hb;exact zbj hc h.blk (by decide)
theorem zaA.ownF (h:zaA w0 w F G p a cap bs yq st at_ gs osl) {b:Nat} (hb:osl.ownBlock=some b):¬F b:=fun hf=>by
 obtain ⟨cs,hc⟩:=zaY h.own hb;obtain ⟨_,_,ds,hd⟩:=h.fb b hf;exact zbj hc hd (by decide) rfl
theorem zaA.Flt (h:zaA w0 w F G p a cap bs yq st at_ gs osl) {b:Nat} (hb:F b):b<w.heap.size:=by obtain ⟨_,_,cs,hc⟩:=h.fb b hb;exact zam hc
theorem isLV_ne {w:World} {b c:Nat} {x:Array Value} {t:TypeId} {f:Nat×Nat} (h:IsLV w b) (hc:w.heap[c]?=some (.cells x t f)) (h1:t≠128) (h2:t≠25):b≠c:=by
 rcases h with ⟨cs,h⟩|⟨cs,h⟩
 ·exact zbj h hc (Ne.symm h1)
 ·exact zbj h hc (Ne.symm h2)
theorem zaA.push (h:zaA w0 w F G p a cap bs yq st at_ gs osl) (d:Bool) (hd:st.length<64) (o:Obj) {w2:World} {v':Value}
  (hO:w2.ownsRow w0.heap.size 125 1 v' (st.length+1) (ptrs gs++[.pointer (some ⟨w.heap.size,0,none⟩)]))
  (hg:((w.alloc (.cells #[.bool d,.slice none 0 0] 128)).alloc o).grownBy w2 osl.ownBlock) (hN:NewAt ((w.alloc (.cells #[.bool d,.slice none 0 0] 128)).alloc o) osl v') :
  Nxt w0 w F G p a cap bs yq ({ dict:=d,l:=[] }::st) at_ F (w2.setCell ⟨p,3,none⟩ v'):=by
 have Zi:((w.alloc (.cells #[.bool d,.slice none 0 0] 128)).alloc o).heap.size=w.heap.size+2:=by rw [zaq,zaq]
 have Yo:=hg.size;rw [Zi] at Yo;have Qp:=za6 w (.cells #[.bool d,.slice none 0 0] 128) o;have hp:=h.lt;have Yp:∀b,osl.ownBlock=some b->b<w.heap.size:=fun b hb=>(h.own.lt b hb).2;have Q8:∀b,b<w.heap.size->osl.ownBlock≠some b->w2.heap[b]?=w.heap[b]?:=fun b hb hn=>(hg.block b (by rw [Zi];omega) (fun e=>hn e.symm)).trans (Qp.block b hb);have Qj:∀b,b≠p->(w2.setCell ⟨p,3,none⟩ v').heap[b]?=w2.heap[b]?:=fun b hb=>heap_setCell_other _ _ _ _ hb;have Z1:(w2.setCell ⟨p,3,none⟩ v').heap.size=w2.heap.size:=by simp [World.setCell]
 have Yq:osl.ownBlock≠some p:=fun e=>h.ownp e rfl
 have Yr:w2.heap[w.heap.size]?=some (.cells #[.bool d,.slice none 0 0] 128 (0,0)):=by
  rw [hg.block w.heap.size (by rw [Zi];omega) (fun e=>by have:=Yp _ e.symm;omega)];exact zal o (zac _ rfl)
 have Z2:w2.heap[p]?=_:=(Q8 p hp Yq).trans h.blk;have Ys:∀b,v'.ownBlock=some b->b≠p:=fun b hb=>by obtain ⟨cs,hc⟩:=zaY hO hb;exact zbj hc Z2 (by decide)
 have Qu:zaU F w (w2.setCell ⟨p,3,none⟩ v'):=⟨by omega,fun b hb hf=>by
  rw [Qj b (h.notF hf),Q8 b hb (fun e=>h.ownF e hf)]⟩
 refine ⟨⟨w.heap.size::gs,v',heap_setCell_same w2 p 3 _ _ _ Z2,h.base,h.gp,?_,fun b hb hG=>?_,?_,fun b hb=>?_,fun b hb=>?_,?_,h.row,h.small,by simp;omega⟩,⟨by omega,fun b hb hG=>?_⟩,Qu,fun _ h=>h⟩
 ·rw [ptrs_cons];exact zbd hO fun b hb=>Qj b (Ys b hb)
 ·rcases hN b hb with e|e
  ·exact h.go b e hG
  ·have:=(h.gb b hG).2;rw [Zi] at e;omega
 ·refine ⟨w.heap.size,gs,.slice none 0 0,[],rfl,h.bel.size,fun hG=>by have:=(h.gb _ hG).2;omega,(Qj _ (by omega)).trans Yr,World.ownsRow_nil _ _ _ _,rfl,fun b hb=>(by cases hb),?_⟩
  refine h.lvs.keep' Qu (fun _ h=>h) (fun b hb hn hl=>?_) (fun b hb=>.inl hb) (fun b hb=>?_)
  ·rw [Qj b (isLV_ne hl h.blk (by decide) (by decide)),Q8 b hb (fun e=>by obtain ⟨cs,hc⟩:=zaY h.own e;exact isLV_ne hl hc (by decide) (by decide) rfl)]
  ·rcases hb with hb|hb|hb
   ·exact .inl hb
   ·exact .inr (Nat.le_of_eq hb.symm)
   ·cases hb
 ·obtain ⟨h1,h2,cs,h3⟩:=h.fb b hb
  exact ⟨h1,h2,cs,by rw [Qu.2 b (h.Flt hb) hb];exact h3⟩
 ·have:=h.gb b hb;omega
 ·refine h.bel.trans (Below.setCell (w:=w2) (a:=w) (p:=⟨p,3,none⟩) ⟨?_,?_,?_,?_,fun b hb=>?_⟩ h.base _)
  ·exact hg.os.trans Qp.os
  ·exact hg.tape.trans Qp.tape
  ·exact hg.output.trans Qp.output
  ·have:=h.bel.size;omega
  ·exact Q8 b (by have:=h.bel.size;omega) (fun e=>by have:=(h.own.lt b e).1;omega)
 ·rw [Qj b (fun e=>h.gp (e▸hG)),Q8 b hb (fun e=>h.go b e hG)]
theorem zaA.pop {v:Lv} (h:zaA w0 w F G p a cap bs yq (v::st) at_ gs osl) {ao:Option Addr} {oc:Nat} (ho:osl=.slice ao (st.length+1) oc) :
  ∃F' sl,(∀b,F b->F' b)/\(∃g t cs,gs=g::t/\w.heap[g]?=some (.cells #[.bool v.dict,sl] 128 (0,0))/\w.ownsRow w0.heap.size 25 4 sl v.l.length cs/\IsVs w F' v.l cs/\(∀b,sl.ownBlock=some b->F' b)) /\
   Nxt w0 w F G p a cap bs yq st at_ F' (w.setCell ⟨p,3,none⟩ (.slice ao st.length oc)):=by
 obtain ⟨g,t,sl,cs,h1,h2,h3,h4,h5,h6,h7,h8⟩:=h.lvs;have Qj:∀b,b≠p->(w.setCell ⟨p,3,none⟩ (.slice ao st.length oc)).heap[b]?=w.heap[b]?:=fun b hb=>heap_setCell_other _ _ _ _ hb;have Z1:(w.setCell ⟨p,3,none⟩ (.slice ao st.length oc)).heap.size=w.heap.size:=by simp [World.setCell]
 have Zm:∀b,sl.ownBlock=some b->b≠p:=fun b hb=>by obtain ⟨cs,hc⟩:=zaY h5 hb;exact zbj hc h.blk (by decide)
 subst ho h1;have Qu:zaU F w (w.setCell ⟨p,3,none⟩ (.slice ao st.length oc)):=⟨by omega,fun b hb hf=>Qj b (h.notF hf)⟩
 refine ⟨fun b=>F b\/sl.ownBlock=some b,sl,fun b hb=>.inl hb,⟨g,t,cs,rfl,h4,h5,h6.weaken (fun b hb=>.inl hb),fun b hb=>.inr hb⟩,⟨t,.slice ao st.length oc,heap_setCell_same w p 3 _ _ _ h.blk,h.base,h.gp,?_,fun b hb=>?_,?_,fun b hb=>?_,fun b hb=>by rw [Z1];exact h.gb b hb,h.bel.trans ((Below.refl _ _).setCell h.base _),h.row,h.small,by have:=h.deep;simp at this;omega⟩,
  ⟨by omega,fun b hb hG=>Qj b (fun e=>h.gp (e▸hG))⟩,Qu,fun b hb=>.inl hb⟩
 ·have ho:=h.own
  rw [ptrs_cons] at ho;obtain ⟨hl,ho⟩:=ho;rcases ho with ⟨hn,-⟩|⟨gg,cc,cur,hv,hb,hh,QE,ZZ,Yt,Yu⟩
  ·simp at hn
  ·simp only [Value.slice.injEq] at hv
   obtain ⟨rfl,-,rfl⟩:=hv;have Z3:(ptrs t).length=st.length:=by simpa using hl
   refine ⟨by simpa using Z3,.inr ⟨gg,oc,cur,rfl,hb,?_,by simp at QE;omega,ZZ,Yt,?_⟩⟩
   ·rw [Qj gg (by intro e;subst e;exact h.ownp rfl rfl)];exact hh
   ·have:=congrArg (List.take st.length) Yu
    simpa [List.take_take,Z3] using this
 ·refine h.go b ?_
  cases ao with
  | none=>cases hb
  | some x=>exact hb
 ·refine h8.keep' Qu (fun b hb=>.inl hb) (fun b hb hn hl=>Qj b (isLV_ne hl h.blk (by decide) (by decide))) (fun b hb=>?_) (fun b hb=>.inl (.inl hb))
  rcases hb with hb|hb
  ·exact .inl hb
  ·exact .inr (.inl (.inr (.inr hb)))
 ·rcases hb with hb|hb
  ·obtain ⟨k1,k2,ds,k3⟩:=h.fb b hb
   exact ⟨k1,k2,ds,by rw [Qj b (h.notF hb)];exact k3⟩
  ·obtain ⟨ds,k3⟩:=zaY h5 hb
   exact ⟨(h5.lt b hb).1,(h7 b hb).2,ds,by rw [Qj b (Zm b hb)];exact k3⟩
theorem zaA.lastL {v:Lv} (h:zaA w0 w F G p a cap bs yq (v::st) at_ gs osl):∃g t sa sc cs,gs=g::t/\v.l.length<=sc/\sc<=maxLen/\w0.heap.size<=g/\¬G g/\w.heap[g]?=some (.cells #[.bool v.dict,.slice sa v.l.length sc] 128 (0,0)) /\
  w.ownsRow w0.heap.size 25 4 (.slice sa v.l.length sc) v.l.length cs/\IsVs w F v.l cs/\∀b,(Value.slice sa v.l.length sc).ownBlock=some b->¬F b/\¬G b:=by
 obtain ⟨g,t,sl,cs,h1,h2,h3,h4,h5,h6,h7,h8⟩:=h.lvs;obtain ⟨sa,sc,rfl,h9,ZG⟩:=zaB h5;exact ⟨g,t,sa,sc,cs,h1,h9,ZG,h2,h3,h4,h5,h6,h7⟩
theorem zaA.put {v:Lv} {g:Nat} {t:List Nat} (h:zaA w0 w F G p a cap bs yq (v::st) at_ (g::t) osl) {sl:Value} (h4:w.heap[g]?=some (.cells #[.bool v.dict,sl] 128 (0,0))) {cs:List Value}
  (h6:IsVs w F v.l cs) {x:PV} {sx:Value} (hx:IsV w F x sx) {w3:World} {v':Value} (hO:w3.ownsRow w0.heap.size 25 4 v' (v.l.length+1) (cs++pvC x sx)) (hk:zak (fun b=>sl.ownBlock=some b) w w3)
  (hN:∀b,v'.ownBlock=some b->sl.ownBlock=some b\/w.heap.size<=b) :
  Nxt w0 w F G p a cap bs yq ({ v with l:=v.l++[x] }::st) at_ F (w3.setCell ⟨g,1,none⟩ v'):=by
 obtain ⟨g',t',sl',cs',h1,h2,h3,Z4,h5,-,h7,h8⟩:=h.lvs;simp only [List.cons.injEq] at h1;obtain ⟨rfl,rfl⟩:=h1
 have Zj:sl'=sl:=by
  rw [h4] at Z4
  simpa using Z4.symm
 subst Zj;have YS:=zam h4;have Yv:∀b,sl'.ownBlock=some b->b≠g:=fun b hb=>by obtain ⟨ds,hc⟩:=zaY h5 hb;exact zbj hc h4 (by decide)
 have Zj:∀b,sl'.ownBlock=some b->b<w.heap.size:=fun b hb=>(h5.lt b hb).2;have QB:∀b,b≠g->(w3.setCell ⟨g,1,none⟩ v').heap[b]?=w3.heap[b]?:=fun b hb=>heap_setCell_other _ _ _ _ hb;have ZJ:(w3.setCell ⟨g,1,none⟩ v').heap.size=w3.heap.size:=by simp [World.setCell]
 have hsz:=hk.size;have Z5:w3.heap[g]?=some (.cells #[.bool v.dict,sl'] 128 (0,0)):=hk.obj h4 (fun e=>Yv g e rfl);have Yw:∀b,v'.ownBlock=some b->b≠g:=fun b hb=>by obtain ⟨ds,hc⟩:=zaY hO hb;exact zbj hc Z5 (by decide)
 have Yx:p≠g:=zbj h.blk h4 (by decide);have Yy:sl'.ownBlock≠some p:=fun e=>by obtain ⟨ds,hc⟩:=zaY h5 e;exact zbj hc h.blk (by decide) rfl
 have Yz:∀b,F b->b≠g:=fun b hb=>by obtain ⟨_,_,ds,hc⟩:=h.fb b hb;exact zbj hc h4 (by decide)
 have Qu:zaU F w (w3.setCell ⟨g,1,none⟩ v'):=⟨by omega,fun b hb hf=>by rw [QB b (Yz b hf),hk.block b hb (fun e=>(h7 b e).1 hf)]⟩
 have ZK:∀b,osl.ownBlock=some b->b≠g/\sl'.ownBlock≠some b/\b<w.heap.size:=fun b hb=>by
  obtain ⟨ds,hc⟩:=zaY h.own hb;exact ⟨zbj hc h4 (by decide),fun e=>by obtain ⟨es,hd⟩:=zaY h5 e;exact zbj hc hd (by decide) rfl,(h.own.lt b hb).2⟩
 refine ⟨⟨g::t,osl,by rw [QB p Yx,hk.block p h.lt Yy];exact h.blk,h.base,h.gp,zbd h.own fun b hb=>?_,h.go,?_,fun b hb=>?_,fun b hb=>by have:=h.gb b hb;omega,?_,h.row,h.small,h.deep⟩,⟨by omega,fun b hb hG=>?_⟩,Qu,fun _ h=>h⟩
 ·rw [QB b (ZK b hb).1,hk.block b (ZK b hb).2.2 (ZK b hb).2.1]
 ·refine ⟨g,t,v',cs++pvC x sx,rfl,h2,h3,heap_setCell_same w3 g 1 _ _ _ Z5,?_,?_,fun b hb=>?_,?_⟩
  ·show World.ownsRow _ _ _ _ _ (v.l++[x]).length _
   rw [List.length_append];exact zbd hO fun b hb=>QB b (Yw b hb)
  ·exact (IsVs.keep Qu (fun _ h=>h) _ h6).snoc (IsV.keep Qu (fun _ h=>h) _ hx)
  ·rcases hN b hb with e|e
   ·exact h7 b e
   ·exact ⟨fun hf=>by have:=h.Flt hf;omega,fun hG=>by have:=(h.gb b hG).2;omega⟩
  ·refine h8.keep' Qu (fun _ h=>h) (fun b hb hn hl=>?_) (fun b hb=>.inl hb) (fun b hb=>?_)
   ·rw [QB b (fun e=>hn (.inr (.inl e))),hk.block b hb (fun e=>hn (.inr (.inr e)))]
   ·rcases hb with hb|hb|hb
    ·exact .inl (.inl hb)
    ·exact .inl (.inr (.inl hb))
    ·rcases hN b hb with e|e
     ·exact .inl (.inr (.inr e))
     ·exact .inr e
 ·obtain ⟨k1,k2,ds,k3⟩:=h.fb b hb
  exact ⟨k1,k2,ds,by rw [Qu.2 b (h.Flt hb) hb];exact k3⟩
 ·have h9:=h.bel.size
  refine h.bel.trans (Below.setCell (w:=w3) (a:=w) (p:=⟨g,1,none⟩) ⟨hk.os,hk.tape,hk.output,hsz,fun b hb=>hk.block b (by omega) (fun e=>by have:=(h5.lt b e).1;omega)⟩ h2 _)
 ·rw [QB b (fun e=>h3 (e▸hG)),hk.block b hb (fun e=>(h7 b e).2 hG)]
end
theorem ELvp:zfo Tryz.prog 120 125 (.pointer none) 1 8:=⟨Tryz.underlying120,by kernel_rfl,rfl,by omega⟩
section
variable {w0 w w' : World} {F F' G : Nat -> Prop} {p : Nat} {a : Option Addr} {cap : Nat} {bs : List UInt8} {yq : Bool} {st : List Lv} {at_ : Int} {gs : List Nat} {osl : Value}
theorem Nxt.refl (h:zaA w0 w F G p a cap bs yq st at_ gs osl) (hb:Below w.heap.size w w'):Nxt w0 w F G p a cap bs yq st at_ F w' :=
 ⟨⟨_,_,h.mono hb⟩,zaU.of_below hb,zaU.of_below hb,fun _ h=>h⟩
theorem row_newP (w:World) (x:Value) (e:TypeId) {b:Nat} (h:b=w.heap.size):Row (w.alloc (.cells #[x] e)) 1 (some ⟨b,0,none⟩) 1 1 [x]:=by subst h;exact zbz w x e
theorem owns_some {w:World} {base e sz:Nat} {v:Value} {n:Nat} {xs:List Value} (h:w.ownsRow base e sz v (n+1) xs) (_:0<sz):∃g cap,v=.slice (some ⟨g,0,none⟩) (n+1) cap:=by
 rcases h.2 with ⟨-,h0⟩|⟨g,cap,cur,rfl,-⟩
 ·cases h0
 ·exact ⟨g,cap,rfl⟩
theorem zaA.keepP (h:zaA w0 w F G p a cap bs yq st at_ gs osl) {W1 w2:World} (hb:Below w.heap.size w W1) (hg:W1.grownBy w2 osl.ownBlock) :
  w2.heap[p]?=some (.cells #[.slice a bs.length cap,.int .i64 at_,.bool yq,osl] 122 (0,0)) :=
 (hg.block p (Nat.lt_of_lt_of_le h.lt hb.size) (fun e=>h.ownp e.symm rfl)).trans (zab hb h.blk)
theorem begin_any (h:zaA w0 w F G p a cap bs yq st at_ gs osl) (d:Bool):Calls Tryz.prog 102 #[.pointer (some ⟨p,0,none⟩),.bool d] w fun e w' =>
  e=.returned (.int .i64 (zcE st d).2)/\Nxt w0 w F G p a cap bs yq (zcE st d).1 at_ F w':=by
 obtain ⟨R,hR⟩:∃R,R=zcE st d:=⟨_,rfl⟩;rw [<-hR];unfold zcE at hR;have HR:=yb hR;have QU:=yb (zhp h);have ZH:=yb (fun q=>(h.drewN q).top);have HS:=yb h;have YT:=h.deep;clear h hR;go_enter Tryz.func102,Tryz.ntmps102
 go_wp2_with fail
 refine QU.out.mono ?_;rintro e w1 ⟨rfl,q,rfl⟩;have QA:=yb (HS.out.drewN q)
 go_upto_region 2 with fail
 go_cut [13] from 6 (fun v13 wx=>v13=.bool (topW st)/\w.drewN q=wx)
 case first =>
  rcases ZH.out q with ⟨rfl,rfl⟩|⟨v,st',g,t',sa,sc,rfl,rfl,h1,h2,h3⟩
  ·unfold topP
   go_wp2
   go_meet
   exact ⟨rfl,rfl⟩
  ·have QZ:=yb (zfK h3 (by omega))
   have QM:=yb (show topW (v::st')=(v.dict&&v.l.length % 2==0) from rfl);unfold topP;generalize (v.dict&&v.l.length % 2==0)=tw at *;clear h1 h2 h3;go_wp2_with (go_at_call 139;refine QZ.out.mono ?_;rintro e w' ⟨rfl,rfl⟩)
   go_meet
   exact ⟨by rw [QM.out],rfl⟩
 case rest =>
  obtain ⟨rfl,rfl⟩:=hcut;obtain ⟨tw,ZL⟩:∃tw,tw=topW st:=⟨_,rfl⟩;rw [<-ZL];have QM:=yb ZL;clear ZL
  cases tw with
  | true =>
   have Qa:=HR.out;rw [yg QM.out.symm] at Qa;have Qb:=yb Qa;clear Qa HR;go_wp2;go_ret;rw [Qb.out];exact ⟨rfl,Nxt.refl HS.out (zag (Below.refl _ _) q)⟩
  | false =>
   have Qa:=HR.out;rw [yh (by rw [<-QM.out];decide)] at Qa;have Qt:=yb Qa;obtain ⟨ao,oc,rfl,YA,YB⟩:=zaB QA.out.own;obtain ⟨⟨c0,c1,c2,c3⟩,f0,f1,f2,f3⟩:=QA.out.cells;clear Qa HR
   by_cases h64:64<=st.length
   ·have hd:decide (64<=st.length)=true:=yd h64
    have Zg:decide ((64:Int)<=(st.length:Int))=true:=yd (by omega);have Qa:=Qt.out;rw [yg h64] at Qa;have Qb:=yb Qa;clear Qa h64;go_wp2;go_ret;rw [Qb.out];exact ⟨rfl,Nxt.refl HS.out (zag (Below.refl _ _) q)⟩
   ·have hd:decide (64<=st.length)=false:=ye h64
    have Zg:decide ((64:Int)<=(st.length:Int))=false:=ye (by omega);have Qa:=Qt.out;rw [yh h64] at Qa;have Qb:=yb Qa;have Zj:st.length<64:=by omega
    clear Qa h64;go_wp2_with (at_builtin;refine zcY ELvp rfl _ _ rfl w0.heap.size _ st.length (ptrs gs) rfl (zbh QA.out.own (za6 _ _ _)) _ 1 1 [.pointer (some ⟨w.heap.size,0,none⟩)] rfl (row_newP _ _ _ (by rw [zaq];rfl)) (zbZ rfl) (by unfold maxLen;omega) (by omega) (by rw [zaq,zaq];have:=QA.out.bel.size;omega) ?_;intro v2 w2 hO hg hN;obtain ⟨g2,oc2,rfl⟩:=owns_some hO (by omega);obtain ⟨⟨k0,k1,k2,k3⟩,l0,l1,l2,l3⟩:=zad (QA.out.keepP (za6 _ _ _) hg))
    go_ret;rw [Qb.out];have hN:=QA.out.push d Zj _ hO hg hN;exact ⟨rfl,hN.stk,hN.sg,hN.sf,hN.ff⟩
end
def cmpS (a b:List UInt8):Int:=if sLt a b=true then -1 else if sLt b a=true then 1 else 0
theorem isNaNS_any (a:ByteArray) (w:World):Calls Tryz.prog 192 #[.string a] w fun e w'=>e=.returned (.bool false)/\w=w':=by
 go_enter Tryz.func192,Tryz.ntmps192
 go_wp2;go_ret;exact ⟨zbF (by simp),rfl⟩
theorem cmpS_any (a b:List UInt8) (w:World):Calls Tryz.prog 172 #[.string (mkB a),.string (mkB b)] w fun e w'=>e=.returned (.int .i64 (cmpS a b))/\w=w':=by
 have hl:Op.bytesLess (mkB a).toList (mkB b).toList=sLt a b:=by rw [zaj,zaj,zce]
 have hg:¬sLt a b=true->(Op.bytesLess (mkB a).toList (mkB b).toList||(mkB a).toList==(mkB b).toList)=!sLt b a:=fun h=>by
  rw [zaj,zaj,zce];have h':sLt a b=false:=by simpa using h
  rw [h',Bool.false_or]
  by_cases e:a=b
  ·subst e;simp [zdA]
  ·rw [zcM a b h' e];simp [e]
 have HN:=yb (fun (a:ByteArray) (w:World)=>isNaNS_any a w);unfold cmpS
 by_cases h1:sLt a b=true
 ·rw [yg h1]
  rw [h1] at hl;clear hg h1;generalize mkB a=x at *;generalize mkB b=y at *;go_enter Tryz.func172,Tryz.ntmps172
  go_wp2_with (go_at_call 192;refine (HN.out _ _).mono ?_;rintro e w' ⟨rfl,rfl⟩)
  go_ret;exact ⟨rfl,rfl⟩
 ·rw [yh h1]
  have hg:=hg h1;rw [show sLt a b=false by simpa using h1] at hl
  by_cases h2:sLt b a=true
  ·rw [yg h2]
   rw [h2,hl,Bool.false_or] at hg;clear h1 h2;generalize mkB a=x at *;generalize mkB b=y at *;simp only [Bool.not_true] at hg;go_enter Tryz.func172,Tryz.ntmps172
   go_wp2_with (go_at_call 192;refine (HN.out _ _).mono ?_;rintro e w' ⟨rfl,rfl⟩)
   go_ret;exact ⟨rfl,rfl⟩
  ·rw [yh h2]
   rw [show sLt b a=false by simpa using h2,hl,Bool.false_or] at hg;clear h1 h2;generalize mkB a=x at *;generalize mkB b=y at *;simp only [yj] at hg;go_enter Tryz.func172,Tryz.ntmps172
   go_wp2_with (go_at_call 192;refine (HN.out _ _).mono ?_;rintro e w' ⟨rfl,rfl⟩)
   go_ret;exact ⟨rfl,rfl⟩
theorem cmpPair_any {w:World} {b o1 o2 n1 n2 c1 c2:Nat} {x y:List UInt8} (h1:w.cell? ⟨b,o1+2,none⟩=some (.string (mkB x))) (h2:w.cell? ⟨b,o2+2,none⟩=some (.string (mkB y))) (g1:0<n1) (g2:0<n2) :
  Calls Tryz.prog 171 #[.slice (some ⟨b,o1,none⟩) n1 c1,.slice (some ⟨b,o2,none⟩) n2 c2] w fun e w'=>e=.returned (.int .i64 (cmpS x y))/\∃q,w'=w.drewN q:=by
 have HC:=yb (fun W=>cmpS_any x y W);generalize cmpS x y=c at *;generalize mkB x=x' at *;generalize mkB y=y' at *;have i1:(0:Int)<(n1:Int):=by omega
 have i2:(0:Int)<(n2:Int):=by omega
 go_enter Tryz.func171,Tryz.ntmps171
 go_wp2
 go_quiet ((go_at_call 172;exact Calls.quiet_of ((HC.out _).mono fun _ _ h=>⟨h.1,0,h.2.symm⟩)))
 go_wp2;go_ret;exact ⟨rfl,_,rfl⟩
end Go.Proofs.YtcmoehknppjkiaaGreatDoor
namespace Go.Proofs.YtcmoehknppjkiaaGreatDoor
open Go.RowKit Go.Sort
structure SB {α:Type} (enc:α->Value) (w0:World) (g:Nat) (t:TypeId) (rest:List Value) (d:Array α) (w:World):Prop where
 grown:w0.grownBy w (some g)
 blk:w.heap[g]?=some (.cells (d.toList.map enc++rest).toArray t (0,0))
section
variable {α : Type} {enc : α -> Value} {w0 w : World} {g : Nat} {t : TypeId} {rest : List Value} {d : Array α}
theorem SB.cell [Inhabited α] (h:SB enc w0 g t rest d w) (i:Nat) (hi:i<d.size):w.cell? ⟨g,i,none⟩=some (enc d[i]!):=by
 rw [cell_of_row w g i _ t (0,0) h.blk];simp [List.getElem?_append,hi]
theorem SB.free (h:SB enc w0 g t rest d w) (i:Nat):w.frozen? ⟨g,i,none⟩=false:=frozen_of_row w g i _ t h.blk
theorem SB.drewN (h:SB enc w0 g t rest d w) (n:Nat):SB enc w0 g t rest d (w.drewN n):=⟨⟨h.grown.os,h.grown.tape,h.grown.output,h.grown.size,h.grown.block⟩,h.blk⟩
theorem zgn {w0 w:World} {g i:Nat} (h:w0.grownBy w (some g)) (v:Value):w0.grownBy (w.setCell ⟨g,i,none⟩ v) (some g) :=
 ⟨h.os,h.tape,h.output,by simp [World.setCell];exact h.size,fun k hk hne=>by rw [heap_setCell_other w ⟨g,i,none⟩ k v (fun e=>hne (by simp [e]))];exact h.block k hk hne⟩
theorem ze8 (w:World) (row:Option Nat):w.grownBy w row:=⟨rfl,rfl,rfl,yp _,fun _ _ _=>rfl⟩
theorem zhn {w0 w:World} {row:Option Nat} (h:w0.grownBy w row) (n:Nat):w0.grownBy (w.drewN n) row:=⟨h.os,h.tape,h.output,h.size,h.block⟩
theorem SB.set (h:SB enc w0 g t rest d w) (i:Nat) (hi:i<d.size) (x:α):SB enc w0 g t rest (d.setIfInBounds i x) (w.setCell ⟨g,i,none⟩ (enc x)):=by
 refine ⟨zgn h.grown _,?_⟩;rw [heap_setCell_same w g i _ t _ h.blk,List.setIfInBounds_toArray,List.set_append];simp [hi,List.map_set]
theorem SB.swp [Inhabited α] (h:SB enc w0 g t rest d w) (i j:Nat) (hi:i<d.size) (hj:j<d.size) (q:Nat) :
  SB enc w0 g t rest (swp d i j) (((w.drewN q).setCell ⟨g,i,none⟩ (enc d[j]!)).setCell ⟨g,j,none⟩ (enc d[i]!)) :=
 ((h.drewN q).set i hi _).set j (by simpa using hj) _
theorem SB.row (h:SB enc w0 g t rest d w) {cap:Nat} (h1:d.size<=cap) (h2:cap<=maxLen):Row w 1 (some ⟨g,0,none⟩) d.size cap (d.toList.map enc):=by
 refine ⟨by simp,h1,h2,fun e=>(by cases e),fun _=>⟨g,0,rfl,(Array.getElem?_eq_some_iff.1 h.blk).1,fun j u hj=>?_⟩⟩;rw [Nat.zero_add,cell_of_row w g j _ t (0,0) h.blk];have YC:=(List.getElem?_eq_some_iff.1 hj).1;rw [List.getElem?_toArray,List.getElem?_append_left YC];exact hj
theorem SB.start {cs:Array Value} {n:Nat} (hb:w.heap[g]?=some (.cells cs t (0,0))) (hx:cs.toList.take n=d.toList.map enc):SB enc w g t (cs.toList.drop n) d w :=
 ⟨⟨rfl,rfl,rfl,yp _,fun _ _ _=>rfl⟩,by rw [<-hx,List.take_append_drop];exact hb⟩
end
structure CmpQ {α:Type} (P:Program) (f:FuncId) (cb:Array Value) (enc:α->Value) (cf:α->α->Int) (D:α->Prop) (w0:World) (g:Nat):Prop where
 enters:∀args w,(callFunc f args).run P w=.ok (.enter f args) w
 calls:∀W,w0.grownBy W (some g)->∀x y,D x->D y->Calls P f (#[enc x,enc y]++cb) W fun e w'=>e=.returned (.int .i64 (cf x y))/\∃q,w'=W.drewN q
def ltOf {α:Type} (cf:α->α->Int) (x y:α):Bool:=decide (cf x y<0)
section
variable {α : Type} [Inhabited α] (lt : α -> α -> Bool)
theorem inner_go (a j:Nat) (d:Array α) (hj:a<j) (hl:lt d[j]! d[j-1]! = true):insInner lt a j d=insInner lt a (j-1) (swp d j (j-1)):=by
 rcases j with _|k
 ·omega
 ·have h1:(decide (k+1 > a)&&lt d[k+1]! d[k]!)=true:=by simp only [Nat.add_sub_cancel] at hl;simp [hl,hj]
  rw [insInner,yg h1];rfl
theorem zgV (a j:Nat) (d:Array α) (h:j<=a\/lt d[j]! d[j-1]! = false):insInner lt a j d=d:=by
 rcases j with _|k
 ·rfl
 ·rw [insInner,yh]
  simp only [Nat.add_sub_cancel] at h;rcases h with h|h
  ·simp;omega
  ·simp [h]
theorem zfB (a b i:Nat) (d:Array α) (h:i<b):insOuter lt a b i d=insOuter lt a b (i+1) (insInner lt a i d):=by rw [insOuter,yg h]
theorem zda (a b i:Nat) (d:Array α) (h:¬i<b):insOuter lt a b i d=d:=by rw [insOuter,yh h]
end
end Go.Proofs.YtcmoehknppjkiaaGreatDoor
namespace Go.Proofs.YtcmoehknppjkiaaGreatDoor
open Go.RowKit Go.Shelf
attribute [local go_sem] Oper.semAt_some
def zcA (b off:Nat) (k:Nat):Value:=.slice (some ⟨b,off+2*k*4,none⟩) 2 2
theorem staysK_t {S:Nat->Prop} {A B C:World} (h:zaU S A B) (k:zaU S B C):zaU S A C:=h.trans k
theorem staysK_b {S:Nat->Prop} {w:World} (hS:∀b,S b->b<w.heap.size) (W:World) (l:Nat) (o o':Obj) (hl:w.heap.size<=l) (_:W.heap[l]?=some o) (_:o.isCells=false) (_:o.isWalk=false):zaU S W (W.putObj l o') :=
 ⟨by simp,fun b _ hb=>World.putObj_heap_other (fun e=>by have:=hS b hb;omega)⟩
theorem chunk_in (_:Fence.wide.fn 169) (n:Nat) (a:Option Addr) (len cap:Nat) (w:World) :
  CallsIn Fence.wide n Tryz.prog 169 #[.slice a len cap,.int .i64 2] w fun e w'=>e=.returned (.func (.func 190) #[] #[.pointer (some ⟨w.heap.size,0,none⟩),.pointer (some ⟨w.heap.size+1,0,none⟩)]) /\
   w'=(w.alloc (.cells #[.slice a len cap] 23)).alloc (.cells #[.int .i64 2] 3):=by
 refine callsIn_wide.2 ?_;go_enter Tryz.func169,Tryz.ntmps169
 go_wp2;go_ret;exact ⟨rfl,rfl⟩
set_option maxRecDepth 100000 in
theorem chunk1_in (n:Nat) (hro:Fence.wide.round=none) (hn:1<=n) (l Bs Bn b off m cap:Nat) (hcap:2*m<=cap) (hcm:cap<=maxLen) (J Jx:List Nat->World->Prop) (hJd:∀s W q,J s W->J s (W.drewN q))
  (hY:∀pre x W,J pre W->pre.length<m->YieldAt Fence.wide (n-1) Tryz.prog l #[zcA b off x] W fun e W' =>
   (e=.returned (.bool true)/\J (pre++[x]) W'/\zaU (fun c=>c=Bs\/c=Bn) W W')\/(e=.returned (.bool false)/\Jx (pre++[x]) W'))
  (W:World) (hBs:W.cell? ⟨Bs,0,none⟩=some (.slice (some ⟨b,off,none⟩) (2*m) cap)) (hBn:W.cell? ⟨Bn,0,none⟩=some (.int .i64 2)) (h0:J [] W) :
  CallsIn Fence.wide n Tryz.prog 190 #[.func (.yield l) #[] #[],.pointer (some ⟨Bs,0,none⟩),.pointer (some ⟨Bn,0,none⟩)] W fun e W'=>(∃v,e=.returned v) /\
   ((∃ys,ys=List.range m/\J ys W')\/(∃pre,(∃k,k<=m/\pre=List.range k)/\Jx pre W')):=by
 unfold maxLen at hcm;refine callsIn_of_wp Tryz.func190 rfl trivial ?_ hro;simp only [Tryz.ntmps190,List.size_toArray,List.length_cons,List.length_nil,Nat.reduceAdd,Nat.reduceSub,Array.replicate_succ,Array.replicate_zero,List.push_toArray,List.append_toArray,List.nil_append,List.cons_append]
 gi_wp2
 gi_loopw [4] (fun i wr=>∃k:Nat,k<=m/\i=.int .i64 (2*(k:Int))/\J (List.range k) wr/\zaU (fun c=>c=Bs\/c=Bn) W wr)
  (fun i _=>2*m-(intOf i).toNat)
 case atStart=>exact ⟨0,Nat.zero_le _,rfl,h0,zaU.refl _ _⟩
 case round =>
  obtain ⟨k,hk,rfl,QV,ZM⟩:=hrel;have e1:wr.cell? ⟨Bs,0,none⟩=some (.slice (some ⟨b,off,none⟩) (2*m) cap):=(World.cell?_of_block (ZM.2 Bs (World.block_lt_of_cell? W _ hBs) (.inl rfl))).trans hBs;have e2:wr.cell? ⟨Bn,0,none⟩=some (.int .i64 2):=(World.cell?_of_block (ZM.2 Bn (World.block_lt_of_cell? W _ hBn) (.inr rfl))).trans hBn
  by_cases hlt:k<m
  ·have d1:decide (2*(k:Int)<((2*m:Nat):Int))=true:=yd (by omega)
   have HJ:=yb QV;have HY:=yb hY;have YD:=yb hJd;clear QV hY hJd
   gi_wp2
   refine wpIn_wide.2 ?_;have i1:(0:Int)<=2*(k:Int):=by omega
   have i2:(2*(k:Int)).toNat=2*k:=by omega
   have i3:(2*(k:Int))<=(cap:Int):=by omega
   have i4:2*k<=2*m:=by omega
   go_quiet (fail)
   obtain ⟨fn,tmps,assign,body,hy,hR⟩:=HY.out _ k (wr.drewN nq) (YD.out _ _ nq HJ.out) (by simpa using hlt);unfold zcA at hy;have i5:2*(k:Int)+2<=(cap:Int):=by omega
   have i6:(2*(k:Int)+2).toNat=2*k+2:=by omega
   have i7:(0:Int)<=2*(k:Int)+2:=by omega
   have i8:2*(k:Int)<=2*(k:Int)+2:=by omega
   gi_wp2
   refine hR.mono ?_;rintro e W3 (⟨rfl,Z6,Qj⟩|⟨rfl,ZN⟩)
   ·have g1:W3.cell? ⟨Bs,0,none⟩=some (.slice (some ⟨b,off,none⟩) (2*m) cap):=(World.cell?_of_block (Qj.2 Bs (World.block_lt_of_cell? (wr.drewN nq) _ e1) (.inl rfl))).trans e1
    have g2:W3.cell? ⟨Bn,0,none⟩=some (.int .i64 2):=(World.cell?_of_block (Qj.2 Bn (World.block_lt_of_cell? (wr.drewN nq) _ e2) (.inr rfl))).trans e2;have YE:=yb Z6;have Qn:=yb (ZM.trans (show zaU (fun c=>c=Bs\/c=Bn) wr W3 from Qj));clear Z6 Qj
    gi_wp2
    go_roundw
    case rel=>exact ⟨k+1,by omega,by congr 1,by rw [List.range_succ];exact YE.out,Qn.out⟩
    case measure=>simp [intOf];omega
   ·gi_wp2
    refine yi (results_none rfl _ _ _) rfl ?_;exact ⟨⟨_,rfl⟩,.inr ⟨_,⟨k+1,by omega,by rw [List.range_succ]⟩,ZN⟩⟩
  ·obtain rfl:k=m:=by omega
   have d1:decide (2*(k:Int)<((2*k:Nat):Int))=false:=ye (by omega)
   gi_wp2
   go_end0
   exact ⟨⟨_,rfl⟩,.inl ⟨_,rfl,QV⟩⟩
theorem chunk0_in (n:Nat) (hro:Fence.wide.round=none) (l Bs Bn:Nat) (a:Option Addr) (cap:Nat) (J:List Nat->World->Prop) (W:World) (hBs:W.cell? ⟨Bs,0,none⟩=some (.slice a 0 cap)) (h0:J [] W) :
  CallsIn Fence.wide n Tryz.prog 190 #[.func (.yield l) #[] #[],.pointer (some ⟨Bs,0,none⟩),.pointer (some ⟨Bn,0,none⟩)] W fun e W'=>(∃v,e=.returned v)/\J [] W':=by
 refine callsIn_of_wp Tryz.func190 rfl trivial ?_ hro;simp only [Tryz.ntmps190,List.size_toArray,List.length_cons,List.length_nil,Nat.reduceAdd,Nat.reduceSub,Array.replicate_succ,Array.replicate_zero,List.push_toArray,List.append_toArray,List.nil_append,List.cons_append]
 gi_wp2
 gi_loopw [4] (fun i wr=>i=.int .i64 0/\wr.cell? ⟨Bs,0,none⟩=some (.slice a 0 cap)/\J [] wr) (fun _ _=>0)
 case atStart=>exact ⟨rfl,hBs,h0⟩
 case round =>
  obtain ⟨rfl,hb,QV⟩:=hrel
  gi_wp2
  go_end0
  exact ⟨⟨_,rfl⟩,QV⟩
theorem chunk_stops (n:Nat) (hro:Fence.wide.round=none) (hn:1<=n) (Bs Bn b off m cap:Nat) (a:Option Addr) (ha:0<m->a=some ⟨b,off,none⟩) (hcap:2*m<=cap) (hcm:cap<=maxLen) (w:World) (hBs:Bs<w.heap.size) (hBn:Bn<w.heap.size)
  (h1:w.cell? ⟨Bs,0,none⟩=some (.slice a (2*m) cap)) (h2:w.cell? ⟨Bn,0,none⟩=some (.int .i64 2)) :
  SeqStopsK Fence.wide n Tryz.prog 190 #[.pointer (some ⟨Bs,0,none⟩),.pointer (some ⟨Bn,0,none⟩)] (fun x:Nat=>#[zcA b off x]) (zaU (fun c=>c=Bs\/c=Bn)) (fun ys=>ys=List.range m) (fun pre=>∃k,k<=m/\pre=List.range k) m w:=by
 intro l J Jx W hW hJ _ hY h0;have e1:=(hW.cell (p:=⟨Bs,0,none⟩) hBs).trans h1;have e2:=(hW.cell (p:=⟨Bn,0,none⟩) hBn).trans h2;rcases Nat.eq_zero_or_pos m with rfl|hm
 ·exact (chunk0_in n hro l Bs Bn a cap J W e1 h0).mono fun e W' ⟨he,hj⟩=>⟨he,.inl ⟨_,rfl,hj⟩⟩
 ·rw [ha hm] at e1
  exact chunk1_in n hro hn l Bs Bn b off m cap hcap hcm J Jx (fun s W1 q hs=>hJ s W1 (W1.drewN q) none hs (zhn (ze8 W1 none) q) (fun r e=>by cases e)) hY W e1 e2 h0
end Go.Proofs.YtcmoehknppjkiaaGreatDoor
namespace Go.Proofs.YtcmoehknppjkiaaGreatDoor
open Go.Sort
def ltI (p:List (PV×PV)) (i j:Nat):Bool:=sLt p[i]!.1.s p[j]!.1.s||(p[i]!.1.s==p[j]!.1.s&&decide (i<j))
def insI (p:List (PV×PV)) (k:Nat):List Nat->List Nat
 | []=>[k]
 | j::l=>if sLt p[j]!.1.s p[k]!.1.s then j::insI p k l else k::j::l
def zhz (p:List (PV×PV)):List Nat->List Nat
 | []=>[]
 | k::l=>insI p k (zhz p l)
theorem sLt_nt {a b c:List UInt8} (h1:sLt a b=false) (h2:sLt b c=false):sLt a c=false:=by
 cases h:sLt a c with
 | false=>rfl
 | true =>
  by_cases hab:a=b
  ·subst hab;rw [h] at h2;cases h2
  ·have:=zhh b a c (zcM a b h1 hab) h
   rw [this] at h2;cases h2
theorem zhN (p:List (PV×PV)):SWO (ltI p) where
 irrefl x:=by simp [ltI,zdA]
 trans x y z h1 h2:=by
  unfold ltI at *;simp only [Bool.or_eq_true,Bool.and_eq_true,beq_iff_eq,decide_eq_true_eq] at *;generalize p[x]!.1.s=a at *;generalize p[y]!.1.s=b at *;generalize p[z]!.1.s=c at *;rcases h1 with h1|⟨h1,h3⟩
  ·rcases h2 with h2|⟨h2,h4⟩
   ·exact .inl (zhh _ _ _ h1 h2)
   ·subst h2;exact .inl h1
  ·subst h1
   rcases h2 with h2|⟨h2,h4⟩
   ·exact .inl h2
   ·exact .inr ⟨h2,by omega⟩
 ntrans x y z h1 h2:=by
  unfold ltI at *;simp only [Bool.or_eq_false_iff,Bool.and_eq_false_iff,yf,decide_eq_false_iff_not] at *;generalize p[x]!.1.s=a at *;generalize p[y]!.1.s=b at *;generalize p[z]!.1.s=c at *;refine ⟨sLt_nt h1.1 h2.1,?_⟩
  by_cases hac:a=c
  ·subst hac
   right
   by_cases hab:a=b
   ·subst hab
    have h3:=h1.2.resolve_left (fun h=>h rfl);have h4:=h2.2.resolve_left (fun h=>h rfl);omega
   ·exact absurd (zcM a b h1.1 hab) (by rw [h2.1];simp)
  ·exact .inl hac
theorem ltI_anti (p:List (PV×PV)) (x y:Nat) (h1:ltI p x y=false) (h2:ltI p y x=false):x=y:=by
 unfold ltI at *;simp only [Bool.or_eq_false_iff,Bool.and_eq_false_iff,yf,decide_eq_false_iff_not] at *;generalize p[x]!.1.s=a at *;generalize p[y]!.1.s=b at *
 by_cases hab:a=b
 ·subst hab
  have h3:=h1.2.resolve_left (fun h=>h rfl);have h4:=h2.2.resolve_left (fun h=>h rfl);omega
 ·exact absurd (zcM a b h1.1 hab) (by rw [h2.1];simp)
theorem zge (p:List (PV×PV)) (k:Nat):∀l,(insI p k l).Perm (k::l)
 | []=>List.Perm.refl _
 | j::l=>by
  unfold insI
  split
  ·exact ((zge p k l).cons j).trans (List.Perm.swap k j l)
  ·exact List.Perm.refl _
theorem zeW (p:List (PV×PV)):∀l,(zhz p l).Perm l
 | []=>List.Perm.refl _
 | k::l=>(zge p k (zhz p l)).trans ((zeW p l).cons k)
theorem zgf (p:List (PV×PV)) (k:Nat):∀l:List Nat,(∀j∈l,k<j)->l.Pairwise (fun a b=>ltI p b a=false)->(insI p k l).Pairwise (fun a b=>ltI p b a=false)
 | [],_,_=>by simp [insI]
 | j::l,hk,h=>by
  have hs:=zhN p;rw [List.pairwise_cons] at h;unfold insI
  split
  ·rename_i hj
   rw [List.pairwise_cons];refine ⟨fun x hx=>?_,zgf p k l (fun x hx=>hk x (List.mem_cons_of_mem _ hx)) h.2⟩;rcases List.mem_cons.1 ((zge p k l).mem_iff.1 hx) with rfl|hx
   ·unfold ltI
    simp only [Bool.or_eq_false_iff,Bool.and_eq_false_iff,yf];refine ⟨zfb _ _ hj,.inl fun e=>?_⟩;rw [e,zdA] at hj;cases hj
   ·exact h.1 x hx
  ·rename_i hj
   have ZA:ltI p j k=false:=by
    unfold ltI;simp only [Bool.or_eq_false_iff,Bool.and_eq_false_iff,decide_eq_false_iff_not];have:=hk j List.mem_cons_self;exact ⟨by simpa using hj,.inr (by omega)⟩
   rw [List.pairwise_cons,List.pairwise_cons];refine ⟨fun x hx=>?_,h⟩;rcases List.mem_cons.1 hx with rfl|hx
   ·exact ZA
   ·exact hs.ntrans x j k (h.1 x hx) ZA
theorem zfh (p:List (PV×PV)):∀l:List Nat,l.Pairwise (· < ·)->(zhz p l).Pairwise (fun a b=>ltI p b a=false)
 | [],_=>List.Pairwise.nil
 | k::l,h=>by
  rw [List.pairwise_cons] at h;exact zgf p k _ (fun j hj=>h.1 j ((zeW p l).mem_iff.1 hj)) (zfh p l h.2)
theorem insI_map (p:List (PV×PV)) (k:Nat):∀l:List Nat,(insI p k l).map (fun i=>p[i]!)=insV p[k]! (l.map fun i=>p[i]!)
 | []=>rfl
 | j::l=>by
  simp only [insI,List.map_cons,insV]
  split
  ·rw [List.map_cons,insI_map p k l]
  ·rfl
theorem sortI_map (p:List (PV×PV)):∀l:List Nat,(zhz p l).map (fun i=>p[i]!)=zen (l.map fun i=>p[i]!)
 | []=>rfl
 | k::l=>by
  simp only [zhz,List.map_cons,zen];rw [insI_map,sortI_map p l]
theorem range_map (p:List (PV×PV)):(List.range p.length).map (fun i=>p[i]!)=p:=by
 apply List.ext_getElem
 ·simp
 ·intro i h1 h2
  simp [h2]
theorem zdd {A:Array Nat} {n:Nat} (h:A.size=n):A.extract 0 n=A:=by subst h;simp
theorem sorted_is (p:List (PV×PV)) (R:Array Nat) (hP:PermIn 0 p.length (Array.range p.length) R) (hS:SortedIn (ltI p) 0 p.length R):R.toList.map (fun i=>p[i]!)=zen p:=by
 have hz:(Array.range p.length).size=p.length:=by simp
 have h1:=sorted_unique_holds (zhN p) (ltI_anti p) (Array.range p.length) R (by rw [hz];exact hP) (by rw [hz];exact hS);have Z7:=zeW p (List.range p.length);have QV:=zfh p (List.range p.length) List.pairwise_lt_range;have Q9:(zhz p (List.range p.length)).length=p.length:=by rw [Z7.length_eq];simp
 have h2:=sorted_unique_holds (zhN p) (ltI_anti p) (Array.range p.length) (zhz p (List.range p.length)).toArray
  (by
   rw [hz];refine ⟨by simp [Q9],fun i hi=>?_,?_⟩
   ·rw [getElem!_neg _ _ (by simp [Q9];omega),getElem!_neg _ _ (by simp;omega)]
   ·rw [zdd (by simpa using Q9),zdd hz]
    simpa using Z7)
  (by
   rw [hz];intro i j _ hij hj;have:=List.pairwise_iff_getElem.1 QV i j (by omega) (by omega) hij;rw [getElem!_pos _ j (by simp [Q9];omega),getElem!_pos _ i (by simp [Q9];omega)]
   simpa using this)
 rw [h1,<-h2]
 show ((zhz p (List.range p.length)).toArray.toList).map _=_;rw [List.toList_toArray,sortI_map,range_map]
theorem zdX {n:Nat} {R:Array Nat} (hP:PermIn 0 n (Array.range n) R):R.size=n/\∀i,i<n->R[i]!<n:=by
 have hz:R.size=n:=by simpa using hP.1
 refine ⟨hz,fun i hi=>?_⟩;have h:=hP.2.2;rw [zdd hz,zdd (by simp)] at h;have hm:R[i]! ∈ R.toList:=by rw [getElem!_pos R i (by omega)];simp
 have:=h.mem_iff.1 hm
 simpa using this
end Go.Proofs.YtcmoehknppjkiaaGreatDoor
namespace Go.Proofs.YtcmoehknppjkiaaGreatDoor
open Go.RowKit
theorem twoV_len:∀(m:Nat) (l:List PV),l.length=2*m->(twoV l).length=m
 | 0,l,h=>by
  have:l=[]:=List.eq_nil_of_length_eq_zero (by omega);subst this;rfl
 | m+1,a::b::l,h=>by simp only [twoV,List.length_cons];rw [twoV_len m l (by simp at h;omega)]
 | m+1,[a],h=>by simp at h;omega
 | m+1,[],h=>by simp at h
theorem twoV_at:∀(m:Nat) (l:List PV),l.length=2*m->∀k,k<m->∃x y,l[2*k]?=some x/\l[2*k+1]?=some y/\(twoV l)[k]! = (x,y)
 | 0,_,_,k,hk=>by omega
 | m+1,a::b::l,h,0,_=>⟨a,b,rfl,rfl,rfl⟩
 | m+1,a::b::l,h,k+1,hk=>by
  obtain ⟨x,y,h1,h2,h3⟩:=twoV_at m l (by simp at h;omega) k (by omega);refine ⟨x,y,?_,?_,?_⟩
  ·rw [show 2*(k+1)=2*k+1+1 by omega];simpa using h1
  ·rw [show 2*(k+1)+1=2*k+1+1+1 by omega];simpa using h2
  ·simp only [twoV]
   rw [<-h3];simp
 | m+1,[a],h,_,_=>by simp at h;omega
 | m+1,[],h,_,_=>by simp at h
theorem zfM:∀L:List (PV×PV),zcH L=true↔∃i,i+1<L.length/\L[i]!.1.s=L[i+1]!.1.s
 | []=>by simp [zcH]
 | [x]=>by simp [zcH]
 | x::y::l=>by
  simp only [zcH,Bool.or_eq_true,beq_iff_eq];rw [zfM (y::l)]
  constructor
  ·rintro (h|⟨i,h1,h2⟩)
   ·exact ⟨0,by simp,by simpa using h⟩
   ·exact ⟨i+1,by simp at h1 |-;omega,by simpa using h2⟩
  ·rintro ⟨i,h1,h2⟩
   rcases i with _|i
   ·left;simpa using h2
   ·right;exact ⟨i,by simp at h1 |-;omega,by simpa using h2⟩
theorem flatV_len:∀a:List (PV×PV),(zaS a).length=2*a.length
 | []=>rfl
 |(x,y)::a=>by simp only [zaS,List.length_cons];rw [flatV_len a];omega
def zfk (cs:List Value) (k:Nat):List Value:=(cs.drop (k*8)).take 8
theorem IsVs.drop {w:World} {F:Nat->Prop}:∀(k:Nat) {l:List PV} {cs:List Value},IsVs w F l cs->IsVs w F (l.drop k) (cs.drop (k*4))
 | 0,_,_,h=>by simpa using h
 | k+1,[],_,h=>by cases h;simp [IsVs]
 | k+1,v::l,_,⟨sl,t,h,hv,ht⟩=>by
  subst h;have:=ht.drop k;rw [show (k+1)*4=k*4+4 by omega]
  simpa [pvC] using this
theorem IsVs.part {w:World} {F:Nat->Prop} {l:List PV} {cs:List Value} (h:IsVs w F l cs) {k:Nat} {x y:PV} (h1:l[2*k]?=some x) (h2:l[2*k+1]?=some y):IsVs w F [x,y] (zfk cs k):=by
 have hd:=h.drop (2*k);obtain ⟨g1,e1⟩:=List.getElem?_eq_some_iff.1 h1;obtain ⟨g2,e2⟩:=List.getElem?_eq_some_iff.1 h2;rw [List.drop_eq_getElem_cons g1,List.drop_eq_getElem_cons g2,e1,e2] at hd;obtain ⟨s1,t1,q1,v1,s2,t2,q2,v2,-⟩:=hd;unfold zfk;rw [show k*8=2*k*4 by omega,q1,q2];exact ⟨s1,pvC y s2,by simp [pvC],v1,s2,[],by simp,v2,rfl⟩
theorem parts_all {w:World} {F:Nat->Prop} {l:List PV} {cs:List Value} {m:Nat} (hm:l.length=2*m) (h:IsVs w F l cs):∀qs:List Nat,(∀k∈qs,k<m)->IsVs w F (zaS (qs.map fun k=>(twoV l)[k]!)) (qs.flatMap (zfk cs))
 | [],_=>rfl
 | k::qs,hq=>by
  obtain ⟨x,y,h1,h2,h3⟩:=twoV_at m l hm k (hq k List.mem_cons_self);have:=parts_all hm h qs fun j hj=>hq j (List.mem_cons_of_mem _ hj);simp only [List.map_cons,List.flatMap_cons];rw [h3];exact (h.part h1 h2).append this
theorem EPV:zfo Tryz.prog 23 25 (.agg #[.int .i64 0,.int .i64 0,.string ⟨#[]⟩,.slice none 0 0]) 4 56:=⟨Tryz.underlying23,by kernel_rfl,rfl,by omega⟩
theorem IsVs.one1 {w:World} {F:Nat->Prop}:∀ {l:List PV} {cs:List Value},IsVs w F l cs->∀u∈cs,u.oneCell'=true
 | [],_,h,u,hu=>by cases h;cases hu
 | v::l,_,⟨sl,t,h,hv,ht⟩,u,hu=>by
  subst h;obtain ⟨a,cap,rfl,-⟩:=hv.len;simp only [pvC,List.cons_append,List.nil_append,List.mem_cons] at hu;rcases hu with rfl|rfl|rfl|rfl|hu
  ·rfl
  ·rfl
  ·rfl
  ·rfl
  ·exact ht.one1 u hu
theorem grow_any (k:Nat) (hk:k<=1000000) (w:World):Calls Tryz.prog 193 #[.slice none 0 0,.int .i64 k] w fun e w'=>∃v,e=.returned v/\w'.ownsRow w.heap.size 25 4 v 0 []/\Below w.heap.size w w':=by
 obtain ⟨i0,hi,hz,hs,hb⟩:=info_parts EPV.info;rcases Nat.eq_zero_or_pos k with rfl|h0
 ·clear hi hz hs hb
  go_enter Tryz.func193,Tryz.ntmps193
  go_wp2;go_ret;exact ⟨_,rfl,World.ownsRow_nil _ _ _ _,Below.refl _ _⟩
 ·have hr:=yb (Lib.run_append_nil_zeros (P:=Tryz.prog) w 23 3 23 25 i0 _ .i64 .i64 Tryz.underlying23 Tryz.underlying3 hi hz k h0 (by omega) (by omega) (by rw [hb];omega))
  have YF:=grownCap_ge w k 0 25;have hg2:=grownCap_le_maxLen w k 0 25 (by unfold maxLen;omega);generalize grownCap w k 0 25=C at *;have h1:(0:Int)<(k:Int):=by omega
  clear hi hz hs hb h0;go_enter Tryz.func193,Tryz.ntmps193
  go_wp2_with (at_builtin;refine Lib.wpList_append_run _ rfl _ _ _ _ rfl _ _ rfl rfl _ _ hr.out ?_)
  go_ret;refine ⟨_,rfl,⟨rfl,.inr ⟨w.heap.size,C,_,rfl,yp _,zac _ rfl,Nat.zero_le _,hg2,?_,rfl⟩⟩,(Below.refl _ _).drew.alloc (yp _) _⟩;rw [Array.size_append,size_zeroCells,size_zeroCells,<-Nat.add_mul]
  show (k+(C-k))*4=C*4;rw [Nat.add_sub_cancel' YF]
theorem part_row {w:World} {b off n c:Nat} {cs:List Value} (hr:Row w 4 (some ⟨b,off,none⟩) n c cs) {k:Nat} (hk:2*k+2<=n):Row w 4 (some ⟨b,off+2*k*4,none⟩) 2 2 (zfk cs k):=by
 obtain ⟨h1,h2,h3,-,h5⟩:=hr;obtain ⟨b',off',e,hb,hc⟩:=h5 (by omega)
 cases e
 refine ⟨by unfold zfk;simp;omega,yp _,by unfold maxLen;omega,fun h=>(by cases h),fun _=>⟨b,_,rfl,hb,fun j u hj=>?_⟩⟩;unfold zfk at hj;rw [List.getElem?_take] at hj
 split at hj
 ·rw [List.getElem?_drop] at hj
  have:=hc _ u hj
  rwa [show off+(k*8+j)=off+2*k*4+j by omega] at this
 ·cases hj
theorem concat_any {w:World} {a:Option Addr} {cap b off n c:Nat} {qs:List Nat} {cs:List Value} (ht:Row w 1 a qs.length cap (qs.map (zcA b off))) (hr:Row w 4 (some ⟨b,off,none⟩) n c cs) (h1:∀u∈cs,u.oneCell'=true) (hq:∀k∈qs,2*k+2<=n) (hm:qs.length<=400000) :
  Calls Tryz.prog 173 #[.slice a qs.length cap] w fun e w'=>∃v,e=.returned v/\w'.ownsRow w.heap.size 25 4 v (2*qs.length) (qs.flatMap (zfk cs))/\Below w.heap.size w w':=by
 have HT:=yb ht;have HR:=yb hr;have H1:=yb h1;have HQ:=yb hq;have HG:=yb (fun W=>grow_any (2*qs.length) (by omega) W);obtain ⟨m,ZO⟩:∃m,m=qs.length:=⟨_,rfl⟩;rw [<-ZO] at hm HT HG |-;have HM:=yb ZO;clear ht hr h1 hq ZO;go_enter Tryz.func173,Tryz.ntmps173
 go_wp2
 go_loop [3,11] (fun s i=>∃(k:Nat) (S:Int),k<=m/\i=.int .i64 k/\s=.int .i64 S/\0<=S/\S<=2*(k:Int)/\Hid (S=2*(k:Int))) (fun _ i=>m-(intOf i).toNat)
 case atStart=>exact ⟨0,0,Nat.zero_le _,rfl,rfl,by omega,by omega,rfl⟩
 case round =>
  obtain ⟨k,S,hk,rfl,rfl,YG,Z8,HS⟩:=hrel
  by_cases hlt:k<m
  ·obtain ⟨b1,o1,rfl,Qp,QE⟩:=HT.out.2.2.2.2 (by omega)
   have Q0:qs[k]?=some (qs[k]'(by rw [<-HM.out];exact hlt)):=List.getElem?_eq_getElem _;have ZP:=QE k _ (by rw [List.getElem?_map,Q0];rfl);unfold zcA at ZP;generalize qs[k]'_=q at *;clear QE Q0;have i1:(k:Int)<(m:Int):=by omega
   have i2:(0:Int)<=(k:Int):=by omega
   have i3:S<=800000:=by omega
   have i5:decide (S+2<0)=false:=ye (by omega);clear Z8;go_wp2
   go_round
   case rel=>exact ⟨k+1,S+2,by omega,by go_num,rfl,by omega,by have:=HS.out;omega,by have:=HS.out;show S+2=_;omega⟩
   case measure=>simp [intOf];omega
  ·obtain rfl:k=m:=by omega
   obtain rfl:S=((2*k:Nat):Int):=by have:=HS.out;omega
   clear hk HS YG Z8;have Za:decide (k<k)=false:=by simp
   clear hlt;go_wp2_with (go_at_call 193;refine (HG.out _).mono ?_;rintro e w1 ⟨v1,rfl,Z9,Qp⟩)
   have YH:=yb Z9;have Qq:=yb Qp;clear Z9 Qp Za HG
   go_loopw [6,27] (fun v i wr=>∃j:Nat,j<=k/\i=.int .i64 j/\Hid (wr.ownsRow w.heap.size 25 4 v (2*j) ((qs.take j).flatMap (zfk cs)))/\Hid (Below w.heap.size w wr)) (fun _ i _=>k-(intOf i).toNat)
   case atStart=>exact ⟨0,Nat.zero_le _,rfl,YH,Qq⟩
   case round =>
    obtain ⟨j,hj,rfl,HO,HB⟩:=hrel
    by_cases hlt:j<k
    ·obtain ⟨b1,o1,rfl,Qp,QE⟩:=HT.out.2.2.2.2 (by omega)
     have Q0:qs[j]?=some (qs[j]'(by rw [<-HM.out];exact hlt)):=List.getElem?_eq_getElem _;have ZP:=cell?_keep HB.out (QE j _ (by rw [List.getElem?_map,Q0];rfl));have Ya:=HQ.out _ (List.getElem_mem (l:=qs) (n:=j) (by rw [<-HM.out];exact hlt));have Yb:qs.take (j+1)=qs.take j++[qs[j]'(by rw [<-HM.out];exact hlt)]:=by rw [List.take_add_one,Q0];rfl
     unfold zcA at ZP;generalize qs[j]'_=q at *;have YI:=yb Yb;have QF:=yb (part_row (HR.out.mono HB.out) Ya);have YJ:=yb (show ∀u∈zfk cs q,u.oneCell'=true from fun u hu=>H1.out u (List.mem_of_mem_drop (List.mem_of_mem_take hu)));clear QE Q0 Yb Ya;have i1:(j:Int)<(k:Int):=by omega
     have i2:(0:Int)<=(j:Int):=by omega
     go_wp2_with (at_builtin;refine zaE EPV rfl _ _ rfl w.heap.size _ (2*j) _ rfl HO.out (some ⟨b,off+2*q*4,none⟩) 2 2 (zfk cs q) rfl QF.out YJ.out (by unfold maxLen;omega) (by omega) HB.out.size ?_;intro v2 w2 hO2 hg2 _)
     have YK:=yb (show w2.ownsRow w.heap.size 25 4 v2 (2*(j+1)) ((qs.take (j+1)).flatMap (zfk cs)) by
      rw [YI.out,List.flatMap_append,List.flatMap_singleton];exact hO2)
     have Ql:=yb (HB.out.grown hg2 HB.out.size (fun r e=>(HO.out.lt r e).1));clear hO2 hg2
     go_roundw
     case rel=>exact ⟨j+1,by omega,by go_num,YK,Ql⟩
     case measure=>simp [intOf];omega
    ·obtain rfl:j=k:=by omega
     have hO:=HO.out;rw [List.take_of_length_le (by rw [<-HM.out];exact yp _)] at hO;have YL:=yb hO;clear hO;go_wp2;go_ret;exact ⟨_,rfl,YL.out,HB.out⟩
end Go.Proofs.YtcmoehknppjkiaaGreatDoor
namespace Go.Proofs.YtcmoehknppjkiaaGreatDoor
open Go.RowKit Go.Sort
variable {α : Type} [Inhabited α]
theorem inner_eq (lt1 lt2:α->α->Bool) (a:Nat):∀(j:Nat) (d:Array α),j<d.size->(∀p,a<=p->p<j->lt1 d[j]! d[p]! = lt2 d[j]! d[p]!)->insInner lt1 a j d=insInner lt2 a j d
 | 0,d,_,_=>rfl
 | j+1,d,hj,h=>by
  rw [insInner,insInner]
  by_cases hja:j+1 > a
  ·rw [h j (by omega) (by omega)]
   have ih:=inner_eq lt1 lt2 a j (swp d (j+1) j) (by rw [size_swp];omega) (fun p hp hpj=>by
    rw [swp_right d (j+1) j (by omega),swp_other d (j+1) j p (by omega) (by omega)];exact h p hp (by omega))
   rw [ih]
  ·simp [hja]
theorem outer_eq (lt1 lt2:α->α->Bool) (hS:SWO lt2) (a b:Nat) (d0:Array α) (hb:b<=d0.size) (h:∀p q,a<=p->p<q->q<b->lt1 d0[q]! d0[p]! = lt2 d0[q]! d0[p]!) :
  ∀(n i:Nat) (d:Array α),b-i=n->a<i->PermIn a i d0 d->SortedIn lt2 a i d->insOuter lt1 a b i d=insOuter lt2 a b i d
 | 0,i,d,hn,_,_,_=>by rw [zda _ _ _ _ _ (by omega),zda _ _ _ _ _ (by omega)]
 | n+1,i,d,hn,hai,hP,hs=>by
  have hib:i<b:=by omega
  have e:insInner lt1 a i d=insInner lt2 a i d:=inner_eq lt1 lt2 a i d (by rw [hP.1];omega) (fun p hp hpi=>by
   rw [hP.2.1 i (by omega)];exact permIn_all d0 d a i (fun x=>lt1 d0[i]! x=lt2 d0[i]! x) (by omega) hP (fun q hq hqi=>h q i hq hqi hib) p hp hpi)
  have h1:=insInner_spec hS swp_permIn permIn_refl permIn_trans a b i hib i d (by omega) (yp _) (by rw [hP.1];exact hb) ⟨fun p q hap hpq hqi _ hq=>hs p q hap hpq (by omega),fun q h1 h2=>by omega⟩;rw [zfB _ _ _ _ _ hib,zfB _ _ _ _ _ hib,e];have Yc:=insInner_spec hS swp_permIn permIn_refl permIn_trans a (i+1) i (by omega) i d (by omega) (yp _) (by rw [hP.1];omega) ⟨fun p q hap hpq hqi _ hq=>hs p q hap hpq (by omega),fun q h1 h2=>by omega⟩;refine outer_eq lt1 lt2 hS a b d0 hb h n (i+1) _ (by omega) (by omega) (permIn_trans _ _ _ _ _ (permIn_mono d0 d a i a (i+1) (by omega) (by omega) (by omega) hP) Yc.1) Yc.2
theorem zg2 (lt1 lt2:α->α->Bool) (hS:SWO lt2) (a b:Nat) (d:Array α) (hab:a<=b) (hb:b<=d.size) (h:∀p q,a<=p->p<q->q<b->lt1 d[q]! d[p]! = lt2 d[q]! d[p]!) :
  PermIn a b d (Sort.insertionSort lt1 d a b)/\SortedIn lt2 a b (Sort.insertionSort lt1 d a b):=by
 have e:Sort.insertionSort lt1 d a b=Sort.insertionSort lt2 d a b:=by
  unfold Sort.insertionSort
  by_cases hb2:a+1<=b
  ·exact outer_eq lt1 lt2 hS a b d hb h _ (a+1) d rfl (by omega) (permIn_refl _ _ _) (fun i j h1 h2 h3=>by omega)
  ·rw [zda _ _ _ _ _ (by omega),zda _ _ _ _ _ (by omega)]
 rw [e];exact insertionSort_holds hS d a b hab hb
variable {α : Type} [Inhabited α]
def swR (d:Array α) (a b n k:Nat):α:=if a<=k/\k<a+n then d[k-a+b]! else if b<=k/\k<b+n then d[k-b+a]! else d[k]!
theorem swR_zero (d:Array α) (a b k:Nat):swR d a b 0 k=d[k]! := by
 unfold swR;rw [yh (by omega),yh (by omega)]
theorem swR_step (d R:Array α) (a b n i:Nat) (hi:i<n) (hab:a+n<=b) (hb:b+n<=R.size) (hR:∀k,R[k]! = swR d a b i k) (k:Nat):(swp R (a+i) (b+i))[k]! = swR d a b (i+1) k:=by
 by_cases h1:k=a+i
 ·subst h1
  rw [swp_left _ _ _ (by omega) (by omega),hR];unfold swR;rw [yh (by omega),yh (by omega),yg (by omega)];exact congrArg (fun i=>d[i]!) (by omega)
 ·by_cases h2:k=b+i
  ·subst h2
   rw [swp_right _ _ _ (by omega),hR];unfold swR;rw [yh (by omega),yh (by omega),yh (by omega),yg (by omega)];exact congrArg (fun i=>d[i]!) (by omega)
  ·rw [swp_other _ _ _ _ h1 h2,hR]
   unfold swR
   repeat' split
   all_goals first
    | rfl
    |(exfalso;omega)
def rotF (d:Array α) (a m b k:Nat):α:=if a<=k/\k<a+(b-m) then d[k+(m-a)]! else if a+(b-m)<=k/\k<b then d[k-(b-m)]! else d[k]!
theorem rot_gt (d R:Array α) (m i j:Nat) (hij:j<i) (him:i<=m) (hR:∀k,R[k]! = swR d (m-i) m j k) (k:Nat):rotF R (m-(i-j)) m (m+j) k=rotF d (m-i) m (m+j) k:=by
 unfold rotF;simp only [hR,swR]
 repeat' split
 all_goals first
  |(exfalso;omega)
  | exact congrArg (fun i=>d[i]!) (by omega)
theorem rot_lt (d R:Array α) (m i j:Nat) (hij:i<j) (him:i<=m) (hR:∀k,R[k]! = swR d (m-i) (m+j-i) i k) (k:Nat):rotF R (m-i) m (m+(j-i)) k=rotF d (m-i) m (m+j) k:=by
 unfold rotF;simp only [hR,swR]
 repeat' split
 all_goals first
  |(exfalso;omega)
  | exact congrArg (fun i=>d[i]!) (by omega)
theorem rot_eq (d R:Array α) (m i:Nat) (him:i<=m) (hR:∀k,R[k]! = swR d (m-i) m i k) (k:Nat):R[k]! = rotF d (m-i) m (m+i) k:=by
 unfold rotF;simp only [hR,swR]
 repeat' split
 all_goals first
  |(exfalso;omega)
  | exact congrArg (fun i=>d[i]!) (by omega)
variable {lt : α -> α -> Bool}
omit [Inhabited α] in
theorem chain3 (hS:SWO lt) {y u v x:α} (h1:lt y u=false) (h2:lt u v=false) (h3:lt v x=false):lt y x=false:=hS.ntrans _ _ _ (hS.ntrans _ _ _ h1 h2) h3
theorem zbT (hS:SWO lt) {a b i j:Nat} {d:Array α} (h:SortedIn lt a b d) (hai:a<=i) (hij:i<=j) (hjb:j<b):lt d[j]! d[i]! = false:=by
 rcases Nat.lt_or_eq_of_le hij with h1|h1
 ·exact h i j hai h1 hjb
 ·subst h1;exact hS.irrefl _
def zew (lt1 lt:α->α->Bool) (d:Array α) (a m b:Nat):Prop:=∀p q,a<=p->p<m->m<=q->q<b->lt1 d[q]! d[p]! = lt d[q]! d[p]!
theorem merge_done (hS:SWO lt) (d R R1 R2:Array α) (a m b s e:Nat) (has:a<=s) (hsm:s<=m) (hme:m<=e) (heb:e<=b) (hb:b<=d.size) (hsz:R.size=d.size)
  (h1:SortedIn lt a m d) (h2:SortedIn lt m b d) (hR:∀k,R[k]! = rotF d s m e k)
  (H1:a<s->e<b->lt d[e]! d[s-1]! = false) (H2:s<m->m<e->lt d[s]! d[e-1]! = false)
  (p1:PermIn a (s+(e-m)) R R1) (s1:SortedIn lt a (s+(e-m)) R1) (p2:PermIn (s+(e-m)) b R1 R2) (s2:SortedIn lt (s+(e-m)) b R2):SortedIn lt a b R2:=by
 have YM:s+(e-m)<=b:=by omega
 have lowx:∀k,a<=k->k<s+(e-m)->(∃q,a<=q/\q<s/\R[k]! = d[q]!)\/(∃q,m<=q/\q<e/\R[k]! = d[q]!):=by
  intro k hk1 Zf;rw [hR,rotF]
  by_cases hks:k<s
  ·left;exact ⟨k,hk1,hks,by rw [yh (by omega),yh (by omega)]⟩
  ·right;exact ⟨k+(m-s),by omega,by omega,by rw [yg (by omega)]⟩
 have upx:∀k,s+(e-m)<=k->k<b->(∃q,s<=q/\q<m/\R[k]! = d[q]!)\/(∃q,e<=q/\q<b/\R[k]! = d[q]!):=by
  intro k hk1 Zf;rw [hR,rotF]
  by_cases hke:k<e
  ·left;exact ⟨k-(e-m),by omega,by omega,by rw [yh (by omega),yg (by omega)]⟩
  ·right;exact ⟨k,by omega,Zf,by rw [yh (by omega),yh (by omega)]⟩
 have cross:∀i j,a<=i->i<s+(e-m)->s+(e-m)<=j->j<b->lt R[j]! R[i]! = false:=by
  intro i j hi1 hi2 hj1 hj2;rcases lowx i hi1 hi2 with ⟨q,q1,q2,hq⟩|⟨q,q1,q2,hq⟩<;>rcases upx j hj1 hj2 with ⟨r,r1,r2,hr⟩|⟨r,r1,r2,hr⟩<;>rw [hq,hr]
  ·exact zbT hS h1 q1 (by omega) r2
  ·exact chain3 hS (zbT hS h2 (by omega) r1 r2) (H1 (by omega) (by omega)) (zbT hS h1 q1 (by omega) (by omega))
  ·exact chain3 hS (zbT hS h1 (by omega) r1 r2) (H2 (by omega) (by omega)) (zbT hS h2 q1 (by omega) (by omega))
  ·exact zbT hS h2 q1 (by omega) r2
 have l1:∀i,a<=i->i<s+(e-m)->∀j,s+(e-m)<=j->j<b->lt R[j]! R1[i]! = false:=fun i hi1 hi2 j hj1 hj2 =>
  permIn_all R R1 a (s+(e-m)) (fun x=>lt R[j]! x=false) (by omega) p1 (fun i h1 h2=>cross i j h1 h2 hj1 hj2) i hi1 hi2
 have l2:∀i,a<=i->i<s+(e-m)->∀j,s+(e-m)<=j->j<b->lt R1[j]! R1[i]! = false:=fun i hi1 hi2 j hj1 hj2=>by
  rw [p1.2.1 j (by omega)];exact l1 i hi1 hi2 j hj1 hj2
 have l3:∀i,a<=i->i<s+(e-m)->∀j,s+(e-m)<=j->j<b->lt R2[j]! R1[i]! = false:=fun i hi1 hi2 =>
  permIn_all R1 R2 (s+(e-m)) b (fun x=>lt x R1[i]! = false) (by rw [p1.1];omega) p2 (fun j h1 h2=>l2 i hi1 hi2 j h1 h2)
 intro i j hai hij hjb
 by_cases hj:j<s+(e-m)
 ·rw [p2.2.1 i (by omega),p2.2.1 j (by omega)];exact s1 i j hai hij hj
 ·by_cases hi:i<s+(e-m)
  ·rw [p2.2.1 i (by omega)];exact l3 i hai hi j (by omega) hjb
  ·exact s2 i j (by omega) hij hjb
theorem left_done (hS:SWO lt) (d R:Array α) (a b i:Nat) (hi:a+1<=i) (hib:i<=b) (h2:SortedIn lt (a+1) b d) (hlt:∀q,a+1<=q->q<i->lt d[q]! d[a]! = true) (hge:∀q,i<=q->q<b->lt d[q]! d[a]! = false)
  (hR:∀k,R[k]! = if a<=k/\k<i-1 then d[k+1]! else if k=i-1 then d[a]! else d[k]!):SortedIn lt a b R:=by
 intro p q hap hpq hqb;rw [hR p,hR q]
 have asym:∀x y,lt x y=true->lt y x=false:=fun x y h=>by
  cases h2:lt y x with
  | false=>rfl
  | true=>have:=hS.trans _ _ _ h h2;rw [hS.irrefl] at this;cases this
 by_cases c1:q<i-1
 ·rw [yg (by omega),yg (by omega)];exact h2 _ _ (by omega) (by omega) (by omega)
 ·by_cases c2:q=i-1
  ·rw [yh (by omega),yg c2,yg (by omega)]
   exact asym _ _ (hlt _ (by omega) (by omega))
  ·rw [yh (by omega),yh c2]
   by_cases c3:p<i-1
   ·rw [yg (by omega)];exact h2 _ _ (by omega) (by omega) hqb
   ·by_cases c4:p=i-1
    ·rw [yh (by omega),yg c4];exact hge q (by omega) hqb
    ·rw [yh (by omega),yh c4];exact h2 _ _ (by omega) hpq hqb
theorem right_done (hS:SWO lt) (d R:Array α) (a m i:Nat) (hai:a<=i) (him:i<=m) (h1:SortedIn lt a m d) (hge:∀q,a<=q->q<i->lt d[m]! d[q]! = false) (hlt:∀q,i<=q->q<m->lt d[m]! d[q]! = true)
  (hR:∀k,R[k]! = if i<k/\k<=m then d[k-1]! else if k=i then d[m]! else d[k]!):SortedIn lt a (m+1) R:=by
 intro p q hap hpq hqb;rw [hR p,hR q]
 have asym:∀x y,lt x y=true->lt y x=false:=fun x y h=>by
  cases h2:lt y x with
  | false=>rfl
  | true=>have:=hS.trans _ _ _ h h2;rw [hS.irrefl] at this;cases this
 by_cases c1:i<q
 ·rw [yg (by omega)]
  by_cases c2:i<p
  ·rw [yg (by omega)];exact h1 _ _ (by omega) (by omega) (by omega)
  ·by_cases c3:p=i
   ·rw [yh (by omega),yg c3];exact asym _ _ (hlt _ (by omega) (by omega))
   ·rw [yh (by omega),yh c3];exact h1 _ _ hap (by omega) (by omega)
 ·by_cases c2:q=i
  ·rw [yh (by omega),yg c2,yh (by omega),yh (by omega)];exact hge _ hap (by omega)
  ·rw [yh (by omega),yh c2,yh (by omega),yh (by omega)];exact h1 _ _ hap hpq (by omega)
theorem low_all (hS:SWO lt) {d:Array α} {m b h:Nat} {x:α} (hs:SortedIn lt m b d) (hh:h<b) (hx:lt d[h]! x=true):∀q,m<=q->q<=h->lt d[q]! x=true:=by
 intro q h1 h2
 cases hq:lt d[q]! x with
 | true=>rfl
 | false=>have:=hS.ntrans _ _ _ (zbT hS hs h1 h2 hh) hq;rw [hx] at this;cases this
theorem high_all (hS:SWO lt) {d:Array α} {m b h:Nat} {x:α} (hs:SortedIn lt m b d) (hm:m<=h) (hx:lt d[h]! x=false):∀q,h<=q->q<b->lt d[q]! x=false :=
 fun _ h1 h2=>hS.ntrans _ _ _ (zbT hS hs hm h1 h2) hx
theorem low_all' (hS:SWO lt) {d:Array α} {a m h:Nat} {x:α} (hs:SortedIn lt a m d) (hh:h<m) (hx:lt x d[h]! = false):∀q,a<=q->q<=h->lt x d[q]! = false :=
 fun _ h1 h2=>hS.ntrans _ _ _ hx (zbT hS hs h1 h2 hh)
theorem high_all' (hS:SWO lt) {d:Array α} {a m h:Nat} {x:α} (hs:SortedIn lt a m d) (hm:a<=h) (hx:lt x d[h]! = true):∀q,h<=q->q<m->lt x d[q]! = true:=by
 intro q h1 h2
 cases hq:lt x d[q]! with
 | true=>rfl
 | false=>have:=hS.ntrans _ _ _ hq (zbT hS hs hm h1 h2);rw [hx] at this;cases this
end Go.Proofs.YtcmoehknppjkiaaGreatDoor
