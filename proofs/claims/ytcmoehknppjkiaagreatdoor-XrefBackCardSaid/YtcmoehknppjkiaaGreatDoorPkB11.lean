/-
  Our texts Dv4 to Pad3, in one.
-/
import Derived.Test.YtcmoehknppjkiaaGreatDoorPkB10
import Derived.Deep.RegionLaw
import Derived.Deep.AppendLies
import Derived.BigQuiet
import Derived.Deep.Cut
import Derived.PlainAid
set_option maxRecDepth 8000
set_option maxHeartbeats 8000000
namespace Go.Proofs.YtcmoehknppjkiaaGreatDoor
open Go.RowKit
theorem rep_mem {x:PV×PV}:∀(l:List (PV×PV)) (y:PV×PV),y∈repK x l->∃z∈l,z.1=y.1
 | [],y,h=>by cases h
 | z::l,y,h=>by
  unfold repK at h
  split at h
  ·rcases List.mem_cons.1 h with rfl|h
   ·exact ⟨z,List.mem_cons_self,rfl⟩
   ·exact ⟨y,List.mem_cons_of_mem _ h,rfl⟩
  ·rcases List.mem_cons.1 h with rfl|h
   ·exact ⟨y,List.mem_cons_self,rfl⟩
   ·obtain ⟨u,hu,e⟩:=rep_mem l y h
    exact ⟨u,List.mem_cons_of_mem _ hu,e⟩
theorem put_kind {x:PV×PV} {l:List (PV×PV)} (hx:x.1.kind=5) (h:∀y∈l,y.1.kind=5):∀y∈putK x l,y.1.kind=5:=by
 intro y hy;unfold putK at hy
 split at hy
 ·obtain ⟨z,hz,e⟩:=rep_mem l y hy
  rw [<-e];exact h z hz
 ·rcases (zhF l).1 hy with rfl|hy
  ·exact hx
  ·exact h y hy
theorem put_len (x:PV×PV) (l:List (PV×PV)):(putK x l).length<=l.length+1:=by
 unfold putK
 split
 ·rw [rep_len];omega
 ·rw [(zgq x l).length_eq];simp
structure DicM (w wr:World) (B:Nat) (sl:Value) (ps:List (PV×PV)):Prop where
 b0:wr.heap[B]?=some (.cells #[.int .i64 0,.int .i64 0,.string ⟨#[]⟩,.slice none 0 0] 25 (0,0))
 b1:wr.heap[B+1]?=some (.cells #[.int .i64 7,.int .i64 0,.string ⟨#[]⟩,sl] 25 (0,0))
 val:IsV wr (fun b=>B+1<b) (dctV ps) sl
 kinds:∀y∈ps,y.1.kind=5
 bel:Below w.heap.size w wr
 hB:w.heap.size<=B
theorem DicM.keep {w wr W:World} {B:Nat} {sl:Value} {ps:List (PV×PV)} (h:DicM w wr B sl ps) (hb:Below wr.heap.size wr W):DicM w W B sl ps :=
 ⟨zab hb h.b0,zab hb h.b1,h.val.below hb,h.kinds,h.bel.trans (hb.mono h.bel.size),h.hB⟩
theorem DicM.start (w:World) {B:Nat} (hB:B=w.heap.size):DicM w ((w.alloc (.cells #[.int .i64 0,.int .i64 0,.string ⟨#[]⟩,.slice none 0 0] 25)).alloc (.cells #[.int .i64 7,.int .i64 0,.string ⟨#[]⟩,.slice none 0 0] 25)) B (.slice none 0 0) [] :=
 ⟨zal _ (zac _ hB),zac _ (by rw [zaq,hB]),IsV.leaf _ _ _ rfl,fun y hy=>(by cases hy),za6 _ _ _,Nat.le_of_eq hB.symm⟩
theorem DicM.put {w wr W:World} {B:Nat} {sl s':Value} {ps:List (PV×PV)} {x:PV×PV} (h:DicM w wr B sl ps) (hx:x.1.kind=5) (hv:IsV W (fun b=>B+1<b\/wr.heap.size<=b) (dctV (putK x ps)) s') (hb:Below wr.heap.size wr W) :
  DicM w ((((W.setCell ⟨B+1,0,none⟩ (.int .i64 7)).setCell ⟨B+1,1,none⟩ (.int .i64 0)).setCell ⟨B+1,2,none⟩ (.string ⟨#[]⟩)).setCell ⟨B+1,3,none⟩ s') B s' (putK x ps):=by
 have hl:=zam h.b1;have hB:=h.hB;refine ⟨(zbp (by omega) _ _ _ _).trans (zab hb h.b0),set4 (zab hb h.b1) _ _ _ _,IsV.keep ⟨by rw [za5];exact yp _,fun b _ hF=>zbp ?_ _ _ _ _⟩ (fun b hF=>?_) _ hv,put_kind hx h.kinds,zae (h.bel.trans (hb.mono h.bel.size)) (by omega) _ _ _ _,h.hB⟩
 ·rcases hF with hF|hF<;>omega
 ·rcases hF with hF|hF
  ·exact hF
  ·show B+1<b
   omega
theorem DicM.fin {w W:World} {B:Nat} {sl:Value} {ps:List (PV×PV)} (h:DicM w W B sl ps) (y0 y1 y2 y3:Value) :
  Below w.heap.size w ((((W.setCell ⟨B,0,none⟩ y0).setCell ⟨B,1,none⟩ y1).setCell ⟨B,2,none⟩ y2).setCell ⟨B,3,none⟩ y3):=zae h.bel h.hB _ _ _ _
theorem findI_ge (key:List UInt8) (ps:List (PV×PV)):decide (0<=zgC key ps)=hasK key ps:=by
 rw [fIx_has];unfold zgC
 by_cases h:fIx key ps<ps.length
 ·rw [yg h,yd h];exact yd (by omega)
 ·rw [yh h,ye h];exact ye (by omega)
theorem dict_doc {w:World} {a:Option Addr} {cap:Nat} {bs:List UInt8} (hr:Row w 1 a bs.length cap (bs.map u8C)) (hn:bs.length<=399999) (yq:Bool) (d:Nat) (hd:d<=64) (k0:Int) (hv:ValD bs yq d) :
  Calls Tryz.prog 112 #[.slice a bs.length cap,.int .i64 k0,.bool yq,.int .i64 (64-(d:Int))] w (zca w (zdm bs yq (vlD bs yq d) d (bs.length+1) [] false k0)):=by
 have HN:=yb (fun (W:World) (h:Below w.heap.size w W) (k:Int)=>zcv (hr.mono h) (by omega) k yq);have Qh:=yb (fun (W:World) (h:Below w.heap.size w W) (x:Tk) (f tt:Int)=>hv W a cap (hr.mono h) x f tt);obtain ⟨fn,Z0⟩:∃fn,fn=vlD bs yq d:=⟨_,rfl⟩;rw [<-Z0] at Qh |-;obtain ⟨R,hR⟩:∃R,R=zdm bs yq fn d (bs.length+1) [] false k0:=⟨_,rfl⟩;rw [<-hR];have HR:=yb hR;clear hr hv Z0 hR;obtain ⟨D,hD⟩:∃D:Int,D=64-(d:Int):=⟨_,rfl⟩;have HD:=yb (show decide (64<=D)=decide (d=0) by rw [hD];by_cases e:d=0<;>simp [e];omega)
 rw [<-hD] at Qh |-;clear hD;obtain ⟨L,hL⟩:∃L,L=bs.length:=⟨_,rfl⟩;rw [<-hL] at HN Qh HR hn |-;clear hL hd;unfold zaF tokN at HN;unfold tokN at Qh;go_enter Tryz.func112,Tryz.ntmps112
 obtain ⟨B,hB⟩:∃B,B=w.heap.size:=⟨_,rfl⟩;have YG:=yb (DicM.start w hB)
 go_upto_region 2 with fail
 rw [<-hB];clear hB;generalize (w.alloc _).alloc _=W1 at *;go_wp2
 go_loopw [1,12,13] (fun vat vt vn wr=>∃(k:Int) (i:Nat) (tw:Bool) (sl:Value) (ps:List (PV×PV)),vat=.int .i64 k/\vt=.bool tw/\vn=.int .i64 i/\i<=L+1/\ps.length<=i/\Hid (DicM w wr B sl ps)/\Hid (R=zdm bs yq fn d (L+1-i) ps tw k)) (fun _ _ vn _=>L+1-(intOf vn).toNat)
 case atStart=>exact ⟨k0,0,false,_,[],rfl,rfl,rfl,by omega,yp _,YG,HR⟩
 case round =>
  obtain ⟨k,i,tw,sl,ps,rfl,rfl,rfl,hi,YH,HM,Qb⟩:=hrel
  by_cases q1:i<=L
  case neg =>
   obtain rfl:i=L+1:=by omega
   have hd1:decide (L+1<=L)=false:=ye (by omega);have Zy:decide (((L+1:Nat):Int)<=(L:Int))=false:=ye (by omega);have Z1:decide ((L:Int)+1<=(L:Int))=false:=ye (by omega);have Qa:=Qb.out;rw [Nat.sub_self] at Qa;unfold zdm at Qa;subst Qa;clear Qb HR HN Qh q1 hi YH;obtain ⟨⟨r0,r1,r2,r3⟩,rf0,rf1,rf2,rf3⟩:=zad HM.out.b0;go_wp2;refine yi (zaf rfl _ _ B 25 _ (0,0) _ rfl (by exact set4 HM.out.b0 _ _ _ _) Tryz.underlying25 rfl (by exact zav) _ _ rfl rfl) rfl ?_;exact zaJ (R:=(PV.none,0,10)) rfl (HM.out.fin _ _ _ _)
  have hd1:decide (i<=L)=true:=yd q1;have Zy:decide ((i:Int)<=(L:Int))=true:=yd (by omega);have XB:(i:Int)<=(L:Int):=by omega
  have XC:(0:Int)<=(i:Int):=by omega
  have XD:IntKind.i64.wrap ((i:Int)+1)=(i:Int)+1:=IntWalk.i64_in _ (by omega);have Qa:=Qb.out;rw [show L+1-i=(L-i)+1 by omega] at Qa;unfold zdm at Qa;simp only at Qa;have Zm:=yb (HN.out _ HM.out.bel k);generalize zan bs k yq=V at *;obtain ⟨x,f,t,er⟩:=V;simp only at Qa Zm;clear Qb HR;have Qb:=yb Qa;clear Qa;obtain ⟨xk,xvk,xvn,xvs,xs⟩:=x;simp only at Zm Qb;generalize mkB xs=xb at *;go_wp2_with fail
  refine Zm.out.mono ?_;rintro e w2 ⟨rfl,Qc⟩;have Qf:=Qc.alloc Qc.size (.cells #[.int .i64 xk,.int .i64 f,.int .i64 t,.int .i64 xvk,.int .i64 xvn,.string (mkB xvs),.slice none 0 0,.string xb] 81);have Qd:=yb (HM.out.keep Qf);have Qg:=yb (zac (w:=w2) (b:=w2.heap.size) (.cells #[.int .i64 xk,.int .i64 f,.int .i64 t,.int .i64 xvk,.int .i64 xvn,.string (mkB xvs),.slice none 0 0,.string xb] 81) rfl);have Z2:=yb (show B+1<w2.heap.size from Nat.lt_of_lt_of_le (zam HM.out.b1) Qc.size);clear Qc Qf Zm HM
  go_upto_region 7 with fail
  obtain ⟨r2,Qj⟩:∃r2,r2=w2.heap.size:=⟨_,rfl⟩;rw [<-Qj] at Qg Z2 |-;clear Qj;generalize w2.alloc _=W2 at *;obtain ⟨⟨t0,t1,t2,t3,t4,t5,t6,t7⟩,-⟩:=zah Qg.out;obtain ⟨⟨r0,r1,r2',r3⟩,rf0,rf1,rf2,rf3⟩:=zad Qd.out.b0
  by_cases her:er=0
  case neg =>
   have e0:(er==0)=false:=by rw [yf];exact her
   have e1:(er != 0)=true:=by simp only [bne,e0,yj]
   have Qa:=Qb.out;rw [yg her] at Qa;subst Qa;clear Qb HN Qh her;clear t0 t1 t2 t3 t4 t5 t6 t7;go_wp2;refine yi (zaf rfl _ _ B 25 _ (0,0) _ rfl (by exact set4 Qd.out.b0 _ _ _ _) Tryz.underlying25 rfl (by exact zav) _ _ rfl rfl) rfl ?_;exact zaJ (R:=(PV.none,0,er)) rfl (Qd.out.fin _ _ _ _)
  subst her;have Qa:=Qb.out;rw [yh (by simp)] at Qa
  by_cases hk5:xk=5
  ·have e5:(xk==5)=true:=by rw [hk5];rfl
   rw [yg hk5] at Qa
   cases tw with
   | true =>
    rw [yg rfl] at Qa;subst Qa;clear Qb HN Qh hk5;go_wp2;refine yi (zaf rfl _ _ B 25 _ (0,0) _ rfl (by exact set4 Qd.out.b0 _ _ _ _) Tryz.underlying25 rfl (by exact zav) _ _ rfl rfl) rfl ?_;exact zaJ (R:=(PV.none,0,16)) rfl (Qd.out.fin _ _ _ _)
   | false =>
    rw [yh (by decide)] at Qa;subst Qa;obtain ⟨sa,sc,rfl,-⟩:=Qd.out.val.len;have XE:r2≠B:=by have:=Z2.out;omega
    have XF:B+1≠B:=by omega
    obtain ⟨⟨d0,d1,d2,d3⟩,-⟩:=zad Qd.out.b1;clear Qb HN Qh hk5;go_wp2
    go_region
    all_goals
     go_wp2;refine yi (zaf rfl _ _ B 25 _ (0,0) _ rfl (by exact set4 Qd.out.b0 _ _ _ _) Tryz.underlying25 rfl (by exact zav) _ _ rfl rfl) rfl ?_;have XG:=Qd.out.hB;refine ⟨_,rfl,?_,(Qd.out.fin _ _ _ _).drew⟩;exact (IsV.keep (F:=fun b=>B+1<b) ⟨by rw [za5];exact yp _,fun b _ hF=>zbp (by omega) _ _ _ _⟩ (fun b hF=>by show w.heap.size<=b;omega) _ Qd.out.val).below (Below.refl _ _).drew
  have e5:(xk==5)=false:=by rw [yf];exact hk5
  rw [yh hk5] at Qa
  by_cases hk0:xk=0
  ·have e0:(xk==0)=true:=by rw [hk0];rfl
   rw [yg hk0] at Qa;subst Qa;clear Qb HN Qh hk5 hk0;go_wp2;refine yi (zaf rfl _ _ B 25 _ (0,0) _ rfl (by exact set4 Qd.out.b0 _ _ _ _) Tryz.underlying25 rfl (by exact zav) _ _ rfl rfl) rfl ?_;exact zaJ (R:=(PV.none,0,10)) rfl (Qd.out.fin _ _ _ _)
  have e0:(xk==0)=false:=by rw [yf];exact hk0
  rw [yh hk0] at Qa
  by_cases hk1:xk=1
  case neg =>
   have e1:(xk==1)=false:=by rw [yf];exact hk1
   have e2:(xk != 1)=true:=by simp only [bne,e1,yj]
   rw [yg (.inl hk1)] at Qa;subst Qa;clear Qb HN Qh hk5 hk0 hk1;go_wp2;refine yi (zaf rfl _ _ B 25 _ (0,0) _ rfl (by exact set4 Qd.out.b0 _ _ _ _) Tryz.underlying25 rfl (by exact zav) _ _ rfl rfl) rfl ?_;exact zaJ (R:=(PV.none,0,11)) rfl (Qd.out.fin _ _ _ _)
  have e1:(xk != 1)=false:=by rw [hk1];rfl
  by_cases hv5:xvk=5
  case neg =>
   have e3:(xvk==5)=false:=by rw [yf];exact hv5
   have e4:(xvk != 5)=true:=by simp only [bne,e3,yj]
   rw [yg (.inr hv5)] at Qa;subst Qa;clear Qb HN Qh hk5 hk0 hk1 hv5;go_wp2;refine yi (zaf rfl _ _ B 25 _ (0,0) _ rfl (by exact set4 Qd.out.b0 _ _ _ _) Tryz.underlying25 rfl (by exact zav) _ _ rfl rfl) rfl ?_;exact zaJ (R:=(PV.none,0,11)) rfl (Qd.out.fin _ _ _ _)
  have e3:(xvk != 5)=false:=by rw [hv5];rfl
  rw [yh (by rintro (h|h);exact h hk1;exact h hv5)] at Qa;have Z3:=HD.out
  by_cases hdz:d=0
  ·rw [yd hdz] at Z3
   rw [yg hdz] at Qa;subst Qa;clear Qb HN Qh hk5 hk0 hk1 hv5 hdz HD;go_wp2;refine yi (zaf rfl _ _ B 25 _ (0,0) _ rfl (by exact set4 Qd.out.b0 _ _ _ _) Tryz.underlying25 rfl (by exact zav) _ _ rfl rfl) rfl ?_;exact zaJ (R:=(PV.none,0,15)) rfl (Qd.out.fin _ _ _ _)
  rw [ye hdz] at Z3;rw [yh hdz] at Qa;have Zn:=yb (HN.out _ Qd.out.bel t);generalize zan bs t yq=V at *;obtain ⟨u,uf,ut,ue⟩:=V;simp only at Qa Zn;clear Qb;have Qb:=yb Qa;have Qq:=yb (fun (W:World) (h:Below w.heap.size w W)=>Qh.out W h u uf ut);clear Qa hk5 hk0 hk1 hv5 hdz;generalize fn u ut=R1 at *;obtain ⟨uk,uvk,uvn,uvs,us⟩:=u;simp only at Zn Qq;generalize mkB uvs=uvb at *;generalize mkB us=ub at *;go_wp2_with fail
  refine Zn.out.mono ?_;rintro e w3 ⟨rfl,Qr⟩;have QK:=Qr.alloc Qr.size (.cells #[.int .i64 uk,.int .i64 uf,.int .i64 ut,.int .i64 uvk,.int .i64 uvn,.string uvb,.slice none 0 0,.string ub] 81);have QL:=yb (Qd.out.keep QK);have Q4:=yb (zab QK Qg.out);have Zz:=yb (zac (w:=w3) (b:=w3.heap.size) (.cells #[.int .i64 uk,.int .i64 uf,.int .i64 ut,.int .i64 uvk,.int .i64 uvn,.string uvb,.slice none 0 0,.string ub] 81) rfl);clear t0 t1 t2 t3 t4 t5 t6 t7 r0 r1 r2' r3 rf0 rf1 rf2 rf3;clear Qr QK Zn Qd Qg
  go_upto_region 20 with fail
  obtain ⟨r3,Z4⟩:∃r3,r3=w3.heap.size:=⟨_,rfl⟩;rw [<-Z4] at Zz |-;clear Z4;generalize w3.alloc _=W3 at *;obtain ⟨⟨t0,t1,t2,t3,t4,t5,t6,t7⟩,-⟩:=zah Q4.out;obtain ⟨⟨u0,u1,u2,u3,u4,u5,u6,u7⟩,-⟩:=zah Zz.out;obtain ⟨⟨r0,r1,r2',r3⟩,rf0,rf1,rf2,rf3⟩:=zad QL.out.b0
  by_cases hue:ue=0
  case neg =>
   have e7:(ue==0)=false:=by rw [yf];exact hue
   have e8:(ue != 0)=true:=by simp only [bne,e7,yj]
   have Qa:=Qb.out;rw [yg hue] at Qa;subst Qa;clear Qb HN Qh hue;go_wp2;refine yi (zaf rfl _ _ B 25 _ (0,0) _ rfl (by exact set4 QL.out.b0 _ _ _ _) Tryz.underlying25 rfl (by exact zav) _ _ rfl rfl) rfl ?_;exact zaJ (R:=(PV.none,0,ue)) rfl (QL.out.fin _ _ _ _)
  subst hue;have Qa:=Qb.out;rw [yh (by simp)] at Qa;clear Qb;have Qb:=yb Qa;clear Qa;go_wp2_with fail
  refine (Qq.out _ QL.out.bel).mono ?_;rintro e w4 ⟨sl4,rfl,Zo,Qw⟩;obtain ⟨sa,sc,rfl,-⟩:=Zo.len;obtain ⟨X,n,ev⟩:=R1;simp only at Qb Zo;have Z5:=yb (QL.out.keep Qw);have Z6:=yb (zab Qw Q4.out);have Qs:=yb (IsV.weaken Zo (G:=fun b=>B+1<b) (fun b hb=>Nat.lt_of_lt_of_le (zam QL.out.b1) hb));clear t0 t1 t2 t3 t4 t5 t6 t7 u0 u1 u2 u3 u4 u5 u6 u7 r0 r1 r2' r3 rf0 rf1 rf2 rf3;clear Zo Qw QL Q4 Zz Qq;unfold pvA;obtain ⟨O4,Z7⟩:∃O4:Obj,O4=.cells #[.int .i64 X.kind,.int .i64 X.n,.string (mkB X.s),.slice sa X.l.length sc] 25:=⟨_,rfl⟩;have QF:=zai w4 O4;have Qk:=yb (Z5.out.keep QF);have Q5:=yb (zab QF Z6.out);have Qx:=yb (Qs.out.below QF);have QM:=yb (zac (w:=w4) (b:=w4.heap.size) O4 rfl);rw [Z7] at Qk Q5 Qx QM;clear QF Z7 Z5 Z6 Qs O4
  go_upto_region 23 with fail
  obtain ⟨r5,Z8⟩:∃r5,r5=w4.heap.size:=⟨_,rfl⟩;rw [<-Z8] at QM |-;clear Z8;generalize w4.alloc _=W5 at *;obtain ⟨⟨t0,t1,t2,t3,t4,t5,t6,t7⟩,-⟩:=zah Q5.out;obtain ⟨⟨x0,x1,x2,x3⟩,-⟩:=zad QM.out;obtain ⟨⟨r0,r1,r2',r3⟩,rf0,rf1,rf2,rf3⟩:=zad Qk.out.b0
  by_cases her:ev=0
  case neg =>
   have e7:(ev==0)=false:=by rw [yf];exact her
   have e8:(ev != 0)=true:=by simp only [bne,e7,yj]
   have Qa:=Qb.out;rw [yg her] at Qa;subst Qa;clear Qb HN Qh her;go_wp2;refine yi (zaf rfl _ _ B 25 _ (0,0) _ rfl (by exact set4 Qk.out.b0 _ _ _ _) Tryz.underlying25 rfl (by exact zav) _ _ rfl rfl) rfl ?_;exact zaJ (R:=(PV.none,0,ev)) rfl (Qk.out.fin _ _ _ _)
  subst her;have Qa:=Qb.out;rw [yh (by simp)] at Qa;clear Qb;have Qb:=yb Qa;clear Qa;have QV:=yb (fun (W:World) (h:Below W5.heap.size W5 W)=>zhW (Qk.out.val.below h) Qk.out.kinds xvs);have QW:=yb (fun (W:World) (h:Below W5.heap.size W5 W)=>put_any (Qk.out.val.below h) Qk.out.kinds xvs (Qx.out.below h) (by omega));have hge:=findI_ge xvs ps;obtain ⟨sa5,sc5,YI,-⟩:=Qk.out.val.len;subst YI;obtain ⟨N5,Z9⟩:∃N5,N5=(dctV ps).l.length:=⟨_,rfl⟩;rw [<-Z9] at Qk QV QW;clear Z9;obtain ⟨⟨g0,g1,g2,g3⟩,gf0,gf1,gf2,gf3⟩:=zad Qk.out.b1;unfold pvA at QV QW;rw [show (dctV ps).kind=7 from rfl,show (dctV ps).n=0 from rfl,show mkB (dctV ps).s=⟨#[]⟩ from rfl] at QV QW;obtain ⟨FI,Ya⟩:∃FI,FI=zgC xvs ps:=⟨_,rfl⟩;rw [<-Ya] at QV hge;clear Ya;have QG:=yb hge;clear hge;generalize hhk:hasK xvs ps=hh at *;clear hhk
  cases tw with
  | true =>
   clear QV QG
   go_upto_region 26 with fail
   go_wp2_with fail
   refine (QW.out _ (Below.refl _ _)).mono ?_;rintro e W7 ⟨s7,rfl,Qt,Qu⟩;obtain ⟨sa7,sc7,QN,-⟩:=Qt.len;subst QN;have Q6:=yb (Qk.out.put rfl Qt Qu);have Ql:=yb (zab Qu Qk.out.b1);clear t0 t1 t2 t3 t4 t5 t6 t7 x0 x1 x2 x3 g0 g1 g2 g3 gf0 gf1 gf2 gf3 r0 r1 r2' r3 rf0 rf1 rf2 rf3;clear Qt Qu;obtain ⟨⟨g0,g1,g2,g3⟩,gf0,gf1,gf2,gf3⟩:=zad Ql.out;rw [show (dctV (putK (PV.mk 5 0 xvs [],X) ps)).kind=7 from rfl,show (dctV (putK (PV.mk 5 0 xvs [],X) ps)).n=0 from rfl,show mkB (dctV (putK (PV.mk 5 0 xvs [],X) ps)).s=⟨#[]⟩ from rfl];go_wp2
   go_roundw
   case rel=>exact ⟨n,i+1,true,_,_,rfl,rfl,by go_num,by omega,by have:=put_len (.mk 5 0 xvs [],X) ps;omega,Q6,by rw [show L+1-(i+1)=L-i by omega];exact Qb⟩
   case measure=>simp [intOf];omega
  | false =>
   have hge:=QG.out
   go_upto_region 25 with fail
   go_wp2_with fail
   refine (QV.out _ (Below.refl _ _)).mono ?_;rintro e W6 ⟨rfl,Q7⟩;have QX:=yb (Qk.out.keep Q7);have YJ:=yb (zab Q7 Q5.out);have YK:=yb (zab Q7 QM.out);have Yb:=yb Q7;clear Q7 t0 t1 t2 t3 t4 t5 t6 t7 x0 x1 x2 x3 g0 g1 g2 g3 gf0 gf1 gf2 gf3 r0 r1 r2' r3 rf0 rf1 rf2 rf3;obtain ⟨⟨t0,t1,t2,t3,t4,t5,t6,t7⟩,-⟩:=zah YJ.out;obtain ⟨⟨x0,x1,x2,x3⟩,-⟩:=zad YK.out;obtain ⟨⟨g0,g1,g2,g3⟩,gf0,gf1,gf2,gf3⟩:=zad QX.out.b1;obtain ⟨⟨r0,r1,r2',r3⟩,rf0,rf1,rf2,rf3⟩:=zad QX.out.b0
   cases hh
   ·have hge:=QG.out
    go_wp2_with fail
    refine (QW.out _ Yb.out).mono ?_;rintro e W7 ⟨s7,rfl,Qt,Qu⟩;obtain ⟨sa7,sc7,QN,-⟩:=Qt.len;subst QN;have Q6:=yb (QX.out.put rfl Qt Qu);have Ql:=yb (zab Qu QX.out.b1);clear t0 t1 t2 t3 t4 t5 t6 t7 x0 x1 x2 x3 g0 g1 g2 g3 gf0 gf1 gf2 gf3 r0 r1 r2' r3 rf0 rf1 rf2 rf3;clear Qt Qu;obtain ⟨⟨g0,g1,g2,g3⟩,gf0,gf1,gf2,gf3⟩:=zad Ql.out;rw [show (dctV (putK (PV.mk 5 0 xvs [],X) ps)).kind=7 from rfl,show (dctV (putK (PV.mk 5 0 xvs [],X) ps)).n=0 from rfl,show mkB (dctV (putK (PV.mk 5 0 xvs [],X) ps)).s=⟨#[]⟩ from rfl];go_wp2
    go_roundw
    case rel=>exact ⟨n,i+1,false,_,_,rfl,rfl,by go_num,by omega,by have:=put_len (.mk 5 0 xvs [],X) ps;omega,Q6,by rw [show L+1-(i+1)=L-i by omega];exact Qb⟩
    case measure=>simp [intOf];omega
   ·have hge:=QG.out
    go_wp2_with fail
    refine (QW.out _ Yb.out).mono ?_;rintro e W7 ⟨s7,rfl,Qt,Qu⟩;obtain ⟨sa7,sc7,QN,-⟩:=Qt.len;subst QN;have Q6:=yb (QX.out.put rfl Qt Qu);have Ql:=yb (zab Qu QX.out.b1);clear t0 t1 t2 t3 t4 t5 t6 t7 x0 x1 x2 x3 g0 g1 g2 g3 gf0 gf1 gf2 gf3 r0 r1 r2' r3 rf0 rf1 rf2 rf3;clear Qt Qu;obtain ⟨⟨g0,g1,g2,g3⟩,gf0,gf1,gf2,gf3⟩:=zad Ql.out;rw [show (dctV (putK (PV.mk 5 0 xvs [],X) ps)).kind=7 from rfl,show (dctV (putK (PV.mk 5 0 xvs [],X) ps)).n=0 from rfl,show mkB (dctV (putK (PV.mk 5 0 xvs [],X) ps)).s=⟨#[]⟩ from rfl];go_wp2
    go_roundw
    case rel=>exact ⟨n,i+1,true,_,_,rfl,rfl,by go_num,by omega,by have:=put_len (.mk 5 0 xvs [],X) ps;omega,Q6,by rw [show L+1-(i+1)=L-i by omega];exact Qb⟩
    case measure=>simp [intOf];omega
theorem val_doc {bs:List UInt8} (hn:bs.length<=399999) (yq:Bool):∀d,d<=64->ValD bs yq d
 | 0,_=>fun w a cap hr x f tt=>by
  have Yc:(64-((0:Nat):Int))=64:=rfl;rw [Yc];unfold vlD
  by_cases k0:x.kind=0
  ·rw [yg k0];exact value_k0 yq x f tt 64 k0
  rw [yh k0]
  by_cases k2:x.kind=2
  ·rw [yg (.inl k2)];exact value_d2 yq x f tt 64 k2 (by omega)
  by_cases k4:x.kind=4
  ·rw [yg (.inr k4)];exact value_d4 yq x f tt 64 k4 (by omega)
  rw [yh (by omega)]
  by_cases k3:x.kind=3
  ·rw [yg (.inl k3)];exact value_k3 yq x f tt 64 k3
  by_cases k5:x.kind=5
  ·rw [yg (.inr k5)];exact value_k5 yq x f tt 64 k5
  rw [yh (by omega)];have h:=zhj hr (by omega) yq x f tt 64 ⟨k0,k2,k3,k4,k5⟩;rw [yg (show (64:Int)<=64 by omega)] at h;exact h
 | d+1,hd=>fun w a cap hr x f tt=>by
  have hv:=val_doc hn yq d (by omega);have hD:(64-((d+1:Nat):Int))+1=64-(d:Int):=by push_cast;omega
  have ZA:¬(64:Int)<=64-((d+1:Nat):Int):=by push_cast;omega
  have Yd:(0:Int)<=64-((d+1:Nat):Int):=by push_cast;omega
  unfold vlD
  by_cases k0:x.kind=0
  ·rw [yg k0];exact value_k0 yq x f tt _ k0
  rw [yh k0]
  by_cases k2:x.kind=2
  ·rw [yg k2]
   refine value_o2 yq x f tt _ k2 ZA Yd fun W hW=>?_;rw [hD];exact array_doc (hr.mono hW) (by omega) yq d tt hv
  rw [yh k2]
  by_cases k4:x.kind=4
  ·rw [yg k4]
   refine value_o4 yq x f tt _ k4 ZA Yd fun W hW=>?_;rw [hD];exact dict_doc (hr.mono hW) hn yq d (by omega) tt hv
  rw [yh k4]
  by_cases k3:x.kind=3
  ·rw [yg (.inl k3)];exact value_k3 yq x f tt _ k3
  by_cases k5:x.kind=5
  ·rw [yg (.inr k5)];exact value_k5 yq x f tt _ k5
  rw [yh (by omega)];have h:=zhj hr (by omega) yq x f tt (64-((d+1:Nat):Int)) ⟨k0,k2,k3,k4,k5⟩;rw [yh ZA] at h
  by_cases he:(zbC bs yq x tt).2.2≠0
  ·rw [yg he,<-zg7 bs yq x tt he] at h
   exact h
  ·rw [yh he] at h
   exact h
theorem rvalue_any {w:World} {a:Option Addr} {cap:Nat} {bs:List UInt8} (hr:Row w 1 a bs.length cap (bs.map u8C)) (hn:bs.length<=399999) (yq:Bool) (k:Int) :
  Calls Tryz.prog 35 #[.slice a bs.length cap,.int .i64 k,.bool yq] w (zca w (zch bs yq k)):=by
 have HN:=yb (fun (W:World) (h:Below w.heap.size w W)=>zcv (hr.mono h) (by omega) k yq);have HV:=yb (fun (W:World) (h:Below w.heap.size w W) (f:Int)=>val_doc hn yq 64 (yp _) W a cap (hr.mono h) (zan bs k yq).1 f (zan bs k yq).2.2.1);obtain ⟨R,hR⟩:∃R,R=zch bs yq k:=⟨_,rfl⟩;rw [<-hR];unfold zch at hR;generalize zan bs k yq=V at *;obtain ⟨x,f,t,er⟩:=V;simp only at hR HV;rw [show (64-((64:Nat):Int))=0 from rfl] at HV;unfold zaF tokN at HN;unfold tokN at HV;simp only at HN;have HR:=yb hR;clear hr hR;generalize vlD bs yq 64 x t=R1 at *;generalize x.kind=xk at *;generalize x.vk=xvk at *;generalize x.vn=xvn at *;generalize mkB x.vs=xvb at *;generalize mkB x.s=xb at *;generalize bs.length=L at *;go_enter Tryz.func35,Tryz.ntmps35
 obtain ⟨B,hB⟩:∃B,B=w.heap.size:=⟨_,rfl⟩;have HZ:=yb (zac (w:=w) (b:=B) (.cells #[.int .i64 0,.int .i64 0,.string ⟨#[]⟩,.slice none 0 0] 25) hB);have QH:=yb (zai w (.cells #[.int .i64 0,.int .i64 0,.string ⟨#[]⟩,.slice none 0 0] 25));have Ql:=yb (Nat.le_of_eq hB.symm)
 go_upto_region 1 with fail
 rw [<-hB];clear hB;generalize w.alloc _=W1 at *;go_wp2_with fail
 refine (HN.out _ QH.out).mono ?_;rintro e w2 ⟨rfl,Qc⟩;have Qf:=Qc.alloc Qc.size (.cells #[.int .i64 xk,.int .i64 f,.int .i64 t,.int .i64 xvk,.int .i64 xvn,.string xvb,.slice none 0 0,.string xb] 81);have Qg:=yb (zac (w:=w2) (b:=w2.heap.size) (.cells #[.int .i64 xk,.int .i64 f,.int .i64 t,.int .i64 xvk,.int .i64 xvn,.string xvb,.slice none 0 0,.string xb] 81) rfl);have Qi:=yb (zab Qf HZ.out);have Qe:=yo QH Qf;have QY:=yb (show B<w2.heap.size from Nat.lt_of_lt_of_le (zam HZ.out) Qc.size);clear Qc Qf HN HZ
 go_upto_region 2 with fail
 obtain ⟨r2,Qj⟩:∃r2,r2=w2.heap.size:=⟨_,rfl⟩;rw [<-Qj] at Qg |-;have YL:=yb (show B<(w2.alloc (.cells #[.int .i64 xk,.int .i64 f,.int .i64 t,.int .i64 xvk,.int .i64 xvn,.string xvb,.slice none 0 0,.string xb] 81)).heap.size by rw [zaq];have:=QY.out;omega);clear Qj QY;generalize w2.alloc _=W2 at *;obtain ⟨⟨t0,t1,t2,t3,t4,t5,t6,t7⟩,-⟩:=zah Qg.out;obtain ⟨⟨r0,r1,r2',r3⟩,rf0,rf1,rf2,rf3⟩:=zad Qi.out;have hR:=HR.out
 by_cases her:er=0
 case neg =>
  have e0:(er==0)=false:=by rw [yf];exact her
  have e1:(er != 0)=true:=by simp only [bne,e0,yj]
  rw [yg her] at hR;subst hR;clear HR HV her;go_wp2;refine yi (zaf rfl _ _ B 25 _ (0,0) _ rfl (by exact set4 Qi.out _ _ _ _) Tryz.underlying25 rfl (by exact zav) _ _ rfl rfl) rfl ?_;exact zaJ (R:=(PV.none,0,er)) rfl (zae Qe.out Ql.out _ _ _ _)
 subst her;rw [yh (by simp)] at hR;subst hR;clear HR;go_wp2_with fail
 refine (HV.out _ Qe.out f).mono ?_;rintro e w3 ⟨sl,rfl,ZB,Qr⟩;have Qy:=yb (zab Qr Qi.out);obtain ⟨sa,sc,rfl,-⟩:=ZB.len;have Qq:=yb ZB;have Qm:=yo Qe Qr;have YM:=yb Qe.out.size;clear ZB Qr t0 t1 t2 t3 t4 t5 t6 t7 r0 r1 r2' r3 rf0 rf1 rf2 rf3 Qg HV Qi;obtain ⟨⟨r0,r1,r2',r3⟩,rf0,rf1,rf2,rf3⟩:=zad Qy.out;unfold pvA;go_wp2;refine yi (zaf rfl _ _ B 25 _ (0,0) _ rfl (by exact set4 Qy.out _ _ _ _) Tryz.underlying25 rfl (by exact zav) _ _ rfl rfl) rfl ?_;exact ⟨_,rfl,IsV.keep (F:=fun b=>W2.heap.size<=b) ⟨by rw [za5];exact yp _,fun b _ hb=>zbp (by have:=YL.out;omega) _ _ _ _⟩ (fun b hb=>Nat.le_trans YM.out hb) _ Qq.out,zae Qm.out Ql.out _ _ _ _⟩
structure VAt (w W:World) (F:Nat->Prop) (r p:Nat) (a:Option Addr) (cap:Nat) (bs:List UInt8) (yq:Bool) (V:PV×Int×Int) (n:Nat) (st:List Lv) (at_:Int):Prop where
 stk:Stk w W F (fun b=>b=r) p a cap bs yq st at_
 res:W.heap[r]?=some (.cells #[.int .i64 0,.int .i64 0,.string ⟨#[]⟩,.slice none 0 0] 25 (0,0))
 fuel:valO bs yq n st at_=some V
 len:∀v∈st,(v.l.length:Int)<=at_
 rng:st=[]\/(0<=at_/\at_<=bs.length)
def ValI (w:World) (r p:Nat) (a:Option Addr) (cap:Nat) (bs:List UInt8) (yq:Bool) (at0:Int) (V:PV×Int×Int) (n:Nat) (act:Act) (W:World):Prop :=
 ∃(F:Nat->Prop) (st:List Lv) (at_:Int) (u10 u11 u12 u13 u14 u15 u16 u17 u18 u19 u20 u21 u22 u23 u24 u25 u26 u27 u28 u29 u30 u31 u32 u33 u34 u35 u36 u37 u38 u39 u40 u41 u42 u43 u44 u45 u46 u47 u48 u49 u50 u51 u52 u53 u54 u55 u56 u57 u58 u59 u60 u61:Value),Hid (VAt w W F r p a cap bs yq V n st at_) /\
  act={ tmps:=#[.slice a bs.length cap,.int .i64 at0,.bool yq,undef,undef,undef,.pointer (some ⟨r,0,none⟩),.int .i64 0,.int .i64 0,.pointer (some ⟨p,0,none⟩),u10,u11,u12,u13,u14,u15,u16,u17,u18,u19,u20,u21,u22,u23,u24,u25,u26,u27,u28,u29,u30,u31,u32,u33,u34,u35,u36,u37,u38,u39,u40,u41,u42,u43,u44,u45,u46,u47,u48,u49,u50,u51,u52,u53,u54,u55,u56,u57,u58,u59,u60,u61],defers:=[] }
def ValEnd (w:World) (V:PV×Int×Int) (e:Ending) (w':World):Prop :=
 ∃sl,e=.returned (.tuple #[pvA V.1 sl,.int .i64 V.2.1,.int .i64 V.2.2])/\IsV w' (fun b=>w.heap.size<=b) V.1 sl/\Below w.heap.size w w'
theorem VAt.small {w W:World} {F:Nat->Prop} {r p:Nat} {a:Option Addr} {cap:Nat} {bs:List UInt8} {yq:Bool} {V:PV×Int×Int} {n:Nat} {st:List Lv} {at_:Int} (h:VAt w W F r p a cap bs yq V n st at_):∀v∈st,v.l.length<=400000:=by
 intro v hv;obtain ⟨gs,osl,hs⟩:=h.stk;have:=h.len v hv;have XH:=hs.small;rcases h.rng with h0|h0
 ·subst h0;cases hv
 ·omega
theorem stepV_len {bs:List UInt8} {yq:Bool} {st:List Lv} {k:Int} {t:Tk} {N:Int} (hN:0<=N) (h:∀v∈st,(v.l.length:Int)<=N):∀v∈(zbo bs yq st k t).2.1,(v.l.length:Int)<=N:=by
 unfold zbo
 split
 ·exact h
 ·split
  ·show ∀v∈(zcE st _).1,_
   unfold zcE
   split
   ·exact h
   ·split
    ·exact h
    ·intro v hv
     rcases List.mem_cons.1 hv with rfl|hv
     ·exact hN
     ·exact h v hv
  ·split
   ·have he:∀d,∀v∈(zc3 st d).2.1,(v.l.length:Int)<=N:=by
     intro d;unfold zc3
     split
     ·exact h
     ·rename_i v rest
      have hr:∀u∈rest,(u.l.length:Int)<=N:=fun u hu=>h u (List.mem_cons_of_mem _ hu)
      split
      ·exact h
      ·split
       ·exact hr
       ·split
        ·exact h
        ·exact hr
    simp only
    split
    ·exact he _
    ·exact he _
   ·simp only
    split
    ·exact h
    ·split
     ·exact h
     ·exact h
theorem IsV.setr {w W:World} {F:Nat->Prop} {r p:Nat} {a:Option Addr} {cap:Nat} {bs:List UInt8} {yq:Bool} {st:List Lv} {at_:Int} {gs:List Nat} {osl:Value} {v:PV} {sl:Value} (h:IsV W F v sl) (hs:zaA w W F (fun b=>b=r) p a cap bs yq st at_ gs osl) (y0 y1 y2 y3:Value) :
  IsV ((((W.setCell ⟨r,0,none⟩ y0).setCell ⟨r,1,none⟩ y1).setCell ⟨r,2,none⟩ y2).setCell ⟨r,3,none⟩ y3) (fun b=>w.heap.size<=b) v sl :=
 IsV.keep ⟨by rw [za5];exact yp _,fun b _ hf=>za3 (fun e=>(hs.fb b hf).2.1 e) _ _ _ _⟩ (fun b hf=>(hs.fb b hf).1) v h
def S5v (w:World) (v:Nat) (y0 y1 y2 y3:Value):Prop:=w.cell? ⟨v,0,none⟩=some y0/\w.cell? ⟨v,1,none⟩=some y1/\w.cell? ⟨v,2,none⟩=some y2/\w.cell? ⟨v,3,none⟩=some y3
theorem S5v.drew {w:World} {v:Nat} {y0 y1 y2 y3:Value} (h:S5v w v y0 y1 y2 y3):S5v w.drew v y0 y1 y2 y3:=h
theorem S5v.alloc {w:World} {v:Nat} {y0 y1 y2 y3:Value} (h:S5v w v y0 y1 y2 y3) (o:Obj):S5v (w.alloc o) v y0 y1 y2 y3 :=
 ⟨zbq o h.1,zbq o h.2.1,zbq o h.2.2.1,zbq o h.2.2.2⟩
theorem S5v.grown {w w':World} {row:Option Nat} {v:Nat} {y0 y1 y2 y3:Value} (h:S5v w v y0 y1 y2 y3) (hg:w.grownBy w' row) (h2:row≠some v):S5v w' v y0 y1 y2 y3:=by
 have k:∀b o y,row≠some b->w.cell? ⟨b,o,none⟩=some y->w'.cell? ⟨b,o,none⟩=some y:=fun b o y hb hc=>by
  rw [World.cell?_of_block (w:=w) (a:=⟨b,o,none⟩) (hg.block b (World.block_lt_of_cell? w _ hc) (fun e=>hb e.symm))];exact hc
 exact ⟨k _ _ _ h2 h.1,k _ _ _ h2 h.2.1,k _ _ _ h2 h.2.2.1,k _ _ _ h2 h.2.2.2⟩
theorem S5v.set {w:World} {v b:Nat} {y0 y1 y2 y3:Value} (h:S5v w v y0 y1 y2 y3) (h2:v≠b) (o:Nat) (z:Value):S5v (w.setCell ⟨b,o,none⟩ z) v y0 y1 y2 y3:=by
 have k:∀c o' y,c≠b->w.cell? ⟨c,o',none⟩=some y->(w.setCell ⟨b,o,none⟩ z).cell? ⟨c,o',none⟩=some y:=fun c o' y hb hc=>by
  rw [World.cell?_of_block (w:=w) (a:=⟨c,o',none⟩) (heap_setCell_other _ _ _ _ hb)];exact hc
 exact ⟨k _ _ _ h2 h.1,k _ _ _ h2 h.2.1,k _ _ _ h2 h.2.2.1,k _ _ _ h2 h.2.2.2⟩
theorem owns_lastC {w:World} {base g n cap:Nat} {cs:List Value} {z0 z1 z2 z3:Value} (h:w.ownsRow base 25 4 (.slice (some ⟨g,0,none⟩) (n+1) cap) (n+1) (cs++[z0,z1,z2,z3])) :
  (w.cell? ⟨g,n*4,none⟩=some z0/\w.cell? ⟨g,n*4+1,none⟩=some z1/\w.cell? ⟨g,n*4+2,none⟩=some z2/\w.cell? ⟨g,n*4+3,none⟩=some z3)/\(∀j,w.frozen? ⟨g,j,none⟩=false):=by
 have hl:cs.length=n*4:=by have:=h.1;simp at this;omega
 rcases h.2 with ⟨e,-⟩|⟨g',cap',cur,e,hb,hh,hn,hm,hs,ht⟩
 ·cases e
 ·simp only [Value.slice.injEq,Option.some.injEq,Addr.mk.injEq] at e
  obtain ⟨⟨rfl,-⟩,-,rfl⟩:=e
  have hc:∀j z,(cs++[z0,z1,z2,z3])[j]?=some z->w.cell? ⟨g,j,none⟩=some z:=fun j z hj=>by
   rw [cell_of_row w g j cur _ _ hh];rw [<-ht,List.getElem?_take] at hj
   split at hj
   ·simpa using hj
   ·cases hj
  refine ⟨⟨hc _ _ ?_,hc _ _ ?_,hc _ _ ?_,hc _ _ ?_⟩,fun j=>frozen_of_row w g j cur _ hh⟩
  ·rw [List.getElem?_append_right (by omega)];simp [hl]
  ·rw [List.getElem?_append_right (by omega)];simp [hl]
  ·rw [List.getElem?_append_right (by omega)];simp [hl]
  ·rw [List.getElem?_append_right (by omega)];simp [hl]
theorem owns_setLast {w:World} {base g n cap:Nat} {cs:List Value} {z0 z1 z2 z3 y0 y1 y2 y3:Value} (h:w.ownsRow base 25 4 (.slice (some ⟨g,0,none⟩) (n+1) cap) (n+1) (cs++[z0,z1,z2,z3])) :
  ((((w.setCell ⟨g,n*4,none⟩ y0).setCell ⟨g,n*4+1,none⟩ y1).setCell ⟨g,n*4+2,none⟩ y2).setCell ⟨g,n*4+3,none⟩ y3).ownsRow base 25 4 (.slice (some ⟨g,0,none⟩) (n+1) cap) (n+1) (cs++[y0,y1,y2,y3]):=by
 have hl:cs.length=n*4:=by have:=h.1;simp at this;omega
 rcases h.2 with ⟨e,-⟩|⟨g',cap',cur,e,hb,hh,hn,hm,hs,ht⟩
 ·cases e
 ·simp only [Value.slice.injEq,Option.some.injEq,Addr.mk.injEq] at e
  obtain ⟨⟨rfl,-⟩,-,rfl⟩:=e;have e0:=heap_setCell_same w g (n*4) cur _ y0 hh;have e1:=heap_setCell_same _ g (n*4+1) _ _ y1 e0;have e2:=heap_setCell_same _ g (n*4+2) _ _ y2 e1;have e3:=heap_setCell_same _ g (n*4+3) _ _ y3 e2;refine ⟨by simp [hl];omega,.inr ⟨g,cap,_,rfl,hb,e3,hn,hm,by simpa using hs,?_⟩⟩
  have ZC:∀j,j<n*4->cur.toList[j]?=cs[j]?:=fun j hj=>by
   have:=congrArg (fun l=>l[j]?) ht;simp only [List.getElem?_take] at this;rw [yg (by omega),List.getElem?_append_left (by omega)] at this;exact this
  apply List.ext_getElem?
  intro j;rw [List.getElem?_take];simp only [Array.toList_setIfInBounds,List.getElem?_set,List.length_set,Array.length_toList]
  by_cases hj:j<(n+1)*4
  ·rw [yg hj]
   by_cases h3:n*4+3=j
   ·subst h3;rw [List.getElem?_append_right (by omega)];simp [hl];omega
   ·by_cases h2:n*4+2=j
    ·subst h2;rw [List.getElem?_append_right (by omega)];simp [hl];omega
    ·by_cases h1:n*4+1=j
     ·subst h1;rw [List.getElem?_append_right (by omega)];simp [hl];omega
     ·by_cases h0:n*4=j
      ·subst h0;rw [List.getElem?_append_right (by omega)];simp [hl];omega
      ·simp only [h0,h1,h2,h3,if_false]
       rw [List.getElem?_append_left (by omega)];exact ZC j (by omega)
  ·rw [yh hj,List.getElem?_eq_none (by simp [hl];omega)]
theorem zcC (w:World) {g b:Nat} (h:g≠b) (i j:Nat) (u v:Value):(w.setCell ⟨g,i,none⟩ u).setCell ⟨b,j,none⟩ v=(w.setCell ⟨b,j,none⟩ v).setCell ⟨g,i,none⟩ u:=by
 unfold World.setCell;simp only
 congr 1
 apply Array.ext_getElem?
 intro k;simp only [Array.getElem?_modify]
 by_cases h1:g=k
 ·subst h1
  have h2:¬b=g:=fun e=>h e.symm;simp [h2]
 ·by_cases h2:b=k
  ·subst h2;simp [h1]
  ·simp [h1,h2]
theorem zhQ (w:World) {g b:Nat} (h:g≠b) (i j0 j1 j2 j3:Nat) (u v0 v1 v2 v3:Value) :
  ((((w.setCell ⟨g,i,none⟩ u).setCell ⟨b,j0,none⟩ v0).setCell ⟨b,j1,none⟩ v1).setCell ⟨b,j2,none⟩ v2).setCell ⟨b,j3,none⟩ v3=((((w.setCell ⟨b,j0,none⟩ v0).setCell ⟨b,j1,none⟩ v1).setCell ⟨b,j2,none⟩ v2).setCell ⟨b,j3,none⟩ v3).setCell ⟨g,i,none⟩ u:=by
 rw [zcC w h,zcC _ h,zcC _ h,zcC _ h]
theorem VAt.put {w W5 w7:World} {F:Nat->Prop} {r v4 p:Nat} {a:Option Addr} {cap:Nat} {bs:List UInt8} {yq:Bool} {V:PV×Int×Int} {n:Nat} {top:Lv} {rest:List Lv} {at2:Int} {g:Nat} {t:List Nat} {osl:Value}
  (HG5:zaA w W5 F (fun b=>b=r\/b=v4) p a cap bs yq (top::rest) at2 (g::t) osl) (HR5:W5.heap[r]?=some (.cells #[.int .i64 0,.int .i64 0,.string ⟨#[]⟩,.slice none 0 0] 25 (0,0)))
  {ta:Option Addr} {tn tc:Nat} (HGL:W5.heap[g]?=some (.cells #[.bool top.dict,.slice ta tn tc] 128 (0,0))) {cs:List Value} (HVS:IsVs W5 F top.l cs) {X:PV} {sa:Option Addr} {sn sc:Nat} (HX:IsV W5 F X (.slice sa sn sc)) (HTN:tn=top.l.length)
  {o:Obj} (HG7:((W5.alloc o).drew).grownBy w7 (Value.slice ta tn tc).ownBlock) {g7 cap7:Nat} {z0 z1 z2 z3:Value}
  (HO7:w7.ownsRow w.heap.size 25 4 (.slice (some ⟨g7,0,none⟩) (tn+1) cap7) (tn+1) (cs++[z0,z1,z2,z3])) (HAT:(Value.slice ta tn tc).ownBlock=some g7\/g7=W5.heap.size+1)
  (hv:valO bs yq n ({ top with l:=top.l++[X] }::rest) at2=some V) (hlen:∀v∈top::rest,(v.l.length:Int)+1<=at2) (hrng:0<=at2/\at2<=bs.length) :
  VAt w (((((w7.setCell ⟨g7,tn*4,none⟩ (.int .i64 X.kind)).setCell ⟨g7,tn*4+1,none⟩ (.int .i64 X.n)).setCell ⟨g7,tn*4+2,none⟩ (.string (mkB X.s))).setCell ⟨g7,tn*4+3,none⟩ (.slice sa sn sc)).setCell ⟨g,1,none⟩ (.slice (some ⟨g7,0,none⟩) (tn+1) cap7)) F r p a cap bs yq V n ({ top with l:=top.l++[X] }::rest) at2:=by
 subst HTN
 have hk:zak (fun b=>(Value.slice ta top.l.length tc).ownBlock=some b) W5 ((((w7.setCell ⟨g7,top.l.length*4,none⟩ (.int .i64 X.kind)).setCell ⟨g7,top.l.length*4+1,none⟩ (.int .i64 X.n)).setCell ⟨g7,top.l.length*4+2,none⟩ (.string (mkB X.s))).setCell ⟨g7,top.l.length*4+3,none⟩ (.slice sa sn sc)):=by
  have h0:zak (fun b=>(Value.slice ta top.l.length tc).ownBlock=some b) W5 w7 :=
   (zaz (zai W5 o).drew).grown HG7 fun k hk=>.inl hk
  have Zp:(Value.slice ta top.l.length tc).ownBlock=some g7\/W5.heap.size<=g7:=by rcases HAT with h|h;exact .inl h;exact .inr (by omega)
  exact (((h0.setCell (a:=⟨g7,_,none⟩) Zp _).setCell (a:=⟨g7,_,none⟩) Zp _).setCell (a:=⟨g7,_,none⟩) Zp _).setCell (a:=⟨g7,_,none⟩) Zp _
 have N:=HG5.put HGL HVS HX (v':=.slice (some ⟨g7,0,none⟩) (top.l.length+1) cap7) (owns_setLast HO7) hk (fun b hb=>by
  have hb:g7=b:=by simpa [Value.ownBlock] using hb
  subst hb;rcases HAT with h|h;exact .inl h;exact .inr (by omega))
 refine ⟨(let ⟨gs2,osl2,h⟩:=N.stk;⟨gs2,osl2,h.give fun b hb=>.inl hb⟩),zcx N.sg HR5 (.inl rfl),hv,fun v hv=>?_,.inr hrng⟩;rcases List.mem_cons.1 hv with rfl|hv
 ·have:=hlen top List.mem_cons_self
  simpa using this
 ·have:=hlen v (List.mem_cons_of_mem _ hv)
  omega
set_option maxRecDepth 100000 in
theorem value_any {w:World} {a:Option Addr} {cap:Nat} {bs:List UInt8} (hr:Row w 1 a bs.length cap (bs.map u8C)) (hn:bs.length<=400000) (at0:Int) (yq:Bool) (V:PV×Int×Int) (hV:valO bs yq (bs.length+2) [] at0=some V) :
  Calls Tryz.prog 30 #[.slice a bs.length cap,.int .i64 at0,.bool yq] w (ValEnd w V):=by
 obtain ⟨r,Qa⟩:∃r,r=w.heap.size:=⟨_,rfl⟩
 have Ye:zaA w ((w.alloc (.cells #[.int .i64 0,.int .i64 0,.string ⟨#[]⟩,.slice none 0 0] 25)).alloc (.cells #[.slice a bs.length cap,.int .i64 at0,.bool yq,.slice none 0 0] 122)) (fun _=>False) (fun b=>b=r) (r+1) a cap bs yq [] at0 [] (.slice none 0 0) :=
  ⟨zac _ (by rw [zaq,Qa]),by omega,by omega,World.ownsRow_nil _ _ _ _,fun b hb=>(by cases hb),rfl,fun b hb=>hb.elim,fun b hb=>by rw [zaq,zaq];omega,za6 w _ _,hr,hn,by simp⟩
 have HAT:=yb (show VAt w ((w.alloc (.cells #[.int .i64 0,.int .i64 0,.string ⟨#[]⟩,.slice none 0 0] 25)).alloc (.cells #[.slice a bs.length cap,.int .i64 at0,.bool yq,.slice none 0 0] 122)) (fun _=>False) r (r+1) a cap bs yq V (bs.length+2) [] at0 from
  ⟨⟨_,_,Ye⟩,zal _ (zac _ Qa),hV,fun v hv=>(by cases hv),.inl rfl⟩)
 have Qb:=yb Qa;clear Ye hV hr hn Qa;go_enter Tryz.func30,Tryz.ntmps30
 go_wp2;refine zcR 0 (ValI w r (r+1) a cap bs yq at0 V) rfl ?first ?pass
 case first =>
  intro hpass;have Q8:=yb hpass;clear hpass;go_wp2;rw [<-Qb.out];refine wp_label ?_
  rename_i K hK
  exact hK _ _ (Q8.out _ _ _ ⟨_,[],at0,_,_,_,_,_,_,_,_,_,_,_,_,_,_,_,_,_,_,_,_,_,_,_,_,_,_,_,_,_,_,_,_,_,_,_,_,_,_,_,_,_,_,_,_,_,_,_,_,_,_,_,_,HAT,rfl⟩)
 case pass =>
  rintro n act W ⟨F,st,at_,u10,u11,u12,u13,u14,u15,u16,u17,u18,u19,u20,u21,u22,u23,u24,u25,u26,u27,u28,u29,u30,u31,u32,u33,u34,u35,u36,u37,u38,u39,u40,u41,u42,u43,u44,u45,u46,u47,u48,u49,u50,u51,u52,u53,u54,u55,u56,u57,u58,u59,u60,u61,HA,rfl⟩;obtain ⟨p,hp⟩:∃p,p=r+1:=⟨_,rfl⟩;rw [<-hp] at HA |-;have HP:=yb hp;clear hp HAT;obtain ⟨gs,osl,hs⟩:=HA.out.stk;have HS:=yb hs;have QO:=yb (pnext_any hs);have Yf:=yb HA.out.fuel;have Q9:=yb HA.out.res;have XI:r<W.heap.size:=zam HA.out.res;have Yg:p≠r:=hs.gp;have ZD:=yb HA.out.len;have YN:=yb HA.out.small;have YO:=yb HA.out.rng;have ZE:=yb (show w.heap.size<=r by rw [Qb.out];exact yp _);have QB:=Yf.out
  cases n with
  | zero=>cases QB
  | succ n =>
  unfold valO at QB;simp only at QB;obtain ⟨T,hT⟩:∃T,T=zan bs at_ yq:=⟨_,rfl⟩;rw [<-hT] at QB QO;have HT:=yb hT;obtain ⟨x,tf,tt,er⟩:=T;simp only at QB QO;clear hs hT Yf HA
  by_cases her:er=0
  case neg =>
   have hv:=QB;rw [yg her] at hv;have HV:=yb (Option.some.inj hv).symm;have e1:(er==0)=false:=by rw [yf];exact her
   have e2:(er != 0)=true:=by simp only [bne,e1,yj]
   clear QB hv her;unfold tokN at QO;go_wp2_with fail
   refine QO.out.mono ?_;rintro e w1 ⟨rfl,QP,hk1⟩;have QZ:=yb ((hk1.alloc (.cells (tokN x tf tt) 112)).obj Q9.out (Ne.symm Yg));have QI:=yb (QP.bel.alloc QP.bel.size (.cells (tokN x tf tt) 112));unfold tokN at QZ QI;obtain ⟨⟨k0,k1,k2,k3⟩,m0,m1,m2,m3⟩:=zad QZ.out;clear QP hk1
   go_upto_region 3 with fail
   generalize w1.alloc _=W2 at *;go_wp2
   try simp only [Exit.jump]
   refine yi (zaf rfl _ _ r 25 _ (0,0) _ rfl (by exact set4 QZ.out _ _ _ _) Tryz.underlying25 rfl (by exact zav) _ _ rfl rfl) rfl ?_;rw [HV.out];exact ⟨.slice none 0 0,rfl,IsV.leaf _ _ _ rfl,zae QI.out ZE.out _ _ _ _⟩
  subst her;have hv:=QB;rw [yh (by simp)] at hv
  have hrng:0<=at_/\at_<=bs.length:=by
   have h:=HT.out
   by_cases ho:at_<0\/(bs.length:Int)<at_
   ·unfold zan at h
    rw [yg ho] at h;have h2:=congrArg (fun z:Tk×Int×Int×Int=>z.2.2.2) h;simp at h2
   ·omega
  have ZF:=fun w1 (h1:zaA w w1 F (fun b=>b=r) p a cap bs yq st tt gs osl)=>step_any h1 x tf tt YN.out;have YP:=yb ZF;have Qn:=fun h=>zes (bs:=bs) (k:=at_) (yq:=yq) hrng.1 hrng.2 (by rw [<-HT.out]) h;rw [<-HT.out] at Qn;have QC:=zbr (bs:=bs) (k:=at_) yq hrng.1 hrng.2;rw [<-HT.out] at QC;simp only at Qn QC;have Qz:=stepV_at (bs:=bs) (yq:=yq) (k:=tt) (by omega) QC.2 st x;have Zq:=fun h=>zhd (bs:=bs) (yq:=yq) (k:=tt) (st:=st) (t:=x) h;have Qv:=stepV_len (bs:=bs) (yq:=yq) (st:=st) (k:=tt) (t:=x) (N:=at_) hrng.1 ZD.out;obtain ⟨R,ZG⟩:∃R,R=zbo bs yq st tt x:=⟨_,rfl⟩;rw [<-ZG] at Qz Zq Qv hv;have QQ:=yb (show ∀w1,zaA w w1 F (fun b=>b=r) p a cap bs yq st tt gs osl->Calls Tryz.prog 64 #[.pointer (some ⟨p,0,none⟩),.agg (tokN x tf tt)] w1 (PStep w w1 F (fun b=>b=r) p a cap bs yq R) from fun w1 h1=>by rw [ZG];exact ZF w1 h1);obtain ⟨o,st2,at2,er2⟩:=R;simp only at Qz Zq Qv hv;have HV:=yb hv;have YQ:=yb Qv;have YR:=yb Qz;have YS:=yb (fun h=>Qn (Zq h));have XJ:=yb QC;have YT:=yb hrng;clear ZF YP Qn QC Qz Zq Qv ZG hv QB hrng HT;unfold tokN at QO QQ;go_wp2_with fail
  refine QO.out.mono ?_;rintro e w1 ⟨rfl,QP,hk1⟩;have QZ:=yb (hk1.obj Q9.out (Ne.symm Yg));have Yh:=yb QP;clear QP hk1 QO;go_wp2_with fail
  refine (QQ.out _ (Yh.out.alloc _)).mono ?_;rintro e w3 ⟨F',sa,sn,sc,X,rfl,hX,hN⟩;have HX:=yb hX;have HN:=yb hN;have Za:=yb (zcx hN.sg (zal (.cells #[.int .i64 x.kind,.int .i64 tf,.int .i64 tt,.int .i64 x.vk,.int .i64 x.vn,.string (mkB x.vs),.slice none 0 0,.string (mkB x.s)] 112) QZ.out) rfl);have Qm:=yb (show Below w.heap.size w w3 from (let ⟨_,_,h⟩:=hN.stk;h.bel));clear hX hN QQ Yh QZ;unfold pvA
  by_cases her2:er2=0
  case neg =>
   have hv:=HV.out;rw [yg her2] at hv;have ZH:=yb (Option.some.inj hv).symm;have e1:(er2==0)=false:=by rw [yf];exact her2
   have e2:(er2 != 0)=true:=by simp only [bne,e1,yj]
   clear hv her2;simp only;generalize o.isSome=io at *
   go_upto_region 6 with fail
   have Zb:=yb (zal (.cells #[.int .i64 X.kind,.int .i64 X.n,.string (mkB X.s),.slice sa sn sc] 25) Za.out);have QA:=yb (Qm.out.alloc Qm.out.size (.cells #[.int .i64 X.kind,.int .i64 X.n,.string (mkB X.s),.slice sa sn sc] 25));generalize w3.alloc _=W4 at *;obtain ⟨⟨k0,k1,k2,k3⟩,m0,m1,m2,m3⟩:=zad Zb.out;go_wp2;refine yi (zaf rfl _ _ r 25 _ (0,0) _ rfl (by exact set4 Zb.out _ _ _ _) Tryz.underlying25 rfl (by exact zav) _ _ rfl rfl) rfl ?_;rw [ZH.out];exact ⟨.slice none 0 0,rfl,IsV.leaf _ _ _ rfl,zae QA.out ZE.out _ _ _ _⟩
  subst her2;have hv:=HV.out;rw [yh (by simp)] at hv;have hlt:at_<tt:=YS.out rfl;have hrng:=YT.out;have Qz:=YR.out;have Qv:=YQ.out
  cases o with
  | none =>
   simp only at hv
   have ZI:=yb (show ∀o:Obj,VAt w (w3.alloc o) F' r p a cap bs yq V n st2 at2 from fun o =>
    ⟨(let ⟨gs2,osl2,h⟩:=HN.out.stk;⟨gs2,osl2,h.alloc o⟩),zal o Za.out,hv,fun v hv=>by have:=Qv v hv;omega,.inr ⟨by omega,Qz.2⟩⟩)
   clear hv hlt Qz Qv HN HX hrng;simp only [Option.isSome_none];go_wp2
   go_step3
   exact ⟨rfl,n,Nat.lt_succ_self _,F',st2,at2,_,_,_,_,_,_,_,_,_,_,_,_,_,_,_,_,_,_,_,_,_,_,_,_,_,_,_,_,_,_,_,_,_,_,_,_,_,_,_,_,_,_,_,_,_,_,_,_,_,_,_,_,yb (ZI.out _),rfl⟩
  | some x0 =>
   simp only [Option.isSome_some];obtain ⟨rfl,ZJ⟩:=HX.out x0 rfl;have YU:=yb ZJ;obtain ⟨gs2,osl2,Q0⟩:=HN.out.stk;have ZK:=yb Q0;simp only at hv
   go_upto_region 9 with fail
   obtain ⟨v4,Zc⟩:∃v4,v4=w3.heap.size:=⟨_,rfl⟩;have Qw:=zai w3 (.cells #[.int .i64 X.kind,.int .i64 X.n,.string (mkB X.s),.slice sa sn sc] 25);have Q1:=zac (w:=w3) (b:=v4) (.cells #[.int .i64 X.kind,.int .i64 X.n,.string (mkB X.s),.slice sa sn sc] 25) Zc;have ZL:=yb (Q0.mono Qw);have Q2:=yb (Q0.res (G':=fun b=>b=r\/b=v4) Qw (fun b hb=>hb.imp id fun e=>by rw [e,Zc,zaq];omega));have Qs:=yb (ZJ.below Qw);have Zb:=yb (zab Qw Za.out);have QA:=yo Qm Qw;have Yi:=yb Q1;have Qq:=yb Zc;have YV:v4≠r:=by have:=zam Za.out;omega
   have YW:v4≠p:=by have:=Q0.lt;omega
   rw [<-Zc];clear ZJ Q0 HX HN ZK YU Za Qm Qw Q1;generalize w3.alloc _=W4 at *;clear Zc;have Zd:=yb (zhp ZL.out);go_wp2_with fail
   refine Zd.out.mono ?_;rintro e w5 ⟨rfl,q,rfl⟩;have Ze:=yb (ZL.out.drewN q);have HG5:=yb (Q2.out.drewN q);have Qx:=yb (Qs.out.below (zag (Below.refl _ _) q));have HR5:=yb (show (W4.drewN q).heap[r]?=_ from Zb.out);have Zf:=yb (zag QA.out q);have QM:=yb (show (W4.drewN q).heap[v4]?=_ from Yi.out);clear ZL Q2 Qs Zb QA Yi Zd;generalize W4.drewN q=W5 at *;obtain ⟨⟨k0,k1,k2,k3⟩,m0,m1,m2,m3⟩:=zad HR5.out;obtain ⟨⟨d0,d1,d2,d3⟩,-⟩:=zad QM.out
   cases st2 with
   | nil =>
    have hg:gs2=[]:=List.eq_nil_of_length_eq_zero (by rw [Ze.out.lvs.len];rfl);subst hg;have ZH:=yb (Option.some.inj hv).symm;obtain ⟨⟨c0,c1,c2,c3⟩,-⟩:=Ze.out.cells;clear hv hlt Qz Qv hrng;unfold topP;go_wp2
    go_region
    all_goals
     go_wp2;refine yi (zaf rfl _ _ r 25 _ (0,0) _ rfl (by exact set4 HR5.out _ _ _ _) Tryz.underlying25 rfl (by exact zav) _ _ rfl rfl) rfl ?_;rw [ZH.out];exact ⟨_,rfl,(IsV.setr Qx.out Ze.out _ _ _ _).drew,(zae Zf.out ZE.out _ _ _ _).drew⟩
   | cons top rest =>
    obtain ⟨g,t,ta,tc,cs,rfl,YX,XK,XL,YY,QR,hO,Yj,QS⟩:=HG5.out.lastL;obtain ⟨tn,ZM⟩:∃tn,tn=top.l.length:=⟨_,rfl⟩;rw [<-ZM] at YX hO QR QS
    have YZ:tn<=400000:=by
     have h1:=Qv top List.mem_cons_self;have h2:=Ze.out.small;omega
    have Yk:W5.cell? ⟨g,1,none⟩=some (.slice ta tn tc):=by rw [cell_of_row W5 g 1 _ _ _ QR];rfl
    have XM:W5.frozen? ⟨g,1,none⟩=false:=frozen_of_row W5 g 1 _ _ QR;have Y0:v4<W5.heap.size:=zam QM.out;have Y1:g<W5.heap.size:=zam QR;have ZN:(Value.slice ta tn tc).ownBlock≠some g:=fun e=>by obtain ⟨ds,hc⟩:=zaY hO e;exact zbj hc QR (by decide) rfl
    have ZO:(Value.slice ta tn tc).ownBlock≠some v4:=fun e=>(QS v4 e).2 (.inr rfl);have Y2:Hid (S5v W5 v4 (.int .i64 X.kind) (.int .i64 X.n) (.string (mkB X.s)) (.slice sa sn sc)):=yb ⟨d0,d1,d2,d3⟩;have HO:=yb hO;have HGL:=yb QR;have HVS:=yb Yj;have HTN:=yb ZM;have Zg:=yb (Ze.out.bel.size);have XN:=yb ZN;have XO:=yb ZO;have XP:=yb (show v4≠g from fun e=>YY (.inr e.symm));clear k0 k1 k2 k3 m0 m1 m2 m3 hO QR Yj ZM QS;unfold topP
    go_upto_region 11 with fail
    have i1:(0:Int)<=(tn:Int):=by omega
    have i2:(tn:Int)<=400000:=by omega
    have i3:(tn:Int)<(tn:Int)+1:=by omega
    have i4:(tn:Int)<((tn+1:Nat):Int):=by omega
    have i5:tn<tn+1:=by omega
    have i6:(tn:Int).toNat=tn:=by omega
    obtain ⟨iB,Y3,Y4,Y5,Y6⟩:=info_parts EPV.info
    go_region_law (first|(refine step_append_lies _ (by rfl) _ _ _ (by rfl) w.heap.size 25 iB _ 4 56 EPV.und Y3 Y4 Y5 Y6 rfl (by omega) (.slice ta tn tc) tn cs (by rfl) ((HO.out.alloc _).drew) ⟨W5.heap.size,0,none⟩ 1 1 [.int .i64 0,.int .i64 0,.string ⟨#[]⟩,.slice none 0 0] (by rfl) (by rfl) (World.news_of_block (cs:=#[.int .i64 0,.int .i64 0,.string ⟨#[]⟩,.slice none 0 0]) (t:=25) (fr:=(0,0)) (heap_alloc_new W5 _)) (by simp [Value.oneCell']) (by omega) (by unfold maxLen;omega) (by omega) (by simp;have:=Zg.out;omega) (W5.heap.size+1) (by simp) ?_;intro g7 cap7 w7 hO7 hgrow Qn hlt7;have Q3:Hid (g≠g7/\v4≠g7):=(by rcases Qn with e|e;exact yb ⟨fun e2=>ZN (e2▸e),fun e2=>ZO (e2▸e)⟩;exact yb ⟨by omega,by omega⟩);have QN:=(Y2.out.alloc (.cells #[.int .i64 0,.int .i64 0,.string ⟨#[]⟩,.slice none 0 0] 25)).drew.grown hgrow ZO;obtain ⟨s0,s1,s2,s3⟩:=QN;obtain ⟨⟨z0,z1,z2,z3⟩,zf⟩:=owns_lastC hO7;have Zh:=yb ((hgrow.block g (show g<(W5.alloc _).heap.size by rw [zaq];omega) (fun e=>ZN e.symm)).trans (zal (.cells #[.int .i64 0,.int .i64 0,.string ⟨#[]⟩,.slice none 0 0] 25) HGL.out));have Y7:=frozen_of_row w7 g 1 _ _ Zh.out;have ZP:g≠g7:=Q3.out.1;have zf0:=zf (tn*4);have zf1:=zf (tn*4+1);have zf2:=zf (tn*4+2);have zf3:=zf (tn*4+3);have XQ:w7.cell? ⟨g,1,none⟩=some (.slice ta tn tc):=(by rw [cell_of_row w7 g 1 _ _ _ Zh.out];rfl);have HG7:=yb hgrow;have HO7:=yb hO7;have HAT:=yb Qn;clear zf hgrow hO7 Qn hlt7))
    all_goals
     first
      | rw [zhQ w7 ZP]
      | skip
     have ZI:=yb (VAt.put HG5.out HR5.out HGL.out HVS.out Qx.out HTN.out HG7.out HO7.out HAT.out hv (fun v hv=>by have:=Qv v hv;omega) ⟨by omega,Qz.2⟩);clear hv hlt Qz Qv hrng HG5 HR5 HGL HVS Qx HTN HG7 HO7 HAT HO;go_wp2
     go_step3
     exact ⟨rfl,n,Nat.lt_succ_self _,F',_,at2,_,_,_,_,_,_,_,_,_,_,_,_,_,_,_,_,_,_,_,_,_,_,_,_,_,_,_,_,_,_,_,_,_,_,_,_,_,_,_,_,_,_,_,_,_,_,_,_,_,_,_,_,ZI,rfl⟩
def oneW (p:Tk->Bool) (V:Tk×Int×Int×Int):Tk×Int×Int×Int :=
 if V.2.2.2≠0 then ({ kind:=0 },0,0,V.2.2.2) else if V.1.kind=0 then ({ kind:=0 },0,0,10) else if p V.1=false then ({ kind:=0 },0,0,11) else (V.1,V.2.1,V.2.2.1,0)
def zfS (s:List UInt8) (t:Tk):Bool:=t.kind==6&&t.s==s
def zdv (w:World) (V:Tk×Int×Int×Int) (e:Ending) (w':World):Prop:=e=.returned (.tuple #[.int .i64 V.2.2.1,.int .i64 V.2.2.2])/\Below w.heap.size w w'
def OneEnd (w:World) (V:Tk×Int×Int×Int) (e:Ending) (w':World):Prop:=e=.returned (.tuple #[.agg (tokN V.1 V.2.1 V.2.2.1),.int .i64 V.2.2.2])/\Below w.heap.size w w'
theorem rword_any {w:World} {a:Option Addr} {cap:Nat} {bs:List UInt8} (hr:Row w 1 a bs.length cap (bs.map u8C)) (hn:bs.length<=400000) (k:Int) (yq:Bool) (s:List UInt8) :
  Calls Tryz.prog 31 #[.slice a bs.length cap,.int .i64 k,.bool yq,.string (mkB s)] w (zdv w (oneW (zfS s) (zan bs k yq))):=by
 have HN:=yb (zcv hr hn k yq);obtain ⟨R,hR⟩:∃R,R=oneW (zfS s) (zan bs k yq):=⟨_,rfl⟩;rw [<-hR];unfold oneW at hR;generalize zan bs k yq=V at *;obtain ⟨x,f,t,er⟩:=V;have HQ:=yb (show ((mkB x.s).toList==(mkB s).toList)=decide (x.s=s) by rw [zaj s];exact zcl x.s s);simp only at hR;unfold zaF tokN at HN;simp only at HN;have HR:=yb hR;clear hr hR hn;generalize hxs:x.s=xs at *;generalize hxw:zfS s x=xw at *;have Zr:=yb (show xw=(x.kind==6&&xs==s) by rw [<-hxw,<-hxs];rfl);clear hxs hxw;generalize x.kind=xk at *;generalize x.vk=xvk at *;generalize x.vn=xvn at *;generalize mkB x.vs=xvb at *;generalize mkB xs=xb at *;generalize mkB s=sb at *;generalize bs.length=L at *;go_enter Tryz.func31,Tryz.ntmps31
 go_wp2_with fail
 refine HN.out.mono ?_;rintro e w2 ⟨rfl,Qc⟩;have Qe:=yb (Qc.alloc Qc.size (.cells #[.int .i64 xk,.int .i64 f,.int .i64 t,.int .i64 xvk,.int .i64 xvn,.string xvb,.slice none 0 0,.string xb] 81));have Qg:=yb (zac (w:=w2) (b:=w2.heap.size) (.cells #[.int .i64 xk,.int .i64 f,.int .i64 t,.int .i64 xvk,.int .i64 xvn,.string xvb,.slice none 0 0,.string xb] 81) rfl);clear Qc HN
 go_upto_region 2 with fail
 obtain ⟨r2,Qj⟩:∃r2,r2=w2.heap.size:=⟨_,rfl⟩;rw [<-Qj] at Qg |-;clear Qj;generalize w2.alloc _=W2 at *;obtain ⟨⟨t0,t1,t2,t3,t4,t5,t6,t7⟩,-⟩:=zah Qg.out;have hR:=HR.out
 by_cases her:er=0
 case neg =>
  have e0:(er==0)=false:=by rw [yf];exact her
  have e1:(er != 0)=true:=by simp only [bne,e0,yj]
  rw [yg her] at hR;subst hR;clear HR her;go_wp2;go_ret2;exact ⟨rfl,Qe.out⟩
 subst her;rw [yh (by simp)] at hR
 by_cases hk:xk=0
 ·have e0:(xk==0)=true:=by rw [hk];rfl
  rw [yg hk] at hR;subst hR;clear HR hk;go_wp2;go_ret2;exact ⟨rfl,Qe.out⟩
 have e0:(xk==0)=false:=by rw [yf];exact hk
 rw [yh hk] at hR;have hq:=HQ.out;have hxw:=Zr.out
 by_cases h6:xk=6
 case neg =>
  have e6:(xk==6)=false:=by rw [yf];exact h6
  have e7:(xk != 6)=true:=by simp only [bne,e6,yj]
  rw [yg (by rw [hxw,e6];rfl)] at hR;subst hR;clear HR hk h6 hq hxw HQ Zr;go_wp2;go_ret2;exact ⟨rfl,Qe.out⟩
 have e6:(xk==6)=true:=by rw [h6];rfl
 have e7:(xk != 6)=false:=by simp only [bne,e6,Bool.not_true]
 by_cases hs:xs=s
 case neg =>
  rw [ye hs] at hq;have e8:(xb.toList != sb.toList)=true:=by simp only [bne,hq,yj]
  rw [yg (by rw [hxw,e6];simp [hs])] at hR;subst hR;clear HR hk h6 hxw HQ Zr hs;go_wp2;go_ret2;exact ⟨rfl,Qe.out⟩
 rw [yd hs] at hq;have e8:(xb.toList != sb.toList)=false:=by simp only [bne,hq,Bool.not_true]
 rw [yh (by rw [hxw,e6,hs];simp)] at hR;subst hR;clear HR hk h6 hxw HQ Zr hs;go_wp2;go_ret2;exact ⟨rfl,Qe.out⟩
theorem one_any {w:World} {a:Option Addr} {cap:Nat} {bs:List UInt8} (hr:Row w 1 a bs.length cap (bs.map u8C)) (hn:bs.length<=400000) (k:Int) (yq:Bool) (g:FuncId) (cb:Array Value) (p:Tk->Bool)
  (henter:∀args w,(callFunc g args).run Tryz.prog w=.ok (.enter g args) w)
  (hp:∀W,Below w.heap.size w W->∀x f t,Calls Tryz.prog g (#[.agg (tokN x f t)]++cb) W fun e w'=>e=.returned (.bool (p x))/\Below W.heap.size W w') :
  Calls Tryz.prog 58 #[.slice a bs.length cap,.int .i64 k,.bool yq,.func (.func g) #[] cb] w (OneEnd w (oneW p (zan bs k yq))):=by
 have HN:=yb (fun (W:World) (h:Below w.heap.size w W)=>zd6 (hr.mono h) hn k yq);obtain ⟨R,hR⟩:∃R,R=oneW p (zan bs k yq):=⟨_,rfl⟩;rw [<-hR];unfold oneW at hR;generalize zan bs k yq=V at *;obtain ⟨x,f,t,er⟩:=V;have HP:=yb (fun W h=>hp W h x f t);simp only at hR;unfold zaF tokN at HN;unfold tokN at HP;simp only at HN;have HR:=yb hR;clear hr hR hn hp;generalize p x=px at *;obtain ⟨xk,xvk,xvn,xvs,xs⟩:=x;simp only at HN HP HR;generalize bs.length=L at *;go_enter Tryz.func58,Tryz.ntmps58
 obtain ⟨B,hB⟩:∃B,B=w.heap.size:=⟨_,rfl⟩;have HZ:=yb (zac (w:=w) (b:=B) (.cells #[.int .i64 0,.int .i64 0,.int .i64 0,.int .i64 0,.int .i64 0,.string ⟨#[]⟩,.slice none 0 0,.string ⟨#[]⟩] 112) hB);have QH:=yb (zai w (.cells #[.int .i64 0,.int .i64 0,.int .i64 0,.int .i64 0,.int .i64 0,.string ⟨#[]⟩,.slice none 0 0,.string ⟨#[]⟩] 112));have Ql:=yb (Nat.le_of_eq hB.symm)
 go_upto_region 1 with fail
 rw [<-hB];clear hB;generalize w.alloc _=W1 at *;go_wp2_with fail
 refine (HN.out _ QH.out).mono ?_;rintro e w2 ⟨rfl,Qc⟩;have Qf:=Qc.alloc Qc.size (.cells #[.int .i64 xk,.int .i64 f,.int .i64 t,.int .i64 xvk,.int .i64 xvn,.string (mkB xvs),.slice none 0 0,.string (mkB xs)] 112);have Qe:=yo QH Qf;have Qg:=yb (zac (w:=w2) (b:=w2.heap.size) (.cells #[.int .i64 xk,.int .i64 f,.int .i64 t,.int .i64 xvk,.int .i64 xvn,.string (mkB xvs),.slice none 0 0,.string (mkB xs)] 112) rfl);have Qi:=yb (zab Qf HZ.out);clear Qc Qf HN HZ
 go_upto_region 2 with fail
 obtain ⟨r2,Qj⟩:∃r2,r2=w2.heap.size:=⟨_,rfl⟩;rw [<-Qj] at Qg |-;clear Qj;generalize w2.alloc _=W2 at *;obtain ⟨⟨t0,t1,t2,t3,t4,t5,t6,t7⟩,-⟩:=zah Qg.out;obtain ⟨⟨z0,z1,z2,z3,z4,z5,z6,z7⟩,zf0,zf1,zf2,zf3,zf4,zf5,zf6,zf7⟩:=zah Qi.out;have hR:=HR.out
 by_cases her:er=0
 case neg =>
  have e0:(er==0)=false:=by rw [yf];exact her
  have e1:(er != 0)=true:=by simp only [bne,e0,yj]
  rw [yg her] at hR;subst hR;clear HR her HP henter;go_wp2;refine yi (zaa rfl _ _ B 112 _ (0,0) _ rfl (by exact set8 Qi.out _ _ _ _ _ _ _ _) Tryz.underlying112 rfl (by exact zaO) _ rfl) rfl ?_;exact ⟨rfl,za9 Qe.out Ql.out _ _ _ _ _ _ _ _⟩
 subst her;rw [yh (by simp)] at hR
 by_cases hk:xk=0
 ·have e0:(xk==0)=true:=by rw [hk];rfl
  rw [yg hk] at hR;subst hR;clear HR hk HP henter;go_wp2;refine yi (zaa rfl _ _ B 112 _ (0,0) _ rfl (by exact set8 Qi.out _ _ _ _ _ _ _ _) Tryz.underlying112 rfl (by exact zaO) _ rfl) rfl ?_;exact ⟨rfl,za9 Qe.out Ql.out _ _ _ _ _ _ _ _⟩
 have e0:(xk==0)=false:=by rw [yf];exact hk
 rw [yh hk] at hR;clear HR;have HR:=yb hR;clear hR hk;go_wp2_with fail
 refine (HP.out _ Qe.out).mono ?_;rintro e w3 ⟨rfl,Qr⟩;have Qm:=yo Qe Qr;have Q4:=yb (zab Qr Qg.out);have Qy:=yb (zab Qr Qi.out);clear Qr HP henter t0 t1 t2 t3 t4 t5 t6 t7 z0 z1 z2 z3 z4 z5 z6 z7 zf0 zf1 zf2 zf3 zf4 zf5 zf6 zf7;obtain ⟨⟨t0,t1,t2,t3,t4,t5,t6,t7⟩,-⟩:=zah Q4.out;obtain ⟨⟨z0,z1,z2,z3,z4,z5,z6,z7⟩,zf0,zf1,zf2,zf3,zf4,zf5,zf6,zf7⟩:=zah Qy.out;have hR:=HR.out
 cases px with
 | false =>
  rw [yg rfl] at hR;subst hR;clear HR;go_wp2;refine yi (zaa rfl _ _ B 112 _ (0,0) _ rfl (by exact set8 Qy.out _ _ _ _ _ _ _ _) Tryz.underlying112 rfl (by exact zaO) _ rfl) rfl ?_;exact ⟨rfl,za9 Qm.out Ql.out _ _ _ _ _ _ _ _⟩
 | true =>
  rw [yh (by decide)] at hR;subst hR;clear HR;go_wp2;refine yi (zaa rfl _ _ B 112 _ (0,0) _ rfl (by exact set8 Qy.out _ _ _ _ _ _ _ _) Tryz.underlying112 rfl (by exact zaO) _ rfl) rfl ?_;exact ⟨rfl,za9 Qm.out Ql.out _ _ _ _ _ _ _ _⟩
theorem pword1_any {w:World} {b:Nat} {s:List UInt8} (hb:w.cell? ⟨b,0,none⟩=some (.string (mkB s))) (x:Tk) (f t:Int) :
  Calls Tryz.prog 59 #[.agg (tokN x f t),.pointer (some ⟨b,0,none⟩)] w fun e w'=>e=.returned (.bool (zfS s x))/\Below w.heap.size w w':=by
 have hq:((mkB x.s).toList==(mkB s).toList)=decide (x.s=s):=by rw [zaj s];exact zcl x.s s
 have hw:zfS s x=(x.kind==6&&decide (x.s=s)):=by unfold zfS;by_cases e:x.s=s<;>simp [e]
 rw [hw];unfold tokN;have Qc:=cell?_keep (zai w (.cells #[.int .i64 x.kind,.int .i64 f,.int .i64 t,.int .i64 x.vk,.int .i64 x.vn,.string (mkB x.vs),.slice none 0 0,.string (mkB x.s)] 112)) hb;generalize decide (x.s=s)=ds at *;clear hw;generalize x.kind=a0 at *;generalize x.vk=a1 at *;generalize x.vn=a2 at *;generalize mkB x.vs=s1 at *;generalize mkB x.s=s2 at *;generalize mkB s=s3 at *;have HK:=yb (zac (w:=w) (b:=w.heap.size) (.cells #[.int .i64 a0,.int .i64 f,.int .i64 t,.int .i64 a1,.int .i64 a2,.string s1,.slice none 0 0,.string s2] 112) rfl);have HB:=yb (zai w (.cells #[.int .i64 a0,.int .i64 f,.int .i64 t,.int .i64 a1,.int .i64 a2,.string s1,.slice none 0 0,.string s2] 112))
 cases h0:(a0==6)
 ·go_enter Tryz.func59,Tryz.ntmps59
  go_upto_region 1 with fail
  obtain ⟨r,hr⟩:∃r,r=w.heap.size:=⟨_,rfl⟩;rw [<-hr] at HK |-;clear hr;generalize w.alloc _=W1 at *;obtain ⟨⟨k0,k1,k2,k3,k4,k5,k6,k7⟩,-⟩:=zah HK.out;go_wp2;go_ret;exact ⟨rfl,HB.out⟩
 ·cases ds
  ·go_enter Tryz.func59,Tryz.ntmps59
   go_upto_region 1 with fail
   obtain ⟨r,hr⟩:∃r,r=w.heap.size:=⟨_,rfl⟩;rw [<-hr] at HK |-;clear hr;generalize w.alloc _=W1 at *;obtain ⟨⟨k0,k1,k2,k3,k4,k5,k6,k7⟩,-⟩:=zah HK.out;go_wp2;go_ret;exact ⟨rfl,HB.out⟩
  ·go_enter Tryz.func59,Tryz.ntmps59
   go_upto_region 1 with fail
   obtain ⟨r,hr⟩:∃r,r=w.heap.size:=⟨_,rfl⟩;rw [<-hr] at HK |-;clear hr;generalize w.alloc _=W1 at *;obtain ⟨⟨k0,k1,k2,k3,k4,k5,k6,k7⟩,-⟩:=zah HK.out;go_wp2;go_ret;exact ⟨rfl,HB.out⟩
theorem pword12_any {w:World} {a:Option Addr} {cap:Nat} {bs:List UInt8} (hr:Row w 1 a bs.length cap (bs.map u8C)) (hn:bs.length<=400000) (k:Int) (yq:Bool) (s:List UInt8) :
  Calls Tryz.prog 28 #[.slice a bs.length cap,.int .i64 k,.bool yq,.string (mkB s)] w (zdv w (oneW (zfS s) (zan bs k yq))):=by
 have ZQ:=zai w (.cells #[.string (mkB s)] 9);have Yl:=zac (w:=w) (b:=w.heap.size) (.cells #[.string (mkB s)] 9) rfl;have Ym:(w.alloc (.cells #[.string (mkB s)] 9)).cell? ⟨w.heap.size,0,none⟩=some (.string (mkB s)):=by rw [cell_of_row _ _ 0 _ _ _ Yl];rfl
 have HO:=yb (one_any (hr.mono ZQ) hn k yq 59 #[.pointer (some ⟨w.heap.size,0,none⟩)] (zfS s) (enters_of Tryz.func59 (by kernel_rfl) rfl) (fun W hW x f t=>pword1_any (cell?_keep hW Ym) x f t));have QH:=yb ZQ;generalize oneW (zfS s) (zan bs k yq)=R at *;obtain ⟨x,f,t,er⟩:=R;unfold OneEnd tokN at HO;unfold zdv;simp only at HO |-;clear hr hn ZQ Yl Ym;generalize x.kind=xk at *;generalize x.vk=xvk at *;generalize x.vn=xvn at *;generalize mkB x.vs=xvb at *;generalize mkB x.s=xb at *;generalize bs.length=L at *;generalize mkB s=sb at *;go_enter Tryz.func28,Tryz.ntmps28
 go_upto_region 1 with fail
 obtain ⟨B,hB⟩:∃B,B=w.heap.size:=⟨_,rfl⟩;rw [<-hB] at HO |-;have Ql:=yb (Nat.le_of_eq hB.symm);clear hB;generalize w.alloc _=W1 at *;go_wp2_with fail
 refine HO.out.mono ?_;rintro e w2 ⟨rfl,Qc⟩;have Qe:=yb (QH.out.trans ((Qc.alloc Qc.size (.cells #[.int .i64 xk,.int .i64 f,.int .i64 t,.int .i64 xvk,.int .i64 xvn,.string xvb,.slice none 0 0,.string xb] 112)).mono QH.out.size));have Qg:=yb (zac (w:=w2) (b:=w2.heap.size) (.cells #[.int .i64 xk,.int .i64 f,.int .i64 t,.int .i64 xvk,.int .i64 xvn,.string xvb,.slice none 0 0,.string xb] 112) rfl);clear Qc HO
 go_upto_region 2 with fail
 obtain ⟨r2,Qj⟩:∃r2,r2=w2.heap.size:=⟨_,rfl⟩;rw [<-Qj] at Qg |-;clear Qj;generalize w2.alloc _=W2 at *;obtain ⟨⟨t0,t1,t2,t3,t4,t5,t6,t7⟩,-⟩:=zah Qg.out;go_wp2;go_ret2;exact ⟨rfl,Qe.out⟩
theorem oneX_le {bs:List UInt8} {yq:Bool} {k:Int} {p:Tk->Bool} (h:(oneX p (zan bs k yq)).2=0):0<=(oneX p (zan bs k yq)).1/\(oneX p (zan bs k yq)).1<=bs.length:=by
 by_cases hk:k<0\/(bs.length:Int)<k
 ·unfold oneX zan at h
  rw [yg hk] at h;simp at h
 ·obtain ⟨h1,h2⟩:=zbr (bs:=bs) (k:=k) yq (by omega) (by omega)
  unfold oneX at h |-
  split
  ·exact ⟨Int.le_refl _,by show (0:Int)<=_;omega⟩
  ·split
   ·exact ⟨Int.le_refl _,by show (0:Int)<=_;omega⟩
   ·split
    ·exact ⟨Int.le_refl _,by show (0:Int)<=_;omega⟩
    ·exact ⟨by show (0:Int)<=(zan bs k yq).2.2.1;omega,h2⟩
theorem grps_le {bs:List UInt8} {yq:Bool}:∀(g:Nat) (gs:List Grp) (k:Int),gs.length+g=65->0<=k->k<=bs.length->0<=(zb7 bs yq g gs k).2.1/\(zb7 bs yq g gs k).2.1<=bs.length
 | 0,_,_,_,_,_=>⟨Int.le_refl _,by show (0:Int)<=_;omega⟩
 | g+1,gs,k,hg,h0,h1=>by
  have QC:=zbr (bs:=bs) (k:=k) yq h0 h1;rw [<-nxt_3] at QC
  by_cases he:(nxtV bs yq k).2.2.2=0
  case neg=>rw [zhK he];exact ⟨Int.le_refl _,by show (0:Int)<=_;omega⟩
  cases ht:zdU (nxtV bs yq k).1 with
  | true=>rw [zeQ he ht];exact ⟨by show (0:Int)<=(nxtV bs yq k).2.2.1;omega,QC.2⟩
  | false =>
   by_cases hl:gs.length=64
   ·cases hw:zaN (nxtV bs yq k).1 with
    | false=>rw [grps_bad he ht hw];exact ⟨Int.le_refl _,by show (0:Int)<=_;omega⟩
    | true=>rw [grps_full he ht hw hl];exact ⟨Int.le_refl _,by show (0:Int)<=_;omega⟩
   ·rw [grps_step he ht hl]
    split
    ·exact ⟨Int.le_refl _,by show (0:Int)<=_;omega⟩
    ·obtain ⟨g1,g2⟩:=grp1_le (bs:=bs) (yq:=yq) (x:=(nxtV bs yq k).1) (k:=(nxtV bs yq k).2.2.1) (by omega) QC.2
     exact grps_le g _ _ (by rw [List.length_append];simp;omega) g1 g2
theorem oneW_X (p:Tk->Bool) (V:Tk×Int×Int×Int):(oneW p V).2.2.1=(oneX p V).1/\(oneW p V).2.2.2=(oneX p V).2:=by
 unfold oneW oneX
 split
 ·exact ⟨rfl,rfl⟩
 ·split
  ·exact ⟨rfl,rfl⟩
  ·split
   ·exact ⟨rfl,rfl⟩
   ·exact ⟨rfl,rfl⟩
theorem set5 {w:World} {b:Nat} {x0 x1 x2 x3 x4:Value} {t:TypeId} (h:w.heap[b]?=some (.cells #[x0,x1,x2,x3,x4] t (0,0))) (y0 y1 y2 y3 y4:Value) :
  (((((w.setCell ⟨b,0,none⟩ y0).setCell ⟨b,1,none⟩ y1).setCell ⟨b,2,none⟩ y2).setCell ⟨b,3,none⟩ y3).setCell ⟨b,4,none⟩ y4).heap[b]?=some (.cells #[y0,y1,y2,y3,y4] t (0,0)):=by
 rw [heap_setCell_same _ _ 4 _ _ _ (heap_setCell_same _ _ 3 _ _ _ (heap_setCell_same _ _ 2 _ _ _ (heap_setCell_same _ _ 1 _ _ _ (heap_setCell_same w _ 0 _ _ _ h))))];rfl
theorem zc1 {B:Nat} {w0 w:World} (h:Below B w0 w) {b:Nat} (hb:B<=b) (y0 y1 y2 y3 y4:Value):Below B w0 (((((w.setCell ⟨b,0,none⟩ y0).setCell ⟨b,1,none⟩ y1).setCell ⟨b,2,none⟩ y2).setCell ⟨b,3,none⟩ y3).setCell ⟨b,4,none⟩ y4) :=
 ((((h.setCell hb _).setCell hb _).setCell hb _).setCell hb _).setCell hb _
theorem zaW {w:World} {b:Nat} {x0 x1 x2 x3 x4:Value} {t:TypeId} (h:w.heap[b]?=some (.cells #[x0,x1,x2,x3,x4] t (0,0))) :
  (w.cell? ⟨b,0,none⟩=some x0/\w.cell? ⟨b,1,none⟩=some x1/\w.cell? ⟨b,2,none⟩=some x2/\w.cell? ⟨b,3,none⟩=some x3/\w.cell? ⟨b,4,none⟩=some x4) /\
  (w.frozen? ⟨b,0,none⟩=false/\w.frozen? ⟨b,1,none⟩=false/\w.frozen? ⟨b,2,none⟩=false/\w.frozen? ⟨b,3,none⟩=false/\w.frozen? ⟨b,4,none⟩=false):=by
 refine ⟨⟨?_,?_,?_,?_,?_⟩,frozen_of_row w b 0 _ _ h,frozen_of_row w b 1 _ _ h,frozen_of_row w b 2 _ _ h,frozen_of_row w b 3 _ _ h,frozen_of_row w b 4 _ _ h⟩
 ·rw [cell_of_row w b 0 _ _ _ h];rfl
 ·rw [cell_of_row w b 1 _ _ _ h];rfl
 ·rw [cell_of_row w b 2 _ _ _ h];rfl
 ·rw [cell_of_row w b 3 _ _ _ h];rfl
 ·rw [cell_of_row w b 4 _ _ _ h];rfl
theorem sec_set5 {W:World} {s:Sec} {gv sl:Value} {B r:Nat} (h:zcj W (fun b=>B<=b) s gv sl) (hr:r<B) (y0 y1 y2 y3 y4:Value) :
  zcj (((((W.setCell ⟨r,0,none⟩ y0).setCell ⟨r,1,none⟩ y1).setCell ⟨r,2,none⟩ y2).setCell ⟨r,3,none⟩ y3).setCell ⟨r,4,none⟩ y4) (fun b=>B<=b) s gv sl :=
 h.keep ⟨by simp [World.setCell],fun b _ hF=>by
  have hb:b≠r:=by omega
  rw [heap_setCell_other _ _ _ _ hb,heap_setCell_other _ _ _ _ hb,heap_setCell_other _ _ _ _ hb,heap_setCell_other _ _ _ _ hb,heap_setCell_other _ _ _ _ hb]⟩ (fun _ h=>h)
theorem zgj:(Tryz.prog.info? 34).map (·.size)=some 5:=by kernel_rfl
def zfF (w:World) (V:Sec×Int×Int) (e:Ending) (w':World):Prop :=
 ∃gv sl,e=.returned (.tuple #[secA V.1 gv sl,.int .i64 V.2.1,.int .i64 V.2.2])/\zcj w' (fun b=>w.heap.size<=b) V.1 gv sl/\Below w.heap.size w w'
theorem zha {w W:World} {V:Sec×Int×Int} {e:Int} (hV:V=(Sec.none,0,e)) {r:Nat} (hb:Below w.heap.size w W) (hr:w.heap.size<=r) (y0 y1 y2 y3 y4:Value) :
  zfF w V (.returned (.tuple #[.agg #[.slice none 0 0,.int .i64 0,.int .i64 0,.string ⟨#[]⟩,.slice none 0 0],.int .i64 0,.int .i64 e])) (((((W.setCell ⟨r,0,none⟩ y0).setCell ⟨r,1,none⟩ y1).setCell ⟨r,2,none⟩ y2).setCell ⟨r,3,none⟩ y3).setCell ⟨r,4,none⟩ y4):=by
 subst hV;exact ⟨_,_,rfl,isSec_none _ _,zc1 hb hr _ _ _ _ _⟩
theorem zg4 {w:World} {a:Option Addr} {cap:Nat} {bs:List UInt8} (hr:Row w 1 a bs.length cap (bs.map u8C)) (hn:bs.length<=390000) (k:Int) (yq:Bool) :
  Calls Tryz.prog 10 #[.slice a bs.length cap,.int .i64 k,.bool yq] w (zfF w (secV bs yq k)):=by
 have HW:=yb (fun (W:World) (h:Below w.heap.size w W)=>pword12_any (hr.mono h) (by omega) k yq [120,114,101,102]);have ZR:=yb (fun h=>oneX_le (bs:=bs) (yq:=yq) (k:=k) (p:=zgE) h);obtain ⟨o1,o2⟩:=oneW_X zgE (zan bs k yq);unfold zdv at HW;rw [show zfS [120,114,101,102]=zgE from rfl,o1,o2] at HW;clear o1 o2;obtain ⟨V,hV⟩:∃V,V=secV bs yq k:=⟨_,rfl⟩;rw [<-hV];unfold secV at hV;simp only at hV;generalize oneX zgE (zan bs k yq)=O at *;obtain ⟨ot,oe⟩:=O;simp only at hV HW ZR;have Q3:=yb (fun (W:World) (w0:World) (p:Nat) (h:IsRd w0 W p a cap bs yq ot) (h1:0<=ot) (h2:ot<=bs.length)=>xgroups_any h h1 h2);have QG:=yb (fun (h1:0<=ot) (h2:ot<=bs.length)=>grps_le (bs:=bs) (yq:=yq) 65 [] ot rfl h1 h2);generalize zb7 bs yq 65 [] ot=G at *;obtain ⟨gs,gt,ge⟩:=G;unfold GsEnd at Q3;simp only at hV Q3 QG;have Zs:=yb (fun (W:World) (h:Below w.heap.size w W) (h1:0<=gt) (h2:gt<=bs.length)=>show Calls Tryz.prog 30 #[.slice a bs.length cap,.int .i64 gt,.bool yq] W (zca W (zch bs yq gt)) from value_any (hr.mono h) (by omega) gt yq _ (parse_doc h1 h2));generalize zch bs yq gt=P at *;obtain ⟨x,xt,xe⟩:=P;unfold zca at Zs;simp only at hV Zs;have HV:=yb hV;have Y8:=yb hr;clear hV hr;obtain ⟨r,hr⟩:∃r,r=w.heap.size:=⟨_,rfl⟩;have Zt:=yb (zac (w:=w) (b:=r) (.cells #[.slice none 0 0,.int .i64 0,.int .i64 0,.string ⟨#[]⟩,.slice none 0 0] 34) hr);have QI:=yb (zai w (.cells #[.slice none 0 0,.int .i64 0,.int .i64 0,.string ⟨#[]⟩,.slice none 0 0] 34));have Qp:=yb (Nat.le_of_eq hr.symm);go_enter Tryz.func10,Tryz.ntmps10
 go_upto_region 1 with fail
 rw [<-hr];clear hr;generalize w.alloc _=W1 at *;go_wp2_with fail
 refine (HW.out _ QI.out).mono ?_;rintro e w2 ⟨rfl,Qc⟩;have Qi:=yb (zab Qc Zt.out);have Qe:=yo QI Qc;clear Zt QI HW Qc;obtain ⟨⟨z0,z1,z2,z3,z4⟩,y0,y1,y2,y3,y4⟩:=zaW Qi.out
 by_cases hoe:oe=0
 case neg =>
  have Zi:=yb (HV.out.trans (yg hoe));have e0:(oe==0)=false:=by rw [yf];exact hoe
  have e1:(oe != 0)=true:=by simp only [bne,e0,yj]
  clear hoe;go_wp2;refine yi (zaf rfl _ _ r 34 _ (0,0) _ rfl (by exact set5 Qi.out _ _ _ _ _) Tryz.underlying34 rfl (by exact zgj) _ _ rfl rfl) rfl ?_;exact zha Zi.out Qe.out Qp.out _ _ _ _ _
 subst hoe;have Zi:=yb (HV.out.trans (yh (by simp)));obtain ⟨Yn,Yo⟩:=ZR.out rfl;have HO:=yb (And.intro Yn Yo);clear HV ZR Yn Yo;have Yp:=yb (show IsRd w2 (w2.alloc (.cells #[.slice a bs.length cap,.int .i64 ot,.bool yq] 73)) w2.heap.size a cap bs yq ot from ⟨zac _ rfl,yp _,Y8.out.mono Qe.out,zai _ _,by omega⟩);have Qy:=yb (zal (.cells #[.slice a bs.length cap,.int .i64 ot,.bool yq] 73) Qi.out);have Qm:=yb (Qe.out.alloc Qe.out.size (.cells #[.slice a bs.length cap,.int .i64 ot,.bool yq] 73));have Y9:=yb (show r≠w2.heap.size by have:=zam Qi.out;omega);clear Qi z0 z1 z2 z3 z4 y0 y1 y2 y3 y4
 go_upto_region 5 with fail
 have Xa:=yb Qe.out.size;generalize w2.heap.size=p at *;generalize World.alloc _ _=W3 at *;go_wp2_with fail
 refine (Q3.out _ _ _ Yp.out HO.out.1 HO.out.2).mono ?_;rintro e w4 ⟨gv,rfl,Yq,⟨at2,Yr,Qn⟩,Q1⟩;have Zj:=yb (Q1.obj Qy.out Y9.out);have QA:=yb (Qm.out.trans (Q1.below (B:=w.heap.size) Qm.out.size (fun b hb=>by rw [hb];exact Xa.out)));have Ys:=yb Yr;have Q2:=yb Yq;have HAT:=yb Qn;have Xb:=yb (show w.heap.size<=W3.heap.size/\r<W3.heap.size from ⟨Qm.out.size,zam Qy.out⟩);clear Qy Qm Yp Q1 Yr Yq Qn Q3;obtain ⟨⟨z0,z1,z2,z3,z4⟩,y0,y1,y2,y3,y4⟩:=zaW Zj.out;obtain ⟨⟨c0,c1,c2⟩,f0,f1,f2⟩:=Ys.out.cells
 by_cases hge:ge=0
 case neg =>
  have Qq:=yb (Zi.out.trans (yg hge));have e0:(ge==0)=false:=by rw [yf];exact hge
  have e1:(ge != 0)=true:=by simp only [bne,e0,yj]
  clear hge;go_wp2;refine yi (zaf rfl _ _ r 34 _ (0,0) _ rfl (by exact set5 Zj.out _ _ _ _ _) Tryz.underlying34 rfl (by exact zgj) _ _ rfl rfl) rfl ?_;exact zha Qq.out QA.out Qp.out _ _ _ _ _
 subst hge;have Qq:=yb (Zi.out.trans (yh (by simp)));obtain rfl:at2=gt:=HAT.out rfl;have Yt:=yb (QG.out HO.out.1 HO.out.2);obtain ⟨ga,gc,rfl,-,-,-⟩:=Q2.out.len;clear Zi HAT QG;go_wp2_with fail
 refine (Zs.out _ QA.out Yt.out.1 Yt.out.2).mono ?_;rintro e w5 ⟨sl,rfl,ZS,QF⟩;obtain ⟨sa,sc,rfl,-,-,-⟩:=ZS.len;simp only [pvA];have QD:=QF.alloc QF.size (.cells #[.int .i64 x.kind,.int .i64 x.n,.string (mkB x.s),.slice sa x.l.length sc] 25);have Q5:=yb (zac (w:=w5) (b:=w5.heap.size) (.cells #[.int .i64 x.kind,.int .i64 x.n,.string (mkB x.s),.slice sa x.l.length sc] 25) rfl);have Zu:=yb (ZS.below (zai w5 (.cells #[.int .i64 x.kind,.int .i64 x.n,.string (mkB x.s),.slice sa x.l.length sc] 25)));have HG5:=yb (Q2.out.below QD);have Zv:=yb (zab QD Zj.out);have Zf:=yo QA QD;have Xc:=yb (show w.heap.size<=w4.heap.size/\r<w4.heap.size from ⟨QA.out.size,zam Zj.out⟩);clear QF QD ZS Zs Zj QA Q2 Ys z0 z1 z2 z3 z4 y0 y1 y2 y3 y4 c0 c1 c2 f0 f1 f2
 go_upto_region 9 with fail
 generalize w5.heap.size=T at *;generalize World.alloc _ _=W5 at *;obtain ⟨⟨t0,t1,t2,t3⟩,-⟩:=zad Q5.out;obtain ⟨⟨z0,z1,z2,z3,z4⟩,y0,y1,y2,y3,y4⟩:=zaW Zv.out
 by_cases hxe:xe=0
 case neg =>
  have Qs:=yb (Qq.out.trans (yg hxe));have e0:(xe==0)=false:=by rw [yf];exact hxe
  have e1:(xe != 0)=true:=by simp only [bne,e0,yj]
  clear hxe Zu HG5;go_wp2;refine yi (zaf rfl _ _ r 34 _ (0,0) _ rfl (by exact set5 Zv.out _ _ _ _ _) Tryz.underlying34 rfl (by exact zgj) _ _ rfl rfl) rfl ?_;exact zha Qs.out Zf.out Qp.out _ _ _ _ _
 subst hxe;have Qs:=yb (Qq.out.trans (yh (by simp)));clear Qq
 by_cases hxk:x.kind=7
 case neg =>
  have Qx:=yb (Qs.out.trans (yg hxk));have e0:(x.kind==7)=false:=by rw [yf];exact hxk
  have e1:(x.kind != 7)=true:=by simp only [bne,e0,yj]
  clear hxk Zu HG5 Qs;generalize x.kind=xk at *;go_wp2;refine yi (zaf rfl _ _ r 34 _ (0,0) _ rfl (by exact set5 Zv.out _ _ _ _ _) Tryz.underlying34 rfl (by exact zgj) _ _ rfl rfl) rfl ?_;exact zha Qx.out Zf.out Qp.out _ _ _ _ _
 have Qx:=yb (Qs.out.trans (yh (fun h=>h hxk)));have e0:(x.kind==7)=true:=by rw [beq_iff_eq];exact hxk
 have e1:(x.kind != 7)=false:=by simp only [bne,e0,Bool.not_true]
 clear hxk Qs;have Yu:=yb (show zcj W5 (fun b=>W3.heap.size<=b\/w4.heap.size<=b) ⟨gs,x⟩ (.slice ga gs.length gc) (.slice sa x.l.length sc) from ⟨HG5.out.keep (zaU.refl _ _) (fun b hb=>.inl hb),Zu.out.weaken (fun b hb=>.inr hb)⟩);have ZK:=yb (fun y0 y1 y2 y3 y4=>sec_set5 (s:=⟨gs,x⟩) (gv:=.slice ga gs.length gc) (sl:=.slice sa x.l.length sc) (B:=r+1) (Yu.out.keep (zaU.refl _ _) (fun b hb=>by have:=Xb.out.2;have:=Xc.out.2;show r+1<=b;omega)) (Nat.lt_succ_self r) y0 y1 y2 y3 y4);clear Zu HG5 Yu;have Xd:=yb (show secA ⟨gs,x⟩ (.slice ga gs.length gc) (.slice sa x.l.length sc)=.agg #[.slice ga gs.length gc,.int .i64 x.kind,.int .i64 x.n,.string (mkB x.s),.slice sa x.l.length sc] from rfl);generalize x.kind=xk at *;generalize x.n=xn at *;generalize mkB x.s=xb at *;go_wp2;refine yi (zaf rfl _ _ r 34 _ (0,0) _ rfl (by exact set5 Zv.out _ _ _ _ _) Tryz.underlying34 rfl (by exact zgj) _ _ rfl rfl) rfl ?_;rw [Qx.out];refine ⟨.slice ga gs.length gc,.slice sa x.l.length sc,by rw [Xd.out];rfl,?_,zc1 Zf.out Qp.out _ _ _ _ _⟩;exact (ZK.out _ _ _ _ _).keep (zaU.refl _ _) (fun b hb=>by have:=Qp.out;show w.heap.size<=b;omega)
theorem find_go {gs:List Grp} {c:Nat} {g:Grp} {n:Int} (hg:gs[c]?=some g) (h:¬(g.first<=n/\n-g.first<(g.es.length:Int))):zfn (gs.drop c) n=zfn (gs.drop (c+1)) n:=by
 obtain ⟨hc,rfl⟩:=List.getElem?_eq_some_iff.1 hg;rw [List.drop_eq_getElem_cons hc,zfn,yh h]
theorem find_hit {gs:List Grp} {c:Nat} {g:Grp} {n:Int} (hg:gs[c]?=some g) (h:g.first<=n/\n-g.first<(g.es.length:Int)):zfn (gs.drop c) n=some (g.es.getD (n-g.first).toNat {}):=by
 obtain ⟨hc,rfl⟩:=List.getElem?_eq_some_iff.1 hg;rw [List.drop_eq_getElem_cons hc,zfn,yg h]
def smallG (gs:List Grp):Prop:=∀g∈gs,-2000000000000000000<=g.first/\g.first<=2000000000000000000/\g.es.length<=100000
theorem xfind_any {w:World} {F:Nat->Prop} {s:Sec} {gv sl:Value} (h:zcj w F s gv sl) (n:Int) (hs:smallG s.gs) (hn0:-2000000000000000000<=n) (hn1:n<=2000000000000000000) :
  Calls Tryz.prog 21 #[secA s gv sl,.int .i64 n] w fun e w'=>e=.returned (.tuple #[entA (findP (zfn s.gs n)).1,.bool (findP (zfn s.gs n)).2])/\Below w.heap.size w w':=by
 obtain ⟨gs,x⟩:=s;simp only at hs |-;obtain ⟨ga,gc,rfl,Yk,Xe,-⟩:=h.1.len;simp only at Yk;obtain ⟨V,hV⟩:∃V,V=zfn gs n:=⟨_,rfl⟩;rw [<-hV];have HV:=yb hV;have HS:=yb hs;have Yv:=yb (fun (W:World) (hb:Below w.heap.size w W)=>(h.1.below hb));simp only at Yv;clear hV hs;unfold secA;simp only;obtain ⟨sa,sc,rfl,-,-,-⟩:=h.2.len;simp only at h |-;clear h;have Xf:(gs.length:Int)<=9223372036854775807:=by unfold maxLen at Xe;omega
 generalize x.kind=xk at *;generalize x.n=xn at *;generalize mkB x.s=xb at *;generalize x.l.length=xl at *;obtain ⟨B,hB⟩:∃B,B=w.heap.size:=⟨_,rfl⟩;have QI:=yb (za6 w (.cells #[.slice ga gs.length gc,.int .i64 xk,.int .i64 xn,.string xb,.slice sa xl sc] 34) (.cells #[.int .i64 0,.int .i64 0,.bool false] 45));have Yw:=yb (zal (w:=w.alloc (.cells #[.slice ga gs.length gc,.int .i64 xk,.int .i64 xn,.string xb,.slice sa xl sc] 34)) (.cells #[.int .i64 0,.int .i64 0,.bool false] 45) (zac (w:=w) (b:=B) (.cells #[.slice ga gs.length gc,.int .i64 xk,.int .i64 xn,.string xb,.slice sa xl sc] 34) hB));have Zt:=yb (zac (w:=w.alloc (.cells #[.slice ga gs.length gc,.int .i64 xk,.int .i64 xn,.string xb,.slice sa xl sc] 34)) (b:=B+1) (.cells #[.int .i64 0,.int .i64 0,.bool false] 45) (by rw [zaq,hB]));have Qp:=yb (show w.heap.size<=B+1 by omega);go_enter Tryz.func21,Tryz.ntmps21
 go_upto_region 1 with fail
 try rw [<-hB]
 generalize World.alloc _ _=W1 at *;clear hB;generalize B+1=r at *;obtain ⟨⟨x0,x1,x2,x3,x4⟩,-⟩:=zaW Yw.out;go_wp2_with fail
 clear x0 x1 x2 x3 x4 Yw
 go_loopw [11] (fun v wr=>∃c:Nat,v=.int .i64 c/\c<=gs.length/\Hid (Below w.heap.size w wr)/\Hid (wr.heap[r]?=some (.cells #[.int .i64 0,.int .i64 0,.bool false] 45 (0,0)))/\Hid (V=zfn (gs.drop c) n)) (fun v _=>gs.length-(intOf v).toNat)
 case atStart=>exact ⟨0,rfl,Nat.zero_le _,QI,Zt,HV⟩
 case round =>
  obtain ⟨c,rfl,hc,HB,HZ,HQ⟩:=hrel
  by_cases hlt:c<gs.length
  ·have Xg:decide ((c:Int)<(gs.length:Int))=true:=by simp;omega
   have ZT:decide (c<gs.length)=true:=by simp;omega
   obtain ⟨-,-,-,b,off,ha,-,-,Qn⟩:=(Yv.out wr HB.out).at (by omega);subst ha;obtain ⟨g,hg⟩:∃g,gs[c]?=some g:=⟨_,List.getElem?_eq_getElem hlt⟩;obtain ⟨v,hv,g0,g1⟩:=Qn c g hg;obtain ⟨ea,ec,rfl,XR,Xh,-⟩:=hv.len;obtain ⟨QP,Q0,-⟩:=HS.out g (List.mem_of_getElem? hg);have Yx:=yb hv;have ZU:=yb (fun h=>HQ.out.trans (find_go hg h));have Yy:=yb (fun h=>HQ.out.trans (find_hit hg h));have Xi:(g.es.length:Int)<=9223372036854775807:=by unfold maxLen at Xh;omega
   clear Qn hv hg HQ;obtain ⟨gf,ge⟩:=g;simp only at *;have Zg:=yb (HB.out.alloc HB.out.size (.cells #[.int .i64 gf,.slice ea ge.length ec] 58));have Zw:=yb (zal (.cells #[.int .i64 gf,.slice ea ge.length ec] 58) HZ.out)
   by_cases h1:gf<=n
   case neg =>
    have QE:=yb (ZU.out (fun h=>h1 h.1));have hd:decide (gf<=n)=false:=ye h1;go_wp2
    go_roundw
    case rel=>exact ⟨c+1,by go_num,by omega,Zg,Zw,QE⟩
    case measure=>simp [intOf];omega
   obtain ⟨m,hm⟩:∃m:Nat,n-gf=(m:Int):=⟨(n-gf).toNat,by omega⟩;have hd:decide (gf<=n)=true:=yd h1
   by_cases h2:m<ge.length
   case neg =>
    have QE:=yb (ZU.out (fun h=>h2 (by omega)));have Zy:decide (m<ge.length)=false:=ye h2;have Z1:decide ((m:Int)<(ge.length:Int))=false:=ye (by omega);go_wp2
    go_roundw
    case rel=>exact ⟨c+1,by go_num,by omega,Zg,Zw,QE⟩
    case measure=>simp [intOf];omega
   have QE:=yb (Yy.out ⟨h1,by omega⟩);rw [hm,Int.toNat_natCast] at QE;obtain ⟨-,-,-,be,oe,Xj,XS,-,Zk⟩:=Yx.out.at (by omega);subst Xj;obtain ⟨ee,ZV⟩:∃ee,ge[m]?=some ee:=⟨_,List.getElem?_eq_getElem h2⟩;obtain ⟨e0,e1,e2⟩:=Zk m ee ZV;have Yz:=yb (show ge.getD m {}=ee by rw [List.getD_eq_getElem?_getD,ZV];rfl);rw [Yz.out] at QE;have Zy:decide (m<ge.length)=true:=yd h2;have Z1:decide ((m:Int)<(ge.length:Int))=true:=yd (by omega);clear Zk ZV Yz Yx ZU Yy;have e0:=zbq (.cells #[.int .i64 gf,.slice (some ⟨be,oe,none⟩) ge.length ec] 58) e0;have e1:=zbq (.cells #[.int .i64 gf,.slice (some ⟨be,oe,none⟩) ge.length ec] 58) e1;have e2:=zbq (.cells #[.int .i64 gf,.slice (some ⟨be,oe,none⟩) ge.length ec] 58) e2;obtain ⟨⟨z0,z1,z2⟩,y0,y1,y2⟩:=zcL Zw.out;go_wp2;refine yi (zaa rfl _ _ r 45 _ (0,0) _ rfl (by exact set3a Zw.out _ _ _) Tryz.underlying45 rfl (by exact zdB) _ rfl) rfl ?_;rw [QE.out];exact ⟨rfl,((Zg.out.setCell Qp.out _).setCell Qp.out _).setCell Qp.out _⟩
  ·have YA:c=gs.length:=by omega
   have Xg:decide ((c:Int)<(gs.length:Int))=false:=ye (by omega);have ZT:decide (c<gs.length)=false:=ye (by omega);have QE:=yb (HQ.out.trans (show zfn (gs.drop c) n=none by rw [YA,List.drop_length];rfl));obtain ⟨⟨z0,z1,z2⟩,y0,y1,y2⟩:=zcL HZ.out;clear YA;go_wp2;refine yi (zaa rfl _ _ r 45 _ (0,0) _ rfl (by exact set3a HZ.out _ _ _) Tryz.underlying45 rfl (by exact zdB) _ rfl) rfl ?_;rw [QE.out];exact ⟨rfl,((HB.out.setCell Qp.out _).setCell Qp.out _).setCell Qp.out _⟩
def sgB:ByteArray:=⟨#[48,49,50,51,52,53,54,55,56,57,97,98,99,100,101,102]⟩
theorem sg_at:∀(k:Nat) (h:k<sgB.size),(sgB[k]'h).toNat=(hexG k).toNat:=by
 have:∀d:Fin 16,(sgB[d.1]'d.2).toNat=(hexG d.1).toNat:=by decide
 exact fun k h=>this ⟨k,h⟩
theorem sgI (x:Int) (k:Nat) (hx:x.toNat=k) {h:x.toNat<(⟨#[48,49,50,51,52,53,54,55,56,57,97,98,99,100,101,102]⟩:ByteArray).size} :
  (((⟨#[48,49,50,51,52,53,54,55,56,57,97,98,99,100,101,102]⟩:ByteArray)[x.toNat]'h).toNat:Int)=((hexG k).toNat:Int):=by subst hx;exact congrArg Int.ofNat (sg_at _ h)
theorem u8_and15 (n:Nat) (_h:n<256):bits .and .u8 (n:Int) 15=((n % 16:Nat):Int):=by
 have h7:(BitVec.ofInt 8 15).toNat=2 ^ 4-1:=by decide
 have key:(BitVec.ofInt 8 (n:Int) &&& BitVec.ofInt 8 15).toNat=((n:Int) % ((2 ^ 8:Nat):Int)).toNat % 2 ^ 4:=by
  rw [BitVec.toNat_and,BitVec.toNat_ofInt,h7,Nat.and_two_pow_sub_one_eq_mod]
 show IntKind.u8.wrap ((BitVec.ofInt 8 (n:Int) &&& BitVec.ofInt 8 15).toNat:Nat)=_;rw [key,IntKind.wrap_u8];omega
theorem sg_n (q:Nat) {h:q<(⟨#[48,49,50,51,52,53,54,55,56,57,97,98,99,100,101,102]⟩:ByteArray).size} :
  (((⟨#[48,49,50,51,52,53,54,55,56,57,97,98,99,100,101,102]⟩:ByteArray)[q]'h).toNat:Int)=((hexG q).toNat:Int):=congrArg Int.ofNat (sg_at q h)
def chF (c:UInt8):List UInt8:=if c.toNat<33\/126<c.toNat\/c=35\/isDl c=true then 35::hexB c else [c]
theorem ze4:∀ {l:List UInt8} {k:Nat} {c:UInt8},l[k]?=some c->zby (l.take (k+1))=zby (l.take k)++chF c
 | [],_,_,h=>by cases h
 | x::l,0,c,h=>by
  have e:x=c:=by simpa using h
  subst e;simp [zby,chF]
 | x::l,k+1,c,h=>by
  have:=ze4 (l:=l) (k:=k) (c:=c) (by simpa using h);simp only [List.take_succ_cons,zby,this,List.append_assoc]
theorem zdz:∀l:List UInt8,(zby l).length<=3*l.length
 | []=>yp _
 | c::l=>by
  have:=zdz l;simp only [zby,List.length_append,List.length_cons]
  split
  ·simp [hexB];omega
  ·simp;omega
theorem zfQ:∀ {l:List UInt8} {k:Nat} {c:UInt8},l[k]?=some c->hexF (l.take (k+1))=hexF (l.take k)++hexB c
 | [],_,_,h=>by cases h
 | x::l,0,c,h=>by
  have e:x=c:=by simpa using h
  subst e;simp [hexF]
 | x::l,k+1,c,h=>by
  have:=zfQ (l:=l) (k:=k) (c:=c) (by simpa using h);simp only [List.take_succ_cons,hexF,this,List.append_assoc]
theorem zeo:∀l:List UInt8,(hexF l).length=2*l.length
 | []=>rfl
 | c::l=>by have:=zeo l;simp [hexF,hexB,this];omega
def brF (c:UInt8):List UInt8:=if c=40\/c=41\/c=92 then [92,c] else [c]
theorem zeP:∀ {l:List UInt8} {k:Nat} {c:UInt8},l[k]?=some c->zb5 (l.take (k+1))=zb5 (l.take k)++brF c
 | [],_,_,h=>by cases h
 | x::l,0,c,h=>by
  have e:x=c:=by simpa using h
  subst e;simp [zb5,brF]
 | x::l,k+1,c,h=>by
  have:=zeP (l:=l) (k:=k) (c:=c) (by simpa using h);simp only [List.take_succ_cons,zb5,this,List.append_assoc]
theorem zdp:∀l:List UInt8,(zb5 l).length<=2*l.length
 | []=>yp _
 | c::l=>by
  have:=zdp l;simp only [zb5,List.length_append,List.length_cons]
  split<;>(simp;omega)
theorem zfJ {s:List UInt8} {k:Nat} (h:k<s.length) (h2:k<(mkB s).size):((mkB s)[k]'h2).toNat=(s[k]'h).toNat:=rfl
theorem eq35 {c:UInt8}:c=35↔c.toNat=35:=by constructor<;>intro h;(subst h;rfl);(exact UInt8.toNat_inj.1 h)
theorem eqn {c:UInt8} (d:UInt8):c=d↔c.toNat=d.toNat:=⟨fun h=>by rw [h],fun h=>UInt8.toNat_inj.1 h⟩
theorem zhe {l:List UInt8} {k:Nat} {c:UInt8} (h:l[k]?=some c):zcb (l.take (k+1))=(zcb (l.take k)&&(decide (32<=c.toNat)&&decide (c.toNat<=126))):=by
 unfold zcb;rw [List.take_add_one,h,List.all_append];simp
theorem readF_bad {l:List UInt8} {k:Nat} {c:UInt8} (h:l[k]?=some c) (hb:(decide (32<=c.toNat)&&decide (c.toNat<=126))=false):zcb l=false:=by
 unfold zcb;rw [Bool.eq_false_iff];intro ha;rw [List.all_eq_true] at ha;have:=ha c (List.mem_of_getElem? h);rw [hb] at this
 cases this
theorem zcg (v:PV):zaK v=if ownC v≠0 then ownC v else if v.kind=6\/v.kind=7 then zbt v.l else 0:=by obtain ⟨k,n,s,l⟩:=v;simp only [zaK];rfl
def zdC (v:PV):List UInt8×Int:=if zbG v≠0 then ([],zbG v) else (zat v,0)
theorem zeE {v:PV} (h:ownC v=0) :
  (v.kind=0/\v.n=0/\v.s=[]/\v.l=[])\/(v.kind=1/\(v.n=0\/v.n=1)/\v.s=[]/\v.l=[]) \/
  ((v.kind=2\/v.kind=3)/\zaM v.kind v.n true=0/\v.s=[]/\v.l=[]) \/
  (v.kind=4/\v.n=0/\v.l=[])\/(v.kind=5/\(v.s.length<=127/\(0:UInt8)∉v.s)/\v.n=0/\v.l=[])\/(v.kind=6/\v.n=0/\v.s=[]) \/
  (v.kind=7/\v.n=0/\v.s=[])\/(v.kind=8/\(1<=v.n/\v.n<=4096)/\v.s=[]/\v.l=[]):=by
 obtain ⟨k,n,s,l⟩:=v;simp only [PV.kind,PV.n,PV.s,PV.l];simp only [ownC] at h
 split at h
 ·rename_i e;split at h
  ·exact .inl ⟨e,by assumption⟩
  ·cases h
 split at h
 ·rename_i e;split at h
  ·rename_i g;exact .inr (.inl ⟨e,g⟩)
  ·cases h
 split at h
 ·rename_i e;split at h
  ·rename_i g;exact .inr (.inr (.inl ⟨e,h,g⟩))
  ·cases h
 split at h
 ·rename_i e;split at h
  ·rename_i g;exact .inr (.inr (.inr (.inl ⟨e,g⟩)))
  ·cases h
 split at h
 ·rename_i e;split at h
  ·cases h
  ·rename_i q;split at h
   ·rename_i g;exact .inr (.inr (.inr (.inr (.inl ⟨e,by rw [not_or] at q;exact ⟨by omega,q.2⟩,g⟩))))
   ·cases h
 split at h
 ·rename_i e;split at h
  ·rename_i g;exact .inr (.inr (.inr (.inr (.inr (.inl ⟨e,g⟩)))))
  ·cases h
 split at h
 ·rename_i e;split at h
  ·cases h
  ·rename_i q
   simp only [not_or,Decidable.not_not,ne_eq] at q;exact .inr (.inr (.inr (.inr (.inr (.inr (.inl ⟨e,q.1,q.2.1⟩))))))
 split at h
 ·rename_i e;split at h
  ·rename_i g;exact .inr (.inr (.inr (.inr (.inr (.inr (.inr ⟨e,⟨g.1,g.2.1⟩,g.2.2⟩))))))
  ·cases h
 cases h
def mkS (l:List UInt8):ByteArray:=⟨l.toArray⟩
theorem zcW (l:List UInt8):bl (mkS l)=l:=rfl
theorem mkS_bl (s:ByteArray):mkS (bl s)=s:=rfl
theorem zbP (l:List UInt8):(mkS l).size=l.length:=by unfold mkS;simp [ByteArray.size]
theorem ze2 (a b:List UInt8):mkS a++mkS b=mkS (a++b):=ByteArray.mk_append_mk a b
theorem zdb {a b:ByteArray} (h:bl a=bl b):a=b:=by rw [<-mkS_bl a,<-mkS_bl b,h]
theorem zcO {a b:ByteArray} (h:a=b):Ending.returned (.string a)=.returned (.string b):=by rw [h]
theorem zcf {a b:ByteArray} {x y:Int} (h:a=b) (h2:x=y):Ending.returned (.tuple #[.string a,.int .i64 x])=.returned (.tuple #[.string b,.int .i64 y]):=by rw [h,h2]
theorem dig_ext (d:Nat) (h:d<10):(⟨#[48,49,50,51,52,53,54,55,56,57]⟩:ByteArray).extract d (d+1)=mkS [UInt8.ofNat (48+d)]:=by
 have:d=0\/d=1\/d=2\/d=3\/d=4\/d=5\/d=6\/d=7\/d=8\/d=9:=by omega
 rcases this with rfl|rfl|rfl|rfl|rfl|rfl|rfl|rfl|rfl|rfl<;>rfl
def zhC (n:Nat) (w:World) (e:Ending) (w':World):Prop:=e=.returned (.string (mkS (decL n)))/\∃q,w'=w.drewN q
theorem zgv (n:Nat) (hn:n<18446744073709551616) (w:World):Calls Tryz.prog 71 #[.int .u64 n] w (zhC n w):=by
 induction n using Nat.strongRecOn generalizing w with
 | ind n ih =>
  by_cases h:n<10
  ·have HV:=yb (show (⟨#[48,49,50,51,52,53,54,55,56,57]⟩:ByteArray).extract n (n+1)=mkS (decL n) by rw [dig_ext n h,zbQ h])
   clear ih;go_enter Tryz.func71,Tryz.ntmps71
   go_wp2;go_ret;exact ⟨zcO HV.out,0,rfl⟩
  ·have hm:n % 10<10:=by omega
   have hd:n / 10<n:=by omega
   have hlen:=zbs 19 (n / 10) (by omega)
   have HV:=yb (show mkS (decL (n / 10))++(⟨#[48,49,50,51,52,53,54,55,56,57]⟩:ByteArray).extract (n % 10) (n % 10+1)=mkS (decL n) by
    rw [dig_ext _ hm,ze2,zdF (n:=n) (by omega)])
   have HI:=yb (fun W=>ih (n / 10) hd (by omega) W);have YB:(mkS (decL (n / 10))).size<=20:=by rw [zbP];exact hlen
   have XT:decide ((n:Int)<10)=false:=ye (by omega);have XU:(10:Int)<=n:=by omega
   clear ih hlen h;unfold zhC at HI;generalize mkS (decL (n / 10))=T at *;go_enter Tryz.func71,Tryz.ntmps71
   go_wp2
   go_quiet ((go_at_call 71;exact Calls.quiet_of (HI.out _)))
   go_wp2;go_ret;exact ⟨zcO HV.out,_,rfl⟩
theorem zeM (N:Nat) (L:Int) (w:World) (hN:N<9223372036854775808) (hL1:1<=L) (hL2:L<=20) :
  Calls Tryz.prog 73 #[.int .i64 N,.int .i64 L] w fun e w'=>e=.returned (.string (mkS (padL N L.toNat)))/\w=w':=by
 obtain ⟨V,hV⟩:∃V,V=mkS (padL N L.toNat):=⟨_,rfl⟩;rw [<-hV];have HV:=yb hV;have Xk:=yb hN;clear hV;go_enter Tryz.func73,Tryz.ntmps73
 go_wp2
 go_loop [0,5,6] (fun n s i=>∃(k M:Nat) (S:ByteArray),k<=20/\n=.int .i64 M/\s=.string S/\i=.int .i64 k/\M<9223372036854775808/\Hid (M=N / 10 ^ k)/\Hid (S=mkS (fixD N k))/\Hid (L.toNat<k->N / 10 ^ (k-1)≠0)) (fun _ _ i=>20-(intOf i).toNat)
 case atStart=>exact ⟨0,N,⟨#[]⟩,by omega,rfl,rfl,rfl,hN,yb (by simp),yb rfl,yb (fun h=>by omega)⟩
 case round =>
  obtain ⟨k,M,S,hk,rfl,rfl,rfl,hM,HM,HS,HL⟩:=hrel;have YB:S.size=k:=by rw [HS.out,zbP,fixD_len]
  have QJ:=yb (show (⟨#[48,49,50,51,52,53,54,55,56,57]⟩:ByteArray).extract (M % 10) (M % 10+1)++S=mkS (fixD N (k+1)) by
   rw [dig_ext _ (by omega),HS.out,ze2,HM.out];rfl)
  have Qd:=yb (show M / 10=N / 10 ^ (k+1) by rw [HM.out,Nat.div_div_eq_div_mul,Nat.pow_succ]);clear hN
  by_cases hk20:k<20
  ·have d1:decide ((k:Int)<20)=true:=by simp;omega
   by_cases hM0:0<M
   ·have d2:decide ((0:Int)<M)=true:=by simp;omega
    have QY:=yb (show L.toNat<k+1->N / 10 ^ (k+1-1)≠0 from fun _=>by rw [show k+1-1=k from rfl,<-HM.out];omega);go_wp2
    go_round
    case rel=>exact ⟨k+1,M / 10,_,by omega,by go_num,rfl,by go_num,by omega,Qd,QJ,QY⟩
    case measure=>simp [intOf];omega
   ·have d2:decide ((0:Int)<M)=false:=ye (by omega)
    have d2':M=0:=by omega
    by_cases hkL:(k:Int)<L
    ·have d3:decide ((k:Int)<L)=true:=by simpa using hkL
     have QY:=yb (show L.toNat<k+1->N / 10 ^ (k+1-1)≠0 from fun h=>by omega);subst d2';go_wp2
     go_round
     case rel=>exact ⟨k+1,0,_,by omega,by go_num,rfl,by go_num,by omega,Qd,QJ,QY⟩
     case measure=>simp [intOf];omega
    ·have d3:decide ((k:Int)<L)=false:=by simpa using hkL
     have HE:=yb (show S=V by rw [HV.out,HS.out,fixD_end N L.toNat k (by omega) (by omega) (by rw [<-HM.out];exact d2') HL.out]);subst d2';go_wp2;go_ret;exact ⟨zcO HE.out,rfl⟩
  ·obtain rfl:k=20:=by omega
   have HE:=yb (show S=V by
    rw [HV.out,HS.out,fixD_end N L.toNat 20 (by omega) (by omega) (Nat.div_eq_of_lt (by have:=Xk.out;omega)) HL.out])
   go_wp2;go_ret;exact ⟨zcO HE.out,rfl⟩
def strLen:Value->Nat | .string t=>t.size|_=>0
theorem trimByte_any (s:ByteArray) (w:World) (hs:s.size<=100000) :
  Calls Tryz.prog 157 #[.string s,.int .u8 48] w fun e w'=>e=.returned (.string (mkS (zcu (bl s))))/\w=w':=by
 obtain ⟨V,hV⟩:∃V,V=zcu (bl s):=⟨_,rfl⟩;rw [<-hV];have HV:=yb hV;clear hV;go_enter Tryz.func157,Tryz.ntmps157
 go_wp2
 go_loop [0] (fun v=>∃T:ByteArray,v=.string T/\T.size<=100000/\Hid (V=zcu (bl T))) (fun v=>strLen v)
 case atStart=>exact ⟨s,rfl,hs,HV⟩
 case round =>
  obtain ⟨T,rfl,hT,HT⟩:=hrel
  by_cases h0:T.size=0
  ·have HE:=yb (show T=mkS V by
    apply zdb
    have:bl T=[]:=List.eq_nil_of_length_eq_zero (by rw [zaC];exact h0);rw [HT.out,this];rfl)
   go_wp2;go_ret;exact ⟨zcO HE.out,rfl⟩
  ·obtain ⟨m,hm⟩:∃m,T.size=m+1:=⟨T.size-1,by omega⟩
   have Zx:=PlainAid.get_bt T;have hlt:m<T.size:=by omega
   have hx:(T[m].toNat:Int)=PlainAid.bt T m:=Zx m hlt;have ZW:=zdj T m hlt;rw [List.take_of_length_le (by rw [zaC];omega)] at ZW;have YC:=yb ZW;have HX:=yb hx;clear ZW hx h0
   by_cases h48:PlainAid.bt T m=48
   ·have ZX:(PlainAid.bt T m==48)=true:=by rw [beq_iff_eq];exact h48
    have HN:=yb (show V=zcu (bl (T.extract 0 m)) by
     rw [HT.out,YC.out,bl_to,show T[m]=48 from UInt8.toNat_inj.1 (Int.ofNat_inj.1 (HX.out.trans h48)),zeY])
    clear h48;go_wp2
    go_round
    case rel=>exact ⟨_,rfl,by rw [ByteArray.size_extract];omega,HN⟩
    case measure=>simp [strLen,ByteArray.size_extract];omega
   ·have ZX:(PlainAid.bt T m==48)=false:=by rw [yf];exact h48
    have HE:=yb (show T=mkS V by
     apply zdb
     rw [zcW,HT.out,YC.out,zeV];intro e;exact h48 (by rw [<-HX.out,e];rfl))
    clear h48;go_wp2;go_ret;exact ⟨zcO HE.out,rfl⟩
theorem zhU (s:ByteArray) (w:World) (hs:s.size<=100000) :
  Calls Tryz.prog 129 #[.string s,.string ⟨#[48]⟩] w fun e w'=>e=.returned (.string (mkS (zcu (bl s))))/\w=w':=by
 have HT:=yb (fun W=>trimByte_any s W hs)
 by_cases he:s.toList=[]
 ·have HE:=yb (show s=mkS (zcu (bl s)) by apply zdb;rw [zcW,<-toL,he];rfl)
  generalize mkS (zcu (bl s))=V at *;go_enter Tryz.func129,Tryz.ntmps129
  go_wp2;go_ret;exact ⟨zcO HE.out,rfl⟩
 ·have XV:s.toList.isEmpty=false:=by simpa using he
  generalize mkS (zcu (bl s))=V at *;clear he;go_enter Tryz.func129,Tryz.ntmps129
  go_wp2_with (go_at_call 157;refine (HT.out _).mono ?_;rintro e w' ⟨rfl,rfl⟩)
  go_ret;exact ⟨rfl,rfl⟩
theorem zeros_ext (k:Nat) (h:k<=64):(mkS (List.replicate 64 48)).extract 0 k=mkS (List.replicate k 48):=by
 apply zdb
 rw [bl_to,zcW,zcW,List.take_replicate,Nat.min_eq_left h]
theorem case20 (k:Nat) (h:k<20):k=0\/k=1\/k=2\/k=3\/k=4\/k=5\/k=6\/k=7\/k=8\/k=9\/k=10\/k=11\/k=12\/k=13\/k=14\/k=15\/k=16\/k=17\/k=18\/k=19:=by omega
theorem mul64_any (k:Nat) (h:k<20) (w:World):Calls Tryz.prog 150 #[.int .u64 1,.int .u64 k] w fun e w'=>e=.returned (.tuple #[.int .u64 0,.int .u64 k])/\w=w':=by
 rcases case20 k h with rfl|rfl|rfl|rfl|rfl|rfl|rfl|rfl|rfl|rfl|rfl|rfl|rfl|rfl|rfl|rfl|rfl|rfl|rfl|rfl
 all_goals
  go_enter Tryz.func150,Tryz.ntmps150
  go_wp2;go_ret2;exact ⟨rfl,rfl⟩
theorem mul_any (k:Nat) (h:k<20) (w:World):Calls Tryz.prog 115 #[.int .u64 1,.int .u64 k] w fun e w'=>e=.returned (.tuple #[.int .u64 0,.int .u64 k])/\w=w':=by
 have HM:=yb (fun W=>mul64_any k h W);go_enter Tryz.func115,Tryz.ntmps115
 go_wp2_with (go_at_call 150;refine (HM.out _).mono ?_;rintro e w' ⟨rfl,rfl⟩)
 go_ret2;exact ⟨rfl,rfl⟩
set_option maxRecDepth 100000 in
theorem repeat_any (k:Nat) (h:k<20) (w:World):Calls Tryz.prog 72 #[.string ⟨#[48]⟩,.int .i64 k] w fun e w'=>e=.returned (.string (mkS (List.replicate k 48)))/\w=w':=by
 have HM:=yb (fun W=>mul_any k h W);obtain ⟨V,hV⟩:∃V,V=mkS (List.replicate k 48):=⟨_,rfl⟩;rw [<-hV];have HV:=yb hV;clear hV
 by_cases h0:k=0
 ·subst h0
  go_enter Tryz.func72,Tryz.ntmps72
  go_wp2;go_ret;exact ⟨zcO HV.out.symm,rfl⟩
 by_cases h1:k=1
 ·subst h1
  go_enter Tryz.func72,Tryz.ntmps72
  go_wp2;go_ret;exact ⟨zcO HV.out.symm,rfl⟩
 have Xl:((k:Int)==0)=false:=by rw [yf];omega
 have YD:((k:Int)==1)=false:=by rw [yf];omega
 have hn:decide ((k:Int)<0)=false:=ye (by omega);have ZY:(k:Int)<=19:=by omega
 have hk0:(0:Int)<=k:=by omega
 have Xm:decide ((k:Int)<=128)=true:=yd (by omega);have Yc:decide ((k:Int)<=64)=true:=yd (by omega);have HE:=yb (show (mkS (List.replicate 64 48)).extract 0 k=V by rw [HV.out];exact zeros_ext k (by omega));clear h0 h1;go_enter Tryz.func72,Tryz.ntmps72
 go_wp2_with fail
 refine (HM.out _).mono ?_;rintro e w' ⟨rfl,rfl⟩;go_wp2_with fail
 refine (zfY _ 48 _ (by decide)).mono ?_;rintro e w' ⟨rfl,rfl⟩;rw [show hd1 _ 48=false from rfl];go_wp2_with fail
 refine (zfY _ 48 _ (by decide)).mono ?_;rintro e w' ⟨rfl,rfl⟩;rw [show hd1 _ 48=false from rfl];go_wp2_with fail
 refine (zfY _ 48 _ (by decide)).mono ?_;rintro e w' ⟨rfl,rfl⟩;rw [show hd1 _ 48=true from rfl];go_wp2;go_ret;exact ⟨zcO HE.out,rfl⟩
def PadEnd (n d:Int) (w:World) (e:Ending) (w':World):Prop:=e=.returned (.tuple #[.string (mkS (padV n d).1),.int .i64 (padV n d).2])/\∃q,w'=w.drewN q
theorem zfD {n d:Int} (h:n<0\/d<1\/20<d\/d<((decL n.toNat).length:Int)):padV n d=([],2):=by unfold padV;rw [yg h]
theorem padV_ok {N:Nat} {d:Int} (h1:1<=d) (h2:d<=20) (h3:((decL N).length:Int)<=d):padV N d=(padL N d.toNat,0):=by unfold padV;rw [yh (by simp;omega)];simp
theorem pad_any (n d:Int) (w:World) (hn:n<9223372036854775808) (hn0:-9223372036854775808<=n) (hd0:-9223372036854775808<=d) (hd1:d<=9223372036854775807) :
  Calls Tryz.prog 39 #[.int .i64 n,.int .i64 d] w (PadEnd n d w):=by
 obtain ⟨V,hV⟩:∃V,V=padV n d:=⟨_,rfl⟩;unfold PadEnd;rw [<-hV];have HV:=yb hV;clear hV
 by_cases h1:n<0
 ·have HE:=yb (show V=([],2) by rw [HV.out];exact zfD (.inl h1))
  clear hn hn0 hd0 hd1;go_enter Tryz.func39,Tryz.ntmps39
  go_wp2;go_ret2;exact ⟨by rw [HE.out];rfl,0,rfl⟩
 have YD:decide (n<0)=false:=by simpa using h1
 by_cases h2:d<1
 ·have HE:=yb (show V=([],2) by rw [HV.out];exact zfD (.inr (.inl h2)))
  clear hn hn0 hd0 hd1 h1;go_enter Tryz.func39,Tryz.ntmps39
  go_wp2;go_ret2;exact ⟨by rw [HE.out];rfl,0,rfl⟩
 have Xn:decide (d<1)=false:=by simpa using h2
 by_cases h3:20<d
 ·have HE:=yb (show V=([],2) by rw [HV.out];exact zfD (.inr (.inr (.inl h3))))
  clear hn hn0 hd0 hd1 h1 h2;go_enter Tryz.func39,Tryz.ntmps39
  go_wp2;go_ret2;exact ⟨by rw [HE.out];rfl,0,rfl⟩
 have XW:decide (20<d)=false:=by simpa using h3
 obtain ⟨N,rfl⟩:=Int.eq_ofNat_of_zero_le (show 0<=n by omega);have Xo:1<=d:=by omega
 have Xp:d<=20:=by omega
 have HT:=yb (fun W=>zgv N (by omega) W);unfold zhC at HT;have YB:(mkS (decL N)).size=(decL N).length:=zbP _;have XX:=(za4 N).2.2;have YE:IntKind.u64.wrap (N:Int)=(N:Int):=IntWalk.u64_in _ (by omega);clear hn hn0 hd0 hd1 h1 h2 h3
 by_cases h4:d<((decL N).length:Int)
 ·have HE:=yb (show V=([],2) by rw [HV.out];exact zfD (.inr (.inr (.inr (by simpa using h4)))))
  generalize (decL N).length=len at *;generalize mkS (decL N)=T at *;go_enter Tryz.func39,Tryz.ntmps39
  go_wp2_with (go_at_call 71;refine (HT.out _).mono ?_;rintro e w' ⟨rfl,q,rfl⟩)
  go_ret2;exact ⟨by rw [HE.out];rfl,q,rfl⟩
 ·have Xq:decide (d<((decL N).length:Int))=false:=by simpa using h4
  obtain ⟨k,hk⟩:=Int.eq_ofNat_of_zero_le (show 0<=d-((decL N).length:Int) by omega);have HR:=yb (fun W=>repeat_any k (by omega) W);have XY:(mkS (List.replicate k 48)).size=k:=by rw [zbP,List.length_replicate]
  have ZY:k<=19:=by omega
  have Xr:(decL N).length<=20:=by omega
  have HE:=yb (show V=(bl (mkS (List.replicate k 48)++mkS (decL N)),0) by
   rw [HV.out,padV_ok Xo Xp (by omega),ze2,zcW];unfold padL;rw [show d.toNat-(decL N).length=k from by omega])
  clear h4;generalize (decL N).length=len at *;generalize mkS (decL N)=T at *;generalize mkS (List.replicate k 48)=Z at *;go_enter Tryz.func39,Tryz.ntmps39
  go_wp2_with (first
   |(go_at_call 71;refine (HT.out _).mono ?_;rintro e w' ⟨rfl,q,rfl⟩)
   |(go_at_call 72;refine (HR.out _).mono ?_;rintro e w' ⟨rfl,rfl⟩))
  go_ret2;exact ⟨by rw [HE.out];rfl,q,rfl⟩
theorem zeZ (k n:Int) (s:ByteArray) (a:Option Addr) (m c:Nat) (w:World) (hm:(m:Int)<=9223372036854775807) :
  Calls Tryz.prog 79 #[.agg #[.int .i64 k,.int .i64 n,.string s,.slice a m c]] w fun e w'=>e=.returned (.int .i64 (zaM k n (zbA s m)))/\Below w.heap.size w w':=by
 obtain ⟨V,hV⟩:∃V,V=zaM k n (zbA s m):=⟨_,rfl⟩;rw [<-hV];unfold zaM at hV;have HB:=yb (zai w (.cells #[.int .i64 k,.int .i64 n,.string s,.slice a m c] 25))
 by_cases h3:s.toList=[]
 ·have Xs:s.toList.isEmpty=true:=by rw [h3];rfl
  by_cases h4:m=0
  ·have hb:zbA s m=true:=by unfold zbA;rw [<-toL,h3,h4];rfl
   subst h4;rw [hb] at hV
   by_cases hk2:k=2
   ·subst hk2
    by_cases h5:-2147483647<=n
    ·by_cases h6:n<=2147483647
     ·have HV:=yb (show V=0 by rw [hV,yg];exact ⟨rfl,.inl ⟨rfl,h5,h6⟩⟩)
      clear hV;go_enter Tryz.func79,Tryz.ntmps79
      go_wp2;go_ret;exact ⟨zaQ HV.out.symm,HB.out⟩
     ·have HV:=yb (show V=2 by rw [hV,yh];rintro ⟨-,h|h⟩<;>omega)
      have Xt:decide (n<=2147483647)=false:=by simpa using h6
      clear hV h6;go_enter Tryz.func79,Tryz.ntmps79
      go_wp2;go_ret;exact ⟨zaQ HV.out.symm,HB.out⟩
    ·have HV:=yb (show V=2 by rw [hV,yh];rintro ⟨-,h|h⟩<;>omega)
     have Xu:decide (-2147483647<=n)=false:=by simpa using h5
     clear hV h5;go_enter Tryz.func79,Tryz.ntmps79
     go_wp2;go_ret;exact ⟨zaQ HV.out.symm,HB.out⟩
   ·have QT:(k==2)=false:=by rw [yf];exact hk2
    by_cases hk3:k=3
    ·subst hk3
     by_cases h5:-2147483647000000<=n
     ·by_cases h6:n<=2147483647000000
      ·have HV:=yb (show V=0 by rw [hV,yg];exact ⟨rfl,.inr ⟨rfl,h5,h6⟩⟩)
       clear hV QT;go_enter Tryz.func79,Tryz.ntmps79
       go_wp2;go_ret;exact ⟨zaQ HV.out.symm,HB.out⟩
      ·have HV:=yb (show V=2 by rw [hV,yh];rintro ⟨-,h|h⟩<;>omega)
       have Xt:decide (n<=2147483647000000)=false:=by simpa using h6
       clear hV h6 QT;go_enter Tryz.func79,Tryz.ntmps79
       go_wp2;go_ret;exact ⟨zaQ HV.out.symm,HB.out⟩
     ·have HV:=yb (show V=2 by rw [hV,yh];rintro ⟨-,h|h⟩<;>omega)
      have Xu:decide (-2147483647000000<=n)=false:=by simpa using h5
      clear hV h5 QT;go_enter Tryz.func79,Tryz.ntmps79
      go_wp2;go_ret;exact ⟨zaQ HV.out.symm,HB.out⟩
    ·have Xv:(k==3)=false:=by rw [yf];exact hk3
     have HV:=yb (show V=2 by rw [hV,yh];rintro ⟨-,h|h⟩<;>omega)
     clear hV hk2 hk3;go_enter Tryz.func79,Tryz.ntmps79
     go_wp2;go_ret;exact ⟨zaQ HV.out.symm,HB.out⟩
  ·have HV:=yb (show V=2 by rw [hV,yh];rintro ⟨h,-⟩;unfold zbA at h;simp at h;exact h4 h.2)
   have Xq:((m:Int)==0)=false:=by rw [yf];omega
   have XZ:((m:Int) != 0)=true:=by rw [bne_iff_ne];omega
   clear hV h4;go_enter Tryz.func79,Tryz.ntmps79
   go_wp2;go_ret;exact ⟨zaQ HV.out.symm,HB.out⟩
 ·have HV:=yb (show V=2 by rw [hV,yh];rintro ⟨h,-⟩;unfold zbA at h;rw [<-toL] at h;simp at h;exact h3 h.1)
  have Xs:s.toList.isEmpty=false:=by simpa using h3
  clear hV;go_enter Tryz.func79,Tryz.ntmps79
  go_wp2;go_ret;exact ⟨zaQ HV.out.symm,HB.out⟩
theorem zgb (s:ByteArray) (w:World) (hs:s.size<=100000) :
  Calls Tryz.prog 68 #[.string s] w (DigEnd (zaD (bl s)) w):=by
 obtain ⟨V,hV⟩:∃V,V=zaD (bl s):=⟨_,rfl⟩;rw [<-hV];have HV:=yb hV;clear hV
 by_cases h0:s.size=0
 ·have HE:=yb (show V=(0,11) by rw [HV.out,show bl s=[] from List.eq_nil_of_length_eq_zero (by rw [zaC];exact h0)];exact zgi)
  go_enter Tryz.func68,Tryz.ntmps68
  go_wp2;go_ret2;exact ⟨by rw [HE.out];rfl,Below.refl _ _⟩
 have YF:=yb (show bl s≠[] by intro e;have:=congrArg List.length e;rw [zaC] at this;exact h0 this);have Xl:((s.size:Int)==0)=false:=by rw [yf];omega
 have Zx:=PlainAid.get_bt s;clear h0;go_enter Tryz.func68,Tryz.ntmps68
 go_wp2
 go_loop [4] (fun i=>∃k:Nat,k<=s.size/\i=.int .i64 k/\Hid (((bl s).take k).all isDg=true)) (fun i=>s.size-(intOf i).toNat)
 case atStart=>exact ⟨0,by omega,rfl,yb rfl⟩
 case round =>
  obtain ⟨k,hk,rfl,HA⟩:=hrel
  by_cases hlt:k<s.size
  ·have hx:(s[k].toNat:Int)=PlainAid.bt s k:=Zx k hlt
   have HX:=yb hx;clear hx
   by_cases h1:PlainAid.bt s k<48
   ·have HE:=yb (show V=(0,11) by rw [HV.out];exact zdt (zc7 (bl_mem s k hlt) (by rw [zbY];have:=HX.out;omega)))
    go_wp2;go_ret2;exact ⟨by rw [HE.out];rfl,Below.refl _ _⟩
   ·have YD:decide (PlainAid.bt s k<48)=false:=by simpa using h1
    by_cases h2:57<PlainAid.bt s k
    ·have HE:=yb (show V=(0,11) by rw [HV.out];exact zdt (zc7 (bl_mem s k hlt) (by rw [zbY];have:=HX.out;omega)))
     clear h1;go_wp2;go_ret2;exact ⟨by rw [HE.out];rfl,Below.refl _ _⟩
    ·have Xn:decide (57<PlainAid.bt s k)=false:=by simpa using h2
     have Xw:=yb (show ((bl s).take (k+1)).all isDg=true by rw [zdj s k hlt];exact zde _ _ HA.out (by rw [zba];have:=HX.out;omega));clear h1 h2;go_wp2
     go_round
     case rel=>exact ⟨k+1,by omega,by go_num,Xw⟩
     case measure=>simp [intOf];omega
  ·obtain rfl:k=s.size:=by omega
   have QU:=yb (show (bl s).all isDg=true by have:=HA.out;rwa [List.take_of_length_le (by rw [zaC];omega)] at this);go_wp2
   go_loop [5,6] (fun n i=>∃(k:Nat) (N:Int),k<=s.size/\i=.int .i64 k/\n=.int .i64 N/\0<=N/\N<=2147483647/\Hid (N=(valD ((bl s).take k):Nat))) (fun _ i=>s.size-(intOf i).toNat)
   case atStart=>exact ⟨0,0,by omega,rfl,rfl,by omega,by omega,yb rfl⟩
   case round =>
    obtain ⟨k,N,hk2,rfl,rfl,X0,X1,HN⟩:=hrel
    by_cases hlt2:k<s.size
    ·have hx:(s[k].toNat:Int)=PlainAid.bt s k:=Zx k hlt2
     have Zl:isDg s[k]=true:=List.all_eq_true.1 QU.out _ (bl_mem s k hlt2);have Xx:=zdw Zl;have Xy:=dgV_le Zl;have X2:48<=PlainAid.bt s k:=by rw [<-hx];rw [zba] at Zl;omega
     have X3:PlainAid.bt s k<=57:=by rw [<-hx];rw [zba] at Zl;omega
     have HS:=yb (show 10*N+PlainAid.bt s k-48=((valD ((bl s).take (k+1)):Nat):Int) by
      rw [zdj s k hlt2,zb4,HN.out,<-hx];omega)
     have Xz:=yb (show valD ((bl s).take (k+1))<=valD (bl s) by
      have:=zgD ((bl s).take (k+1)) ((bl s).drop (k+1));rwa [List.take_append_drop] at this)
     clear hx Zl Xx Xy
     by_cases hov:2147483647<10*N+PlainAid.bt s k-48
     ·have HE:=yb (show V=(0,5) by rw [HV.out];exact zdr YF.out QU.out (by have:=HS.out;have:=Xz.out;omega))
      go_wp2;go_ret2;exact ⟨by rw [HE.out];rfl,Below.refl _ _⟩
     ·have XA:decide (2147483647<10*N+PlainAid.bt s k-48)=false:=by simpa using hov
      have ZZ:10*N+PlainAid.bt s k-48<=2147483647:=by omega
      clear hov;go_wp2
      go_round
      case rel=>exact ⟨k+1,10*N+PlainAid.bt s k-48,by omega,by go_num,rfl,by omega,ZZ,HS⟩
      case measure=>simp [intOf];omega
    ·obtain rfl:k=s.size:=by omega
     have HE:=yb (show V=(N,0) by
      have h1:=HN.out;rw [List.take_of_length_le (by rw [zaC];omega)] at h1;rw [HV.out,zcr YF.out QU.out (by omega),h1])
     go_wp2;go_ret2;exact ⟨by rw [HE.out];rfl,Below.refl _ _⟩
end Go.Proofs.YtcmoehknppjkiaaGreatDoor
