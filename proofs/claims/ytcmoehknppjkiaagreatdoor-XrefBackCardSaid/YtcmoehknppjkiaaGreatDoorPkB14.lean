/-
  Our texts Sw4 to Xs1, in one.
-/
import Derived.Test.YtcmoehknppjkiaaGreatDoorPkB13
import Derived.Lib.SlBytesConst
import Derived.Deep.RegionLaw
import Derived.Test.YtcmoehknppjkiaaGreatDoorProg
import Derived.Lib.Bytealg
import Derived.Deep.RegionHeld3
import Derived.WalkKit
import Derived.Deep.Cut
import Derived.BigQuiet
set_option maxRecDepth 8000
set_option maxHeartbeats 8000000
namespace Go.Proofs.YtcmoehknppjkiaaGreatDoor
open Go.RowKit
theorem nameW {w:World} {S:Nat->Prop} {p:Nat} {out:List UInt8} (h:WrQ w S p out) (s:List UInt8) (hl:out.length+3*s.length+1<=10000000) :
  Calls Tryz.prog 95 #[.pointer (some ⟨p,0,none⟩),.string (mkB s)] w fun e w'=>e=.returned (.tuple #[])/\zap w S p (out++47::zby s) w':=by
 have HA:=yb (za0 h 47 47 rfl (by omega));have Qy:(mkB s).size=s.length:=zaR s;have QM:((mkB s).size:Int)=s.length:=by rw [Qy]
 have Z3:=yb Qy;have hm:(s.length:Int)<=10000000:=by omega
 go_enter Tryz.func95,Tryz.ntmps95
 go_wp2_with fail
 refine HA.out.mono ?_;rintro e w1 ⟨rfl,Qs⟩;have Qn:=yb Qs;clear Qs HA;go_wp2
 go_loopw [12] (fun vk wr=>∃k:Nat,vk=.int .i64 k/\k<=s.length/\Hid (zap w S p ((out++[47])++zby (s.take k)) wr)) (fun vk _=>s.length-(intOf vk).toNat)
 case atStart=>exact ⟨0,rfl,Nat.zero_le _,yb (by rw [List.take_zero];simpa [zby] using Qn.out)⟩
 case round =>
  obtain ⟨k,rfl,hk,HN⟩:=hrel
  by_cases q1:k<s.length
  case neg =>
   have hd1:decide (k<s.length)=false:=ye q1;have Qo:decide ((k:Int)<(s.length:Int))=false:=ye (by omega);have Qc:¬(k:Int)<(s.length:Int):=by omega
   have HE:=yb (show zap w S p (out++47::zby s) wr by
    have h2:=HN.out;rw [List.take_of_length_le (by omega),List.append_assoc] at h2;exact h2)
   clear HN Qn;go_wp2;go_end0
   exact ⟨rfl,HE.out⟩
  have hd1:decide (k<s.length)=true:=yd q1;have Qo:decide ((k:Int)<(s.length:Int))=true:=yd (by omega);have hk0:(0:Int)<=(k:Int):=by omega
  have QL:(k:Int)<(s.length:Int):=by omega
  have Qb:k<(mkB s).size:=by omega
  obtain ⟨c,hc⟩:∃c,c=s[k]'q1:=⟨_,rfl⟩;have Qg:s[k]?=some c:=by rw [hc];exact List.getElem?_eq_getElem q1
  have hT:=ze4 Qg
  have QB:(zby (s.take k)).length<=3*k:=by
   have h1:=zdz (s.take k);rw [List.length_take] at h1;omega
  have YN:((out++[47])++zby (s.take k)).length+3<=10000000:=by simp;omega
  obtain ⟨n,hn⟩:∃n,n=c.toNat:=⟨_,rfl⟩;have QN:((mkB s)[k]'Qb).toNat=n:=by rw [hn,hc];exact zfJ q1 Qb
  have HD:=yb (fun W=>delim_any c W);have HH:=yb (fun (S1:Nat->Prop) (W:World) (o:List UInt8) (hq:WrQ W S1 p o) (ho:o.length+2<=10000000)=>hexW hq c ho);have YO:dlI (c.toNat:Int)=isDl c:=(zb6 c).symm
  have Zh:chF c=if n<33\/126<n\/n=35\/dlI (n:Int)=true then 35::hexB c else [c]:=by
   unfold chF;rw [hn,YO];simp only [eq35]
  rw [<-hn] at HD HH;have HT:=yb hT;have Qz:=yb YN;have Xw:=yb hn;have Qj:=yb Zh;clear hT YN hn hc Qg YO Zh QB;generalize dlI (n:Int)=d at *;obtain ⟨S1,QO,Qt,QP⟩:=HN.out;have QC:=yb QO;have QD:=yb Qt;have QE:=yb QP;clear QO Qt QP HN Qn
  by_cases h1:n<33
  ·have b1:decide (n<33)=true:=yd h1
   have b1':decide ((n:Int)<33)=true:=yd (by omega);have Qk:=yb (show chF c=35::hexB c by rw [Qj.out,yg (.inl h1)]);clear Qj h1;go_wp2_with (fail)
   refine (za0 QC.out 35 35 rfl (by have:=Qz.out;omega)).mono ?_;rintro e w2 ⟨rfl,Qd⟩;obtain ⟨S2,Qc,Qf,Qh⟩:=Qd;have QQ:=yb (HH.out S2 w2 _ Qc (by have:=Qz.out;simp at this |-;omega));clear Qc;go_wp2_with fail
   refine QQ.out.mono ?_;rintro e w3 ⟨rfl,hN3⟩
   have Qu:=yb (show zap w S p ((out++[47])++zby (s.take (k+1))) w3 by
    rw [HT.out,Qk.out];have h3:=zap.trans QD.out QE.out (zap.trans Qf Qh hN3);rw [List.append_assoc _ [35]] at h3;rw [<-List.append_assoc (out++[47])];exact h3)
   clear hN3 Qf Qh QQ Qk;go_wp2
   go_roundw
   case rel=>exact ⟨k+1,by go_num,by omega,Qu⟩
   case measure=>simp [intOf];omega
  have b1:decide (n<33)=false:=ye h1;have b1':decide ((n:Int)<33)=false:=ye (by omega)
  by_cases h2:126<n
  ·have b2:decide (126<n)=true:=yd h2
   have b2':decide ((126:Int)<(n:Int))=true:=yd (by omega);have Qk:=yb (show chF c=35::hexB c by rw [Qj.out,yg (.inr (.inl h2))]);clear Qj h1 h2;go_wp2_with (fail)
   refine (za0 QC.out 35 35 rfl (by have:=Qz.out;omega)).mono ?_;rintro e w2 ⟨rfl,Qd⟩;obtain ⟨S2,Qc,Qf,Qh⟩:=Qd;have QQ:=yb (HH.out S2 w2 _ Qc (by have:=Qz.out;simp at this |-;omega));clear Qc;go_wp2_with fail
   refine QQ.out.mono ?_;rintro e w3 ⟨rfl,hN3⟩
   have Qu:=yb (show zap w S p ((out++[47])++zby (s.take (k+1))) w3 by
    rw [HT.out,Qk.out];have h3:=zap.trans QD.out QE.out (zap.trans Qf Qh hN3);rw [List.append_assoc _ [35]] at h3;rw [<-List.append_assoc (out++[47])];exact h3)
   clear hN3 Qf Qh QQ Qk;go_wp2
   go_roundw
   case rel=>exact ⟨k+1,by go_num,by omega,Qu⟩
   case measure=>simp [intOf];omega
  have b2:decide (126<n)=false:=ye h2;have b2':decide ((126:Int)<(n:Int))=false:=ye (by omega)
  by_cases h3:n=35
  ·have b3:(n==35)=true:=by rw [h3];rfl
   have b3':((n:Int)==35)=true:=by rw [h3];rfl
   have Qk:=yb (show chF c=35::hexB c by rw [Qj.out,yg (.inr (.inr (.inl h3)))]);clear Qj h1 h2;have H3:=yb h3;clear h3;go_wp2_with (fail)
   refine (za0 QC.out 35 35 rfl (by have:=Qz.out;omega)).mono ?_;rintro e w2 ⟨rfl,Qd⟩;obtain ⟨S2,Qc,Qf,Qh⟩:=Qd;have QQ:=yb (HH.out S2 w2 _ Qc (by have:=Qz.out;simp at this |-;omega));clear Qc;go_wp2_with fail
   refine QQ.out.mono ?_;rintro e w3 ⟨rfl,hN3⟩
   have Qu:=yb (show zap w S p ((out++[47])++zby (s.take (k+1))) w3 by
    rw [HT.out,Qk.out];have h3:=zap.trans QD.out QE.out (zap.trans Qf Qh hN3);rw [List.append_assoc _ [35]] at h3;rw [<-List.append_assoc (out++[47])];exact h3)
   clear hN3 Qf Qh QQ Qk;go_wp2
   go_roundw
   case rel=>exact ⟨k+1,by go_num,by omega,Qu⟩
   case measure=>simp [intOf];omega
  have b3:(n==35)=false:=by rw [yf];exact h3
  have b3':((n:Int)==35)=false:=by rw [yf];omega
  cases d with
  | true =>
   have Qk:=yb (show chF c=35::hexB c by rw [Qj.out,yg (.inr (.inr (.inr rfl)))]);clear Qj h1 h2 h3;go_wp2_with (go_at_call 132;refine (HD.out _).mono ?_;rintro e w' ⟨rfl,rfl⟩)
   refine (za0 QC.out 35 35 rfl (by have:=Qz.out;omega)).mono ?_;rintro e w2 ⟨rfl,Qd⟩;obtain ⟨S2,Qc,Qf,Qh⟩:=Qd;have QQ:=yb (HH.out S2 w2 _ Qc (by have:=Qz.out;simp at this |-;omega));clear Qc;go_wp2_with fail
   refine QQ.out.mono ?_;rintro e w3 ⟨rfl,hN3⟩
   have Qu:=yb (show zap w S p ((out++[47])++zby (s.take (k+1))) w3 by
    rw [HT.out,Qk.out];have h3:=zap.trans QD.out QE.out (zap.trans Qf Qh hN3);rw [List.append_assoc _ [35]] at h3;rw [<-List.append_assoc (out++[47])];exact h3)
   clear hN3 Qf Qh QQ Qk;go_wp2
   go_roundw
   case rel=>exact ⟨k+1,by go_num,by omega,Qu⟩
   case measure=>simp [intOf];omega
  | false =>
   have Qk:=yb (show chF c=[c] by rw [Qj.out,yh (by rintro (h|h|h|h);exact h1 h;exact h2 h;exact h3 h;cases h)]);clear Qj h1 h2 h3;have QG:=yb (za0 QC.out c n (by rw [Xw.out]) (by have:=Qz.out;omega));go_wp2_with (go_at_call 132;refine (HD.out _).mono ?_;rintro e w' ⟨rfl,rfl⟩)
   refine QG.out.mono ?_;rintro e w2 ⟨rfl,Qd⟩
   have Qu:=yb (show zap w S p ((out++[47])++zby (s.take (k+1))) w2 by
    rw [HT.out,Qk.out,<-List.append_assoc (out++[47])];exact zap.trans QD.out QE.out Qd)
   clear Qd Qk QG;go_wp2
   go_roundw
   case rel=>exact ⟨k+1,by go_num,by omega,Qu⟩
   case measure=>simp [intOf];omega
theorem readableW (s:List UInt8) (w:World) (hl:s.length<=10000000) :
  Calls Tryz.prog 130 #[.string (mkB s)] w fun e w'=>e=.returned (.bool (zcb s))/\w=w':=by
 have Qy:(mkB s).size=s.length:=zaR s;have QM:((mkB s).size:Int)=s.length:=by rw [Qy]
 have Z3:=yb Qy;obtain ⟨R,hR⟩:∃R,R=zcb s:=⟨_,rfl⟩;rw [<-hR];have HR:=yb hR;clear hR;go_enter Tryz.func130,Tryz.ntmps130
 go_wp2
 go_loopw [6] (fun vk wr=>∃k:Nat,vk=.int .i64 k/\k<=s.length/\wr=w/\Hid (zcb (s.take k)=true)) (fun vk _=>s.length-(intOf vk).toNat)
 case atStart=>exact ⟨0,rfl,Nat.zero_le _,rfl,yb rfl⟩
 case round =>
  obtain ⟨k,rfl,hk,YP,HG⟩:=hrel;rw [YP];clear YP
  by_cases q1:k<s.length
  case neg =>
   have hd1:decide (k<s.length)=false:=ye q1;have Qo:decide ((k:Int)<(s.length:Int))=false:=ye (by omega);have Qc:¬(k:Int)<(s.length:Int):=by omega
   have hg:=HG.out;rw [List.take_of_length_le (by omega)] at hg;have hr:=HR.out;rw [hg] at hr;subst hr;clear hg HG HR;go_wp2;go_ret;exact ⟨rfl,rfl⟩
  have hd1:decide (k<s.length)=true:=yd q1;have Qo:decide ((k:Int)<(s.length:Int))=true:=yd (by omega);have hk0:(0:Int)<=(k:Int):=by omega
  have QL:(k:Int)<(s.length:Int):=by omega
  have Qb:k<(mkB s).size:=by omega
  obtain ⟨c,hc⟩:∃c,c=s[k]'q1:=⟨_,rfl⟩;have Qg:s[k]?=some c:=by rw [hc];exact List.getElem?_eq_getElem q1
  obtain ⟨n,hn⟩:∃n,n=c.toNat:=⟨_,rfl⟩;have QN:((mkB s)[k]'Qb).toNat=n:=by rw [hn,hc];exact zfJ q1 Qb
  by_cases h1:n<32
  ·have b1:decide (n<32)=true:=yd h1
   have b1':decide ((n:Int)<32)=true:=yd (by omega);have hb:zcb s=false:=readF_bad Qg (by rw [<-hn,ye (by omega),Bool.false_and]);have hr:=HR.out;rw [hb] at hr;subst hr;clear HG HR hb Qg hc hn h1;go_wp2;go_ret;exact ⟨rfl,rfl⟩
  have b1:decide (n<32)=false:=ye h1;have b1':decide ((n:Int)<32)=false:=ye (by omega)
  by_cases h2:126<n
  ·have b2:decide (126<n)=true:=yd h2
   have b2':decide ((126:Int)<(n:Int))=true:=yd (by omega);have hb:zcb s=false:=readF_bad Qg (by rw [<-hn,ye (show ¬n<=126 by omega),Bool.and_false]);have hr:=HR.out;rw [hb] at hr;subst hr;clear HG HR hb Qg hc hn h1 h2;go_wp2;go_ret;exact ⟨rfl,rfl⟩
  have b2:decide (126<n)=false:=ye h2;have b2':decide ((126:Int)<(n:Int))=false:=ye (by omega);have Xx:=yb (show zcb (s.take (k+1))=true by rw [zhe Qg,HG.out,<-hn,yd (by omega),yd (by omega)];rfl);clear HG Qg hc hn h1 h2;go_wp2
  go_roundw
  case rel=>exact ⟨k+1,by go_num,by omega,trivial,Xx⟩
  case measure=>simp [intOf];omega
theorem hexsW {w:World} {S:Nat->Prop} {p:Nat} {out:List UInt8} (h:WrQ w S p out) (s:List UInt8) (hl:out.length+2*s.length+4<=10000000) (hrd:zcb s=false) :
  Calls Tryz.prog 94 #[.pointer (some ⟨p,0,none⟩),.string (mkB s)] w fun e w'=>e=.returned (.tuple #[])/\zap w S p (out++zcc s) w':=by
 have Z4:=yb (show zcc s=60::(hexF s++[62]) by unfold zcc;rw [yh (by rw [hrd];decide)]);have Q3:=yb (fun W=>readableW s W (by omega));rw [hrd] at Q3;have HA:=yb (za0 h 60 60 rfl (by omega));have Qy:(mkB s).size=s.length:=zaR s;have QM:((mkB s).size:Int)=s.length:=by rw [Qy]
 have Z3:=yb Qy;have hm:(s.length:Int)<=10000000:=by omega
 clear hrd;go_enter Tryz.func94,Tryz.ntmps94
 go_wp2_with (go_at_call 130;refine (Q3.out _).mono ?_;rintro e w' ⟨rfl,rfl⟩)
 refine HA.out.mono ?_;rintro e w1 ⟨rfl,Qs⟩;have Qn:=yb Qs;clear Qs HA Q3;go_wp2
 go_loopw [15] (fun vk wr=>∃k:Nat,vk=.int .i64 k/\k<=s.length/\Hid (zap w S p ((out++[60])++hexF (s.take k)) wr)) (fun vk _=>s.length-(intOf vk).toNat)
 case atStart=>exact ⟨0,rfl,Nat.zero_le _,yb (by rw [List.take_zero];simpa [hexF] using Qn.out)⟩
 case round =>
  obtain ⟨k,rfl,hk,HN⟩:=hrel;obtain ⟨S1,QO,Qt,QP⟩:=HN.out;have QC:=yb QO;have QD:=yb Qt;have QE:=yb QP
  have QB:((out++[60])++hexF (s.take k)).length+2<=10000000:=by
   have h1:=zeo (s.take k);rw [List.length_take] at h1;simp;omega
  have Qz:=yb QB;clear QO Qt QP HN Qn QB
  by_cases q1:k<s.length
  case neg =>
   have hd1:decide (k<s.length)=false:=ye q1;have Qo:decide ((k:Int)<(s.length:Int))=false:=ye (by omega);have Qc:¬(k:Int)<(s.length:Int):=by omega
   have QG:=yb (za0 QC.out 62 62 rfl (by have:=Qz.out;omega));have Z5:=yb (show s.take k=s from List.take_of_length_le (by omega));go_wp2_with fail
   refine QG.out.mono ?_;rintro e w2 ⟨rfl,Qd⟩
   have HE:=yb (show zap w S p (out++zcc s) w2 by
    have h3:=zap.trans QD.out QE.out Qd;rw [Z5.out] at h3;rw [Z4.out]
    simpa using h3)
   clear Qd;go_wp2
   first
    | go_end0
    | refine yi (results_none rfl _ _ _) rfl ?_
   exact ⟨rfl,HE.out⟩
  have hd1:decide (k<s.length)=true:=yd q1;have Qo:decide ((k:Int)<(s.length:Int))=true:=yd (by omega);have hk0:(0:Int)<=(k:Int):=by omega
  have QL:(k:Int)<(s.length:Int):=by omega
  have Qb:k<(mkB s).size:=by omega
  obtain ⟨c,hc⟩:∃c,c=s[k]'q1:=⟨_,rfl⟩;have Qg:s[k]?=some c:=by rw [hc];exact List.getElem?_eq_getElem q1
  have hT:=zfQ Qg;obtain ⟨n,hn⟩:∃n,n=c.toNat:=⟨_,rfl⟩;have QN:((mkB s)[k]'Qb).toNat=n:=by rw [hn,hc];exact zfJ q1 Qb
  have HH:=yb (hexW QC.out c Qz.out);rw [<-hn] at HH;have HT:=yb hT;clear hT hn hc Qg;go_wp2_with fail
  refine HH.out.mono ?_;rintro e w2 ⟨rfl,Qd⟩
  have QU:=yb (show zap w S p ((out++[60])++hexF (s.take (k+1))) w2 by
   rw [HT.out,<-List.append_assoc (out++[60])];exact zap.trans QD.out QE.out Qd)
  clear Qd HH;go_wp2
  go_roundw
  case rel=>exact ⟨k+1,by go_num,by omega,QU⟩
  case measure=>simp [intOf];omega
theorem baresW {w:World} {S:Nat->Prop} {p:Nat} {out:List UInt8} (h:WrQ w S p out) (s:List UInt8) (hl:out.length+2*s.length+4<=10000000) (hrd:zcb s=true) :
  Calls Tryz.prog 94 #[.pointer (some ⟨p,0,none⟩),.string (mkB s)] w fun e w'=>e=.returned (.tuple #[])/\zap w S p (out++zcc s) w':=by
 have Z4:=yb (show zcc s=40::(zb5 s++[41]) by unfold zcc;rw [yg hrd]);have Q3:=yb (fun W=>readableW s W (by omega));rw [hrd] at Q3;have HA:=yb (za0 h 40 40 rfl (by omega));have Qy:(mkB s).size=s.length:=zaR s;have QM:((mkB s).size:Int)=s.length:=by rw [Qy]
 have Z3:=yb Qy;have hm:(s.length:Int)<=10000000:=by omega
 clear hrd;go_enter Tryz.func94,Tryz.ntmps94
 go_wp2_with (go_at_call 130;refine (Q3.out _).mono ?_;rintro e w' ⟨rfl,rfl⟩)
 refine HA.out.mono ?_;rintro e w1 ⟨rfl,Qs⟩;have Qn:=yb Qs;clear Qs HA Q3;go_wp2
 go_loopw [34] (fun vk wr=>∃k:Nat,vk=.int .i64 k/\k<=s.length/\Hid (zap w S p ((out++[40])++zb5 (s.take k)) wr)) (fun vk _=>s.length-(intOf vk).toNat)
 case atStart=>exact ⟨0,rfl,Nat.zero_le _,yb (by rw [List.take_zero];simpa [zb5] using Qn.out)⟩
 case round =>
  obtain ⟨k,rfl,hk,HN⟩:=hrel;obtain ⟨S1,QO,Qt,QP⟩:=HN.out;have QC:=yb QO;have QD:=yb Qt;have QE:=yb QP
  have QB:((out++[40])++zb5 (s.take k)).length+2<=10000000\/k=s.length:=by
   have h1:=zdp (s.take k);rw [List.length_take] at h1;simp;omega
  have QY:((out++[40])++zb5 (s.take k)).length<=10000000:=by
   have h1:=zdp (s.take k);rw [List.length_take] at h1;simp;omega
  have Qz:=yb QB;have Zi:=yb QY;clear QO Qt QP HN Qn QB QY
  by_cases q1:k<s.length
  case neg =>
   have hd1:decide (k<s.length)=false:=ye q1;have Qo:decide ((k:Int)<(s.length:Int))=false:=ye (by omega);have Qc:¬(k:Int)<(s.length:Int):=by omega
   have QG:=yb (za0 QC.out 41 41 rfl Zi.out);have Z5:=yb (show s.take k=s from List.take_of_length_le (by omega));go_wp2_with fail
   refine QG.out.mono ?_;rintro e w2 ⟨rfl,Qd⟩
   have HE:=yb (show zap w S p (out++zcc s) w2 by
    have h3:=zap.trans QD.out QE.out Qd;rw [Z5.out] at h3;rw [Z4.out]
    simpa using h3)
   clear Qd;go_wp2
   first
    | go_end0
    | refine yi (results_none rfl _ _ _) rfl ?_
   exact ⟨rfl,HE.out⟩
  have hd1:decide (k<s.length)=true:=yd q1;have Qo:decide ((k:Int)<(s.length:Int))=true:=yd (by omega);have hk0:(0:Int)<=(k:Int):=by omega
  have QL:(k:Int)<(s.length:Int):=by omega
  have Qb:k<(mkB s).size:=by omega
  obtain ⟨c,hc⟩:∃c,c=s[k]'q1:=⟨_,rfl⟩;have Qg:s[k]?=some c:=by rw [hc];exact List.getElem?_eq_getElem q1
  have hT:=zeP Qg;obtain ⟨n,hn⟩:∃n,n=c.toNat:=⟨_,rfl⟩;have QN:((mkB s)[k]'Qb).toNat=n:=by rw [hn,hc];exact zfJ q1 Qb
  have hI:=fun W=>zd7 ⟨#[40,41,92]⟩ (c.toNat:Int) W;rw [u8_back] at hI;have YQ:decide (0<=Lib.indexByte [40,41,92] c)=decide (c∈[(40:UInt8),41,92]):=idx_memS _ _;have Zj:brF c=if c∈[(40:UInt8),41,92] then [92,c] else [c]:=by unfold brF;simp
  have YR:((out++[40])++zb5 (s.take k)).length+2<=10000000:=by rcases Qz.out with h|h;exact h;omega
  have QG:=yb (fun (S1:Nat->Prop) (W:World) (o:List UInt8) (hq:WrQ W S1 p o) (ho:o.length<=10000000)=>za0 hq c n (by rw [hn]) ho);have Q4:=yb (za0 QC.out 92 92 rfl Zi.out);rw [<-hn] at hI;have HI:=yb (show ∀W,Calls Tryz.prog 121 #[.string ⟨#[40,41,92]⟩,.int .u8 (n:Int)] W fun e w'=>e=.returned (.int .i64 (Lib.indexByte [40,41,92] c))/\W=w' from hI);have HT:=yb hT;have QA:=yb Zj;have QZ:=yb YR;clear hT hn hc Qg hI Zj YR;generalize Lib.indexByte [40,41,92] c=ix at *
  by_cases hm92:c∈[(40:UInt8),41,92]
  ·rw [yd hm92] at YQ
   have Qk:=yb (show brF c=[92,c] by rw [QA.out,yg hm92]);clear QA hm92;go_wp2_with (go_at_call 121;refine (HI.out _).mono ?_;rintro e w' ⟨rfl,rfl⟩)
   refine Q4.out.mono ?_;rintro e w2 ⟨rfl,Qd⟩;obtain ⟨S2,Qc,Qf,Qh⟩:=Qd;have Q5:=yb (QG.out S2 w2.drew _ (Qc.keep (Below.refl _ _).drew) (by have:=QZ.out;simp at this |-;omega))
   have Qp:=yb (fun (w3:World) (hN3:zap w2.drew S2 p ((((out++[40])++zb5 (s.take k))++[92])++[c]) w3)=>show zap w S p ((out++[40])++zb5 (s.take (k+1))) w3 by
    rw [HT.out,Qk.out];have h3:=zap.trans QD.out QE.out (zap.trans Qf Qh (zap.above (Below.refl _ _).drew hN3));rw [List.append_assoc _ [92]] at h3;rw [<-List.append_assoc (out++[40])];exact h3)
   clear Qc Qf Qh Q4 QG Qk HT;go_wp2
   go_region_with ((go_at_call 96;refine Q5.out.mono ?_;rintro e w3 ⟨rfl,hN3⟩;have Qu:=yb (Qp.out _ hN3);clear hN3))
   go_wp2
   go_roundw
   case rel=>exact ⟨k+1,by go_num,by omega,Qu⟩
   case measure=>simp [intOf];omega
  ·rw [ye hm92] at YQ
   have Qk:=yb (show brF c=[c] by rw [QA.out,yh hm92]);have Q5:=yb (QG.out S1 wr.drew _ (QC.out.keep (Below.refl _ _).drew) (by have:=QZ.out;omega))
   have Qp:=yb (fun (w3:World) (hN3:zap wr.drew S1 p (((out++[40])++zb5 (s.take k))++[c]) w3)=>show zap w S p ((out++[40])++zb5 (s.take (k+1))) w3 by
    rw [HT.out,Qk.out];have h3:=zap.trans QD.out QE.out (zap.above (Below.refl _ _).drew hN3);rw [<-List.append_assoc (out++[40])];exact h3)
   clear QA hm92 Q4 QG Qk HT;go_wp2_with (go_at_call 121;refine (HI.out _).mono ?_;rintro e w' ⟨rfl,rfl⟩)
   go_region_with ((go_at_call 96;refine Q5.out.mono ?_;rintro e w3 ⟨rfl,hN3⟩;have Qu:=yb (Qp.out _ hN3);clear hN3))
   go_wp2
   go_roundw
   case rel=>exact ⟨k+1,by go_num,by omega,Qu⟩
   case measure=>simp [intOf];omega
theorem textW {w:World} {S:Nat->Prop} {p:Nat} {out:List UInt8} (h:WrQ w S p out) (s:List UInt8) (hl:out.length+2*s.length+4<=10000000) :
  Calls Tryz.prog 94 #[.pointer (some ⟨p,0,none⟩),.string (mkB s)] w fun e w'=>e=.returned (.tuple #[])/\zap w S p (out++zcc s) w':=by
 cases hrd:zcb s
 ·exact hexsW h s hl hrd
 ·exact baresW h s hl hrd
theorem cellsByteW:Tryz.prog.cellsOf 5=1:=by kernel_rfl
theorem zhY {S:Nat->Prop} {w:World} {a:Addr} (h:S a.block) (n:Nat):zak S w (w.freeze a n):=by
 unfold World.freeze
 split
 ·exact zak.refl _ _
 ·exact ⟨rfl,rfl,rfl,by simp,fun b _ hn=>by
   simp only [Array.getElem?_modify];rw [yh (fun e:a.block=b=>hn (e▸h))]⟩
set_option maxRecDepth 100000 in
theorem stringW {w:World} {S:Nat->Prop} {p:Nat} {out:List UInt8} (h:WrQ w S p out) (h0:out≠[]) :
  Calls Tryz.prog 55 #[.pointer (some ⟨p,0,none⟩)] w fun e w'=>e=.returned (.string (mkB out))/\zak S w w':=by
 obtain ⟨ad,v,h⟩:=h;obtain ⟨-,c1⟩:=h.cells;have Xy:out.length≠0:=by simpa using h0
 obtain ⟨g,cap,cur,rfl,Vo,hg,YS,Xz,Qg,Zk⟩:∃g cap cur,v=.slice (some ⟨g,0,none⟩) out.length cap/\p+1<=g/\w.heap[g]?=some (.cells cur 5 (0,0))/\out.length<=cap/\cap<=maxLen/\cur.size=cap*1/\cur.toList.take (out.length*1)=out.map u8W:=by
  rcases h.row.2 with ⟨_,hz⟩|⟨g,cap,cur,hv,r⟩
  ·exact absurd hz Xy
  ·exact ⟨g,cap,cur,hv,r⟩
 have c1':w.drew.cell? ⟨p,1,none⟩=some (.slice (some ⟨g,0,none⟩) out.length cap):=c1
 have Vp:(Builtin.unsafeSliceData_ #[28] 158 #[.slice (some ⟨g,0,none⟩) out.length cap]).run Tryz.prog w.drew=.ok (.pointer (some ⟨g,0,none⟩)) w.drew :=
  Lib.run_unsafeSliceData_row _ _ _ _ _ _ (by omega)
 have Vq:(Builtin.unsafeString_ #[158,3] 9 #[.pointer (some ⟨g,0,none⟩),.int .i64 out.length]).run Tryz.prog w.drew=.ok (.string ⟨out.toArray⟩) (w.drew.freeze ⟨g,0,none⟩ out.length):=by
  refine Lib.run_unsafeString_row w.drew 158 3 9 5 Tryz.underlying158 cellsByteW g cur.size (by have XA:w.drew.heap[g]?=some (.cells cur 5 (0,0)):=hg;simp [World.shape?,XA]) out h0 (by omega) (by unfold maxLen at Xz;omega) ?_;intro j x hx;exact h.row.cells (g:=g) rfl j (u8W x) (by simp [hx])
 have HK:=yb (show zak S w (w.drew.freeze ⟨g,0,none⟩ out.length) from zak.trans ((zak.refl S w).drewN 1) (zhY (S:=S) (h.at_ g rfl) _) (fun _ hx=>.inl hx));clear h Zk Qg hg;go_enter Tryz.func55,Tryz.ntmps55
 go_wp2
 go_region
 all_goals
  go_wp2;go_ret;exact ⟨rfl,HK.out⟩
theorem zgp:∀(l m:List PV),zbU (l++m)=zbU l++zbU m
 | [],m=>rfl
 | x::l,m=>by simp only [List.cons_append,zbU,zgp l m,List.append_assoc]
theorem rowF_take {l:List PV} {k:Nat} {x:PV} (h:l[k]?=some x):rowF (l.take (k+1))=rowF (l.take k)++(if k=0 then zat x else 32::zat x):=by
 rw [List.take_add_one,h]
 cases l with
 | nil=>cases h
 | cons y l =>
  cases k with
  | zero =>
   have e:y=x:=by simpa using h
   subst e;simp [rowF,zbU]
  | succ k =>
   rw [List.take_succ_cons];simp only [Option.toList_some,List.cons_append,rowF,zgp,zbU,List.append_nil,List.append_assoc];rw [yh (by omega)]
theorem rowF_le {l:List PV} {k:Nat}:(rowF (l.take k)).length<=(rowF l).length:=by
 cases l with
 | nil=>simp
 | cons y l =>
  cases k with
  | zero=>simp [rowF]
  | succ k =>
   rw [List.take_succ_cons];simp only [rowF,List.length_append]
   have:(zbU (l.take k)).length<=(zbU l).length:=by
    have h:=zgp (l.take k) (l.drop k);rw [List.take_append_drop] at h;rw [h];simp
   omega
theorem WrQ.lt {w:World} {S:Nat->Prop} {p:Nat} {out:List UInt8} (h:WrQ w S p out) {b:Nat} (hb:S b):p<=b/\b<w.heap.size:=by obtain ⟨_,_,h⟩:=h;exact h.lt b hb
theorem IsV.wr {w w':World} {S:Nat->Prop} {p:Nat} {out:List UInt8} {v:PV} {sl:Value} (h:IsV w (fun b=>b<p) v sl) (hq:WrQ w S p out) (hk:zak S w w'):IsV w' (fun b=>b<p) v sl :=
 IsV.keep ⟨hk.size,fun b hb hF=>hk.block b hb (fun hS=>by have:=(hq.lt hS).1;omega)⟩ (fun _ h=>h) v h
def ValW (p:Nat) (x:PV):Prop:=∀(sx:Value) (W:World) (S:Nat->Prop) (o:List UInt8),IsV W (fun b=>b<p) x sx->WrQ W S p o->o.length+(zat x).length<=1000000 ->
 Calls Tryz.prog 54 #[.pointer (some ⟨p,0,none⟩),pvA x sx] W fun e w'=>e=.returned (.tuple #[])/\zap W S p (o++zat x) w'
theorem rowW {w:World} {S:Nat->Prop} {p:Nat} {out:List UInt8} {v:PV} {a:Option Addr} {cap:Nat} (h:WrQ w S p out) (hv:IsV w (fun b=>b<p) v (.slice a v.l.length cap)) (HX:∀(k:Nat) (x:PV),v.l[k]?=some x->ValW p x) (hl:out.length+(rowF v.l).length<=1000000) :
  Calls Tryz.prog 97 #[.pointer (some ⟨p,0,none⟩),.slice a v.l.length cap] w fun e w'=>e=.returned (.tuple #[])/\zap w S p (out++rowF v.l) w':=by
 have m1:(v.l.length:Int)<=9223372036854775807:=by obtain ⟨_,_,e,_,g2,_⟩:=hv.len;cases e;unfold maxLen at g2;omega
 have HV:=yb hv;have HQ:=yb h;have ZO:=yb HX;have HL:=yb hl;clear hv h HX hl;obtain ⟨la,Z6⟩:∃la,la=v.l:=⟨_,rfl⟩;have XB:=yb Z6;rw [<-Z6] at m1 HV ZO HL |-;clear Z6;go_enter Tryz.func97,Tryz.ntmps97
 go_wp2
 go_loopw [8] (fun vk wr=>∃k:Nat,vk=.int .i64 k/\k<=la.length/\Hid (zap w S p (out++rowF (la.take k)) wr)) (fun vk _=>la.length-(intOf vk).toNat)
 case atStart=>exact ⟨0,rfl,Nat.zero_le _,yb (by rw [List.take_zero];simpa [rowF] using zap.refl HQ.out)⟩
 case round =>
  obtain ⟨k,rfl,hk,HN⟩:=hrel
  by_cases q1:k<la.length
  case neg =>
   have hd1:decide (k<la.length)=false:=ye q1;have Qo:decide ((k:Int)<(la.length:Int))=false:=ye (by omega);have Qc:¬(k:Int)<(la.length:Int):=by omega
   have HE:=yb (show zap w S p (out++rowF la) wr by
    have h2:=HN.out
    rwa [List.take_of_length_le (by omega)] at h2)
   clear HN HV ZO HL;go_wp2;go_end0
   exact ⟨rfl,HE.out⟩
  obtain ⟨S1,QO,QL,QP⟩:=HN.out;obtain ⟨x,hx⟩:∃x,la[k]?=some x:=⟨_,List.getElem?_eq_getElem q1⟩;obtain ⟨-,-,-,b1,o1,rfl,-,-,Q6⟩:=(HV.out.wr HQ.out QL).at (by omega);rw [<-XB.out] at Q6;obtain ⟨sx,Q7,x0,x1,x2,x3⟩:=Q6 k x hx;obtain ⟨sa',sc',rfl,-,-,-⟩:=Q7.len;have hT:=rowF_take hx;have YT:(rowF (la.take (k+1))).length<=(rowF la).length:=rowF_le;have ZP:=yb (ZO.out k x hx);have Z7:=yb Q7;have QC:=yb QO;have QD:=yb QL;have QE:=yb QP;have Vr:(0:Int)<=(k:Int):=by omega
  have XC:(k:Int)<(la.length:Int):=by omega
  have hd1:decide (k<la.length)=true:=yd q1;have Qo:decide ((k:Int)<(la.length:Int))=true:=yd XC;have HT:=yb hT;have QV:=yb YT;clear Q6 hx Q7 QO QL QP hT YT HN HV ZO;have ZQ:=yb (zai wr (.cells #[.int .i64 x.kind,.int .i64 x.n,.string (mkB x.s),.slice sa' x.l.length sc'] 25));have Zl:=yb (zac (w:=wr) (b:=wr.heap.size) (.cells #[.int .i64 x.kind,.int .i64 x.n,.string (mkB x.s),.slice sa' x.l.length sc'] 25) rfl);have YU:=yb (show ¬S1 wr.heap.size from fun hS=>by have:=(QC.out.lt hS).2;omega)
  go_upto_region 3 with fail
  obtain ⟨r4,YV⟩:∃r4,r4=wr.heap.size:=⟨_,rfl⟩;rw [<-YV] at Zl YU |-;clear YV x0 x1 x2 x3;have Q0:=yb (QC.out.keep ZQ.out);have Q1:=yb (Z7.out.below ZQ.out);have YW:=yb ZQ.out;clear ZQ;generalize wr.alloc _=W4 at *
  by_cases hk0:k=0
  ·have Z8:decide ((0:Int)<(k:Int))=false:=ye (by omega)
   have Z9:decide (0<k)=false:=ye (by omega);have Ya:¬(0:Int)<(k:Int):=by omega
   have Qa:=yb (ZP.out _ W4 S1 _ Q1.out Q0.out (by
    have h1:=HT.out;have h2:=QV.out;have h3:=HL.out;rw [h1,yg hk0] at h2;simp only [List.length_append] at h2 |-;omega))
   have Qp:=yb (fun (w3:World) (hN3:zap W4 S1 p ((out++rowF (la.take k))++zat x) w3)=>show zap w S p (out++rowF (la.take (k+1))) w3 by
    rw [HT.out,yg hk0,<-List.append_assoc];exact zap.trans QD.out QE.out (zap.above YW.out hN3))
   simp only [pvA] at Qa;obtain ⟨⟨t0,t1,t2,t3⟩,-⟩:=zad Zl.out;clear hk0 ZP Q0 Q1 Z7;generalize x.kind=xk at *;generalize x.n=xn at *;generalize mkB x.s=xs at *;generalize x.l.length=xl at *;go_wp2_with fail
   refine Qa.out.mono ?_;rintro e w5 ⟨rfl,ZR⟩;have XD:=yb (Qp.out _ ZR);clear ZR Qp Qa t0 t1 t2 t3;go_wp2
   go_roundw
   case rel=>exact ⟨k+1,by go_num,by omega,XD⟩
   case measure=>simp [intOf];omega
  ·have Z8:decide ((0:Int)<(k:Int))=true:=yd (by omega)
   have Z9:decide (0<k)=true:=yd (by omega);have Ya:(0:Int)<(k:Int):=by omega
   have Zm:(out++rowF (la.take k)).length+(zat x).length+1<=1000000:=by
    have h1:=HT.out;have h2:=QV.out;have h3:=HL.out;rw [h1,yh hk0] at h2;simp only [List.length_append,List.length_cons] at h2 |-;omega
   have XE:=yb Zm;have QG:=yb (za0 Q0.out 32 32 rfl (by omega));have XF:=yb (show rowF (la.take (k+1))=rowF (la.take k)++32::zat x by rw [HT.out,yh hk0]);clear hk0 Zm;go_wp2_with fail
   refine QG.out.mono ?_;rintro e w5 ⟨rfl,ZR⟩;obtain ⟨S2,Qc,Qb,Qh⟩:=ZR;have XG:=yb ((Qb.block r4 (zb1 Zl.out) YU.out).trans Zl.out);have Qa:=yb (ZP.out _ w5 S2 _ (Q1.out.wr Q0.out Qb) Qc (by have:=XE.out;simp only [List.length_append,List.length_cons,List.length_nil] at this |-;omega))
   have Qp:=yb (fun (w3:World) (hN3:zap w5 S2 p (((out++rowF (la.take k))++[32])++zat x) w3)=>show zap w S p (out++rowF (la.take (k+1))) w3 by
    rw [XF.out,<-List.append_assoc];have h3:=zap.trans QD.out QE.out (zap.above YW.out (zap.trans Qb Qh hN3));rw [List.append_assoc _ [32]] at h3;exact h3)
   simp only [pvA] at Qa;obtain ⟨⟨t0,t1,t2,t3⟩,-⟩:=zad XG.out;clear ZP Q0 Q1 Z7 Qc Qb Qh QG Zl;generalize x.kind=xk at *;generalize x.n=xn at *;generalize mkB x.s=xs at *;generalize x.l.length=xl at *;go_wp2_with fail
   refine Qa.out.mono ?_;rintro e w6 ⟨rfl,YX⟩;have XH:=yb (Qp.out _ YX);clear YX Qp Qa t0 t1 t2 t3;go_wp2
   go_roundw
   case rel=>exact ⟨k+1,by go_num,by omega,XH⟩
   case measure=>simp [intOf];omega
theorem zdY {v:PV} (h:zaK v=0):ownC v=0:=by
 rw [zcg] at h
 by_cases e:ownC v=0
 ·exact e
 ·rw [yg e] at h;exact h
theorem first_memS {v:PV} (h:zaK v=0) (hk:v.kind=6\/v.kind=7) {k:Nat} {x:PV} (hx:v.l[k]?=some x):zaK x=0:=by
 have ho:=zdY h;rw [zcg,yh (by simp [ho]),yg hk] at h
 have:∀(l:List PV) (k:Nat),zbt l=0->l[k]?=some x->zaK x=0:=by
  intro l
  induction l with
  | nil=>intro k _ hx;cases hx
  | cons y l ih =>
   intro k h hx;simp only [zbt] at h
   split at h
   ·rename_i e;exact absurd h e
   ·rename_i e
    cases k with
    | zero =>
     have:y=x:=by simpa using hx
     subst this;omega
    | succ k=>exact ih k h (by simpa using hx)
 exact this v.l k h hx
theorem textF_ge (s:List UInt8):s.length+2<=(zcc s).length:=by
 unfold zcc
 split
 ·have:∀l:List UInt8,l.length<=(zb5 l).length:=fun l=>by
   induction l with
   | nil=>exact Nat.zero_le _
   | cons c l ih=>simp only [zb5,List.length_append,List.length_cons];split<;>(simp;omega)
  have:=this s;simp;omega
 ·have:=zeo s
  simp;omega
theorem nameF_ge:∀l:List UInt8,l.length<=(zby l).length
 | []=>Nat.zero_le _
 | c::l=>by
  have:=nameF_ge l;simp only [zby,List.length_append,List.length_cons]
  split<;>(simp [hexB];omega)
theorem intOf_any (n:Int) (w:World):Calls Tryz.prog 53 #[.int .i64 n] w fun e w'=>e=.returned (.agg #[.int .i64 2,.int .i64 n,.string ⟨#[]⟩,.slice none 0 0])/\Below w.heap.size w w':=by
 go_enter Tryz.func53,Tryz.ntmps53
 go_wp2;refine yi (results_cell_row rfl _ _ w.heap.size 25 _ (0,0) _ rfl (zac _ rfl) Tryz.underlying25 rfl (by kernel_rfl)) rfl ?_;exact ⟨rfl,zai _ _⟩
section
variable {w : World} {S : Nat -> Prop} {p : Nat} {out : List UInt8} {a : Option Addr} {cap : Nat}
theorem value_w0 (h:WrQ w S p out) (hl:out.length+4<=1000000) :
  Calls Tryz.prog 54 #[.pointer (some ⟨p,0,none⟩),.agg #[.int .i64 0,.int .i64 0,.string ⟨#[]⟩,.slice a 0 cap]] w fun e w'=>e=.returned (.tuple #[])/\zap w S p (out++[110,117,108,108]) w':=by
 have hb:=zai w (.cells #[.int .i64 0,.int .i64 0,.string ⟨#[]⟩,.slice a 0 cap] 25);have HB:=yb hb;have HW:=yb (zcz (h.keep hb) [110,117,108,108] (by simp;omega));rw [show mkB [110,117,108,108]=⟨#[110,117,108,108]⟩ from rfl] at HW;clear h hb;go_enter Tryz.func54,Tryz.ntmps54
 go_wp2_with (go_at_call 92;refine HW.out.mono ?_;rintro e w1 ⟨rfl,Qs⟩;have Qn:=yb (zap.above HB.out Qs);clear Qs)
 go_end0
 exact ⟨rfl,Qn.out⟩
theorem value_w4 (h:WrQ w S p out) (s:List UInt8) (hl:out.length+(zcc s).length<=1000000) :
  Calls Tryz.prog 54 #[.pointer (some ⟨p,0,none⟩),.agg #[.int .i64 4,.int .i64 0,.string (mkB s),.slice a 0 cap]] w fun e w'=>e=.returned (.tuple #[])/\zap w S p (out++zcc s) w':=by
 have hb:=zai w (.cells #[.int .i64 4,.int .i64 0,.string (mkB s),.slice a 0 cap] 25);have HB:=yb hb;have Yb:=textF_ge s;have HW:=yb (textW (h.keep hb) s (by omega));generalize zcc s=t at *;generalize mkB s=sb at *;clear h hb Yb;go_enter Tryz.func54,Tryz.ntmps54
 go_wp2_with (go_at_call 94;refine HW.out.mono ?_;rintro e w1 ⟨rfl,Qs⟩;have Qn:=yb (zap.above HB.out Qs);clear Qs)
 go_end0
 exact ⟨rfl,Qn.out⟩
theorem value_w5 (h:WrQ w S p out) (s:List UInt8) (hl:out.length+(47::zby s).length<=1000000) :
  Calls Tryz.prog 54 #[.pointer (some ⟨p,0,none⟩),.agg #[.int .i64 5,.int .i64 0,.string (mkB s),.slice a 0 cap]] w fun e w'=>e=.returned (.tuple #[])/\zap w S p (out++47::zby s) w':=by
 have hb:=zai w (.cells #[.int .i64 5,.int .i64 0,.string (mkB s),.slice a 0 cap] 25);have HB:=yb hb;have Yb:=nameF_ge s;have HW:=yb (nameW (h.keep hb) s (by simp at hl;omega));generalize 47::zby s=t at *;generalize mkB s=sb at *;clear h hb Yb;go_enter Tryz.func54,Tryz.ntmps54
 go_wp2_with (go_at_call 95;refine HW.out.mono ?_;rintro e w1 ⟨rfl,Qs⟩;have Qn:=yb (zap.above HB.out Qs);clear Qs)
 go_end0
 exact ⟨rfl,Qn.out⟩
theorem value_wn (h:WrQ w S p out) (k n:Int) (hk:k=2\/k=3) (hl:out.length+(zaT k n true).1.length<=1000000) :
  Calls Tryz.prog 54 #[.pointer (some ⟨p,0,none⟩),.agg #[.int .i64 k,.int .i64 n,.string ⟨#[]⟩,.slice a 0 cap]] w fun e w'=>e=.returned (.tuple #[])/\zap w S p (out++(zaT k n true).1) w':=by
 have hb:=zai w (.cells #[.int .i64 k,.int .i64 n,.string ⟨#[]⟩,.slice a 0 cap] 25);have HB:=yb hb;have HP:=yb (fun W=>print_any k n ⟨#[]⟩ a 0 cap W (by omega));rw [show zbA ⟨#[]⟩ 0=true from rfl] at HP;unfold zcn at HP;generalize zaT k n true=R at *;obtain ⟨t,er⟩:=R;simp only at HP hl |-;have HQ:=yb (fun (W:World) (hW:Below w.heap.size w W)=>zcz (h.keep hW) t (by omega));rw [show mkS t=mkB t from rfl] at HP;generalize mkB t=sb at *;clear h hb;rcases hk with rfl|rfl
 all_goals
  go_enter Tryz.func54,Tryz.ntmps54
  go_wp2_with (go_at_call 93;refine (HP.out _).mono ?_;rintro e w1 ⟨rfl,Qr⟩;have Qq:=yo HB Qr;clear Qr)
  refine (HQ.out _ Qq.out).mono ?_;rintro e w2 ⟨rfl,Qd⟩;have QU:=yb (zap.above Qq.out Qd);clear Qd;go_wp2;go_end0
  exact ⟨rfl,QU.out⟩
end
section
variable {w : World} {S : Nat -> Prop} {p : Nat} {out : List UInt8} {a : Option Addr} {cap : Nat}
theorem value_w8 (h:WrQ w S p out) (n:Int) (hl:out.length+((zaT 2 n true).1++[32,48,32,82]).length<=1000000) :
  Calls Tryz.prog 54 #[.pointer (some ⟨p,0,none⟩),.agg #[.int .i64 8,.int .i64 n,.string ⟨#[]⟩,.slice a 0 cap]] w fun e w'=>e=.returned (.tuple #[])/\zap w S p (out++((zaT 2 n true).1++[32,48,32,82])) w':=by
 have hb:=zai w (.cells #[.int .i64 8,.int .i64 n,.string ⟨#[]⟩,.slice a 0 cap] 25);have HB:=yb hb;have HI:=yb (fun W=>intOf_any n W);have HP:=yb (fun W=>print_any 2 n ⟨#[]⟩ none 0 0 W (by omega));rw [show zbA ⟨#[]⟩ 0=true from rfl] at HP;unfold zcn at HP;generalize zaT 2 n true=R at *;obtain ⟨t,er⟩:=R;simp only at HP hl |-;have HQ:=yb (fun (W:World) (hW:Below w.heap.size w W)=>zcz (h.keep hW) (t++[32,48,32,82]) (by omega))
 have XI:mkS t++⟨#[32,48,32,82]⟩=mkB (t++[32,48,32,82]):=by
  apply ByteArray.ext
  rw [ByteArray.data_append];simp [mkS,mkB]
 have Vs:(mkS t).size<=1000000:=by rw [zbP];simp at hl;omega
 generalize mkB (t++[32,48,32,82])=sb at *;generalize mkS t=st at *;clear h hb;go_enter Tryz.func54,Tryz.ntmps54
 go_wp2_with (first|(go_at_call 53;refine (HI.out _).mono ?_;rintro e w0 ⟨rfl,YY⟩;have XJ:=yo HB YY;clear YY)|(go_at_call 93;refine (HP.out _).mono ?_;rintro e w1 ⟨rfl,Qr⟩;have Qq:=yo XJ Qr;clear Qr))
 refine (HQ.out _ Qq.out).mono ?_;rintro e w2 ⟨rfl,Qd⟩;have QU:=yb (zap.above Qq.out Qd);clear Qd;go_wp2;go_end0
 exact ⟨rfl,QU.out⟩
theorem value_w6 {v:PV} (h:WrQ w S p out) (hk:v.kind=6) (hn0:v.n=0) (hs0:v.s=[]) (hv:IsV w (fun b=>b<p) v (.slice a v.l.length cap)) (HX:∀(k:Nat) (x:PV),v.l[k]?=some x->ValW p x) (hl:out.length+(91::(rowF v.l++[93])).length<=1000000) :
  Calls Tryz.prog 54 #[.pointer (some ⟨p,0,none⟩),pvA v (.slice a v.l.length cap)] w fun e w'=>e=.returned (.tuple #[])/\zap w S p (out++91::(rowF v.l++[93])) w':=by
 unfold pvA;rw [hk,hn0,hs0,show mkB []=⟨#[]⟩ from rfl];have hb:=zai w (.cells #[.int .i64 6,.int .i64 0,.string ⟨#[]⟩,.slice a v.l.length cap] 25);have HB:=yb hb;have Zn:out.length+(rowF v.l).length+2<=1000000:=by simp only [List.length_cons,List.length_append,List.length_nil] at hl;omega
 have HW:=yb (za0 (h.keep hb) 91 91 rfl (by omega));have HK:=yb (zac (w:=w) (b:=w.heap.size) (.cells #[.int .i64 6,.int .i64 0,.string ⟨#[]⟩,.slice a v.l.length cap] 25) rfl);have Zo:=yb (hv.below hb);have Zp:=yb (h.keep hb);have QI:=yb (show ¬S w.heap.size from fun hS=>by have:=(h.lt hS).2;omega);have HR:=yb (fun (W:World) (S1:Nat->Prop) (o:List UInt8) (hq:WrQ W S1 p o) (hvv:IsV W (fun b=>b<p) v (.slice a v.l.length cap)) (ho:o.length+(rowF v.l).length<=1000000)=>rowW hq hvv HX ho);have HL:=yb Zn;clear h hb hv HX hl hk hn0 hs0 Zn;generalize hrf:rowF v.l=rf at *;generalize hvl:v.l.length=m at *;clear hrf hvl;go_enter Tryz.func54,Tryz.ntmps54
 go_upto_region 1 with fail
 obtain ⟨B,hB⟩:∃B,B=w.heap.size:=⟨_,rfl⟩;rw [<-hB] at HK QI |-;clear hB;generalize w.alloc _=W1 at *;obtain ⟨⟨c0,c1,c2,c3⟩,-⟩:=zad HK.out;go_wp2_with fail
 refine HW.out.mono ?_;rintro e w2 ⟨rfl,Qd⟩;obtain ⟨S2,Qc,Qb,Qh⟩:=Qd;have Zq:=yb ((Qb.block B (zb1 HK.out) QI.out).trans HK.out);have Zr:=yb (HR.out w2 S2 _ Qc (Zo.out.wr Zp.out Qb) (by have:=HL.out;simp;omega));have Ql:=yb (⟨Qb,Qh⟩:_/\_);clear Qc Qb Qh HR HW HK Zo Zp QI c0 c1 c2 c3;obtain ⟨⟨c0,c1,c2,c3⟩,-⟩:=zad Zq.out;go_wp2_with fail
 refine Zr.out.mono ?_;rintro e w3 ⟨rfl,hN3⟩;obtain ⟨S3,Zs,QS,Zt⟩:=hN3;have QW:=yb (za0 Zs 93 93 rfl (by have:=HL.out;simp;omega));have Zu:=yb (⟨QS,Zt⟩:_/\_);clear Zs QS Zt Zr Zq c0 c1 c2 c3;go_wp2_with fail
 refine QW.out.mono ?_;rintro e w4 ⟨rfl,Q8⟩
 have Yc:=yb (show zap w S p (out++91::(rf++[93])) w4 by
  have h5:=zap.above HB.out (zap.trans Ql.out.1 Ql.out.2 (zap.trans Zu.out.1 Zu.out.2 Q8))
  simpa using h5)
 clear Q8;go_wp2;go_end0
 exact ⟨rfl,Yc.out⟩
theorem value_w7 {v:PV} (h:WrQ w S p out) (hk:v.kind=7) (hn0:v.n=0) (hs0:v.s=[]) (hv:IsV w (fun b=>b<p) v (.slice a v.l.length cap)) (HX:∀(k:Nat) (x:PV),v.l[k]?=some x->ValW p x) (hl:out.length+(60::60::(rowF v.l++[62,62])).length<=1000000) :
  Calls Tryz.prog 54 #[.pointer (some ⟨p,0,none⟩),pvA v (.slice a v.l.length cap)] w fun e w'=>e=.returned (.tuple #[])/\zap w S p (out++60::60::(rowF v.l++[62,62])) w':=by
 unfold pvA;rw [hk,hn0,hs0,show mkB []=⟨#[]⟩ from rfl];have hb:=zai w (.cells #[.int .i64 7,.int .i64 0,.string ⟨#[]⟩,.slice a v.l.length cap] 25);have HB:=yb hb;have Zn:out.length+(rowF v.l).length+4<=1000000:=by simp only [List.length_cons,List.length_append,List.length_nil] at hl;omega
 have HW:=yb (zcz (h.keep hb) [60,60] (by simp;omega));rw [show mkB [60,60]=⟨#[60,60]⟩ from rfl] at HW;have HK:=yb (zac (w:=w) (b:=w.heap.size) (.cells #[.int .i64 7,.int .i64 0,.string ⟨#[]⟩,.slice a v.l.length cap] 25) rfl);have Zo:=yb (hv.below hb);have Zp:=yb (h.keep hb);have QI:=yb (show ¬S w.heap.size from fun hS=>by have:=(h.lt hS).2;omega);have HR:=yb (fun (W:World) (S1:Nat->Prop) (o:List UInt8) (hq:WrQ W S1 p o) (hvv:IsV W (fun b=>b<p) v (.slice a v.l.length cap)) (ho:o.length+(rowF v.l).length<=1000000)=>rowW hq hvv HX ho);have HL:=yb Zn;clear h hb hv HX hl hk hn0 hs0 Zn;generalize hrf:rowF v.l=rf at *;generalize hvl:v.l.length=m at *;clear hrf hvl;go_enter Tryz.func54,Tryz.ntmps54
 go_upto_region 1 with fail
 obtain ⟨B,hB⟩:∃B,B=w.heap.size:=⟨_,rfl⟩;rw [<-hB] at HK QI |-;clear hB;generalize w.alloc _=W1 at *;obtain ⟨⟨c0,c1,c2,c3⟩,-⟩:=zad HK.out;go_wp2_with fail
 refine HW.out.mono ?_;rintro e w2 ⟨rfl,Qd⟩;obtain ⟨S2,Qc,Qb,Qh⟩:=Qd;have Zq:=yb ((Qb.block B (zb1 HK.out) QI.out).trans HK.out);have Zr:=yb (HR.out w2 S2 _ Qc (Zo.out.wr Zp.out Qb) (by have:=HL.out;simp;omega));have Ql:=yb (⟨Qb,Qh⟩:_/\_);clear Qc Qb Qh HR HW HK Zo Zp QI c0 c1 c2 c3;obtain ⟨⟨c0,c1,c2,c3⟩,-⟩:=zad Zq.out;go_wp2_with fail
 refine Zr.out.mono ?_;rintro e w3 ⟨rfl,hN3⟩;obtain ⟨S3,Zs,QS,Zt⟩:=hN3;have QW:=yb (zcz Zs [62,62] (by have:=HL.out;simp;omega));rw [show mkB [62,62]=⟨#[62,62]⟩ from rfl] at QW;have Zu:=yb (⟨QS,Zt⟩:_/\_);clear Zs QS Zt Zr Zq c0 c1 c2 c3;go_wp2_with fail
 refine QW.out.mono ?_;rintro e w4 ⟨rfl,Q8⟩
 have Yc:=yb (show zap w S p (out++60::60::(rf++[62,62])) w4 by
  have h5:=zap.above HB.out (zap.trans Ql.out.1 Ql.out.2 (zap.trans Zu.out.1 Zu.out.2 Q8))
  simpa using h5)
 clear Q8;go_wp2;go_end0
 exact ⟨rfl,Yc.out⟩
theorem value_w1a (h:WrQ w S p out) (hl:out.length+5<=1000000) :
  Calls Tryz.prog 54 #[.pointer (some ⟨p,0,none⟩),.agg #[.int .i64 1,.int .i64 0,.string ⟨#[]⟩,.slice a 0 cap]] w fun e w'=>e=.returned (.tuple #[])/\zap w S p (out++[102,97,108,115,101]) w':=by
 have hb:=zai w (.cells #[.int .i64 1,.int .i64 0,.string ⟨#[]⟩,.slice a 0 cap] 25);have HB:=yb hb;have HK:=yb (zac (w:=w) (b:=w.heap.size) (.cells #[.int .i64 1,.int .i64 0,.string ⟨#[]⟩,.slice a 0 cap] 25) rfl);have HQ:=yb (fun (W:World) (hW:Below w.heap.size w W)=>zcz (h.keep hW) [102,97,108,115,101] (by simp;omega));rw [show mkB [102,97,108,115,101]=⟨#[102,97,108,115,101]⟩ from rfl] at HQ;have QI:=yb (show ¬S w.heap.size from fun hS=>by have:=(h.lt hS).2;omega);clear h hb;go_enter Tryz.func54,Tryz.ntmps54
 go_upto_region 1 with fail
 obtain ⟨B,hB⟩:∃B,B=w.heap.size:=⟨_,rfl⟩;rw [<-hB] at HK QI |-;clear hB;generalize w.alloc _=W1 at *;obtain ⟨⟨c0,c1,c2,c3⟩,-⟩:=zad HK.out;have HA:=yb (zai W1 (.cells #[.string ⟨#[102,97,108,115,101]⟩,.string ⟨#[116,114,117,101]⟩] 9));have HC:=yb (cell?_keep HA.out c1);have Zv:=yb (zal (.cells #[.string ⟨#[102,97,108,115,101]⟩,.string ⟨#[116,114,117,101]⟩] 9) HK.out);have HD:=yb (show Below w.heap.size w (W1.alloc (.cells #[.string ⟨#[102,97,108,115,101]⟩,.string ⟨#[116,114,117,101]⟩] 9)).drew from (HB.out.trans (HA.out.mono HB.out.size)).drew)
 have HF:=yb (fun (w3:World) (hN:zap (W1.alloc (.cells #[.string ⟨#[102,97,108,115,101]⟩,.string ⟨#[116,114,117,101]⟩] 9)).drew S p (out++[102,97,108,115,101]) w3)=>show zap w S p (out++[102,97,108,115,101]) w3/\w3.cell? ⟨B,1,none⟩=some (.int .i64 0) by
  obtain ⟨S3,q3,k3,s3⟩:=hN;refine ⟨zap.above HD.out ⟨S3,q3,k3,s3⟩,?_⟩;have h3:w3.heap[B]?=_:=(k3.block B (by show B<(W1.alloc _).heap.size;exact zb1 Zv.out) QI.out).trans Zv.out;rw [cell_of_row w3 B 1 _ _ _ h3];rfl)
 have XK:=HC.out
 have XL:(W1.alloc (.cells #[.string ⟨#[102,97,108,115,101]⟩,.string ⟨#[116,114,117,101]⟩] 9)).cell? ⟨W1.heap.size,0,none⟩=some (.string ⟨#[102,97,108,115,101]⟩):=by
  rw [cell_of_row _ _ 0 _ _ _ (zac _ rfl)];rfl
 go_wp2
 go_region_with ((go_at_call 92;(with_reducible refine (HQ.out _ HD.out).mono ?_);rintro e w3 ⟨rfl,hN3⟩;have Qu:=yb (HF.out _ hN3).1;clear hN3))
 all_goals
  go_wp2;go_end0
  exact ⟨rfl,Qu.out⟩
theorem value_w1b (h:WrQ w S p out) (hl:out.length+4<=1000000) :
  Calls Tryz.prog 54 #[.pointer (some ⟨p,0,none⟩),.agg #[.int .i64 1,.int .i64 1,.string ⟨#[]⟩,.slice a 0 cap]] w fun e w'=>e=.returned (.tuple #[])/\zap w S p (out++[116,114,117,101]) w':=by
 have hb:=zai w (.cells #[.int .i64 1,.int .i64 1,.string ⟨#[]⟩,.slice a 0 cap] 25);have HB:=yb hb;have HK:=yb (zac (w:=w) (b:=w.heap.size) (.cells #[.int .i64 1,.int .i64 1,.string ⟨#[]⟩,.slice a 0 cap] 25) rfl);have HQ:=yb (fun (W:World) (hW:Below w.heap.size w W)=>zcz (h.keep hW) [116,114,117,101] (by simp;omega));rw [show mkB [116,114,117,101]=⟨#[116,114,117,101]⟩ from rfl] at HQ;have QI:=yb (show ¬S w.heap.size from fun hS=>by have:=(h.lt hS).2;omega);clear h hb;go_enter Tryz.func54,Tryz.ntmps54
 go_upto_region 1 with fail
 obtain ⟨B,hB⟩:∃B,B=w.heap.size:=⟨_,rfl⟩;rw [<-hB] at HK QI |-;clear hB;generalize w.alloc _=W1 at *;obtain ⟨⟨c0,c1,c2,c3⟩,-⟩:=zad HK.out;have HA:=yb (zai W1 (.cells #[.string ⟨#[102,97,108,115,101]⟩,.string ⟨#[116,114,117,101]⟩] 9));have HC:=yb (cell?_keep HA.out c1);have Zv:=yb (zal (.cells #[.string ⟨#[102,97,108,115,101]⟩,.string ⟨#[116,114,117,101]⟩] 9) HK.out);have HD:=yb (show Below w.heap.size w (W1.alloc (.cells #[.string ⟨#[102,97,108,115,101]⟩,.string ⟨#[116,114,117,101]⟩] 9)).drew from (HB.out.trans (HA.out.mono HB.out.size)).drew)
 have HF:=yb (fun (w3:World) (hN:zap (W1.alloc (.cells #[.string ⟨#[102,97,108,115,101]⟩,.string ⟨#[116,114,117,101]⟩] 9)).drew S p (out++[116,114,117,101]) w3)=>show zap w S p (out++[116,114,117,101]) w3/\w3.cell? ⟨B,1,none⟩=some (.int .i64 1) by
  obtain ⟨S3,q3,k3,s3⟩:=hN;refine ⟨zap.above HD.out ⟨S3,q3,k3,s3⟩,?_⟩;have h3:w3.heap[B]?=_:=(k3.block B (by show B<(W1.alloc _).heap.size;exact zb1 Zv.out) QI.out).trans Zv.out;rw [cell_of_row w3 B 1 _ _ _ h3];rfl)
 have XK:=HC.out
 have XL:(W1.alloc (.cells #[.string ⟨#[102,97,108,115,101]⟩,.string ⟨#[116,114,117,101]⟩] 9)).cell? ⟨W1.heap.size,1,none⟩=some (.string ⟨#[116,114,117,101]⟩):=by
  rw [cell_of_row _ _ 1 _ _ _ (zac _ rfl)];rfl
 go_wp2
 go_region_with ((go_at_call 92;(with_reducible refine (HQ.out _ HD.out).mono ?_);rintro e w3 ⟨rfl,hN3⟩;have Qu:=yb (HF.out _ hN3).1;clear hN3))
 all_goals
  go_wp2;go_end0
  exact ⟨rfl,Qu.out⟩
end
theorem valueW (p:Nat):∀(N:Nat) (v:PV),SizeOf.sizeOf v<=N->zaK v=0->ValW p v:=by
 intro N
 induction N with
 | zero=>intro v h;obtain ⟨_,_,_,_⟩:=v;simp at h
 | succ N ih =>
 intro v hN hf sx W S o hv hq hl;obtain ⟨a,cap,e1,-,-,-⟩:=hv.len;subst e1;have HX:(v.kind=6\/v.kind=7)->∀(k:Nat) (x:PV),v.l[k]?=some x->ValW p x:=fun hk k x hx=>ih x (by have:=zb3 hx;omega) (first_memS hf hk hx);have ho:=zeE (zdY hf);rcases ho with ⟨h1,h2,h3,h4⟩|⟨h1,h2,h3,h4⟩|⟨h1,h2,h3,h4⟩|⟨h1,h2,h4⟩|⟨h1,-,h2,h4⟩|⟨h1,h2,h3⟩|⟨h1,h2,h3⟩|⟨h1,h2,h3,h4⟩
 ·obtain ⟨k,n,s,l⟩:=v
  simp only [PV.kind,PV.n,PV.s,PV.l] at h1 h2 h3 h4;subst h1 h2 h3 h4;have e:zat (.mk 0 0 [] [])=[110,117,108,108]:=by simp [zat]
  rw [e] at hl |-;exact value_w0 hq (by simpa using hl)
 ·obtain ⟨k,n,s,l⟩:=v
  simp only [PV.kind,PV.n,PV.s,PV.l] at h1 h2 h3 h4;subst h1 h3 h4;rcases h2 with rfl|rfl
  ·have e:zat (.mk 1 0 [] [])=[102,97,108,115,101]:=by simp [zat]
   rw [e] at hl |-;exact value_w1a hq (by simpa using hl)
  ·have e:zat (.mk 1 1 [] [])=[116,114,117,101]:=by simp [zat]
   rw [e] at hl |-;exact value_w1b hq (by simpa using hl)
 ·obtain ⟨k,n,s,l⟩:=v
  simp only [PV.kind,PV.n,PV.s,PV.l] at h1 h2 h3 h4;subst h3 h4;have e:zat (.mk k n [] [])=(zaT k n true).1:=by rcases h1 with rfl|rfl<;>simp [zat]
  rw [e] at hl |-;exact value_wn hq k n h1 hl
 ·obtain ⟨k,n,s,l⟩:=v
  simp only [PV.kind,PV.n,PV.l] at h1 h2 h4;subst h1 h2 h4;have e:zat (.mk 4 0 s [])=zcc s:=by simp [zat]
  rw [e] at hl |-;exact value_w4 hq s hl
 ·obtain ⟨k,n,s,l⟩:=v
  simp only [PV.kind,PV.n,PV.l] at h1 h2 h4;subst h1 h2 h4;have e:zat (.mk 5 0 s [])=47::zby s:=by simp [zat]
  rw [e] at hl |-;exact value_w5 hq s hl
 ·have e:zat v=91::(rowF v.l++[93]):=by
   obtain ⟨k,n,s,l⟩:=v;simp only [PV.kind] at h1;subst h1;simp [zat,PV.l]
  rw [e] at hl |-;exact value_w6 hq h1 h2 h3 hv (HX (.inl h1)) hl
 ·have e:zat v=60::60::(rowF v.l++[62,62]):=by
   obtain ⟨k,n,s,l⟩:=v;simp only [PV.kind] at h1;subst h1;simp [zat,PV.l]
  rw [e] at hl |-;exact value_w7 hq h1 h2 h3 hv (HX (.inr h1)) hl
 ·obtain ⟨k,n,s,l⟩:=v
  simp only [PV.kind,PV.n,PV.s,PV.l] at h1 h2 h3 h4;subst h1 h3 h4;have e:zat (.mk 8 n [] [])=(zaT 2 n true).1++[32,48,32,82]:=by simp [zat]
  rw [e] at hl |-;exact value_w8 hq n hl
theorem printNe {k:Int} (h1:k=2\/k=3) (n:Int):(zbX n++absL k n.natAbs,(0:Int)).1≠[]:=by
 intro e;have hl:=congrArg List.length e;have h2:=(za4 n.natAbs).2.2;simp only [List.length_append,List.length_nil] at hl;rcases h1 with rfl|rfl
 ·simp only [absL,yg] at hl
  omega
 ·simp [absL] at hl
theorem formV_ne {v:PV} (h:zaK v=0):zat v≠[]:=by
 have ho:=zeE (zdY h);obtain ⟨k,n,s,l⟩:=v;simp only [PV.kind,PV.n,PV.s,PV.l] at ho;rcases ho with ⟨h1,-⟩|⟨h1,h2,-⟩|⟨h1,h2,-⟩|⟨h1,-⟩|⟨h1,-⟩|⟨h1,-⟩|⟨h1,-⟩|⟨h1,h2,-⟩
 ·subst h1;simp [zat]
 ·subst h1;rcases h2 with rfl|rfl<;>simp [zat]
 ·have e:zat (.mk k n s l)=(zaT k n true).1:=by rcases h1 with rfl|rfl<;>simp [zat]
  rw [e,zfT h2];exact printNe h1 n
 ·subst h1
  have:=textF_ge s;simp [zat];intro e;rw [e] at this;simp at this
 ·subst h1;simp [zat]
 ·subst h1;simp [zat]
 ·subst h1;simp [zat]
 ·subst h1;simp [zat]
theorem wr_new (w:World) {p:Nat} (hp:p=w.heap.size):WrQ (w.alloc (.cells #[.pointer none,.slice none 0 0] 109)) (fun b=>b=p) p [] :=
 ⟨.pointer none,.slice none 0 0,zac _ hp,.inl rfl,World.ownsRow_nil _ _ _ _,fun b hb=>(by cases hb),rfl,fun b hb=>by rw [hb,zaq,hp];omega⟩
theorem keeps_bel {w w1 w2:World} {S:Nat->Prop} {p:Nat} (hb:Below w.heap.size w w1) (hk:zak S w1 w2) (hS:∀b,S b->p<=b) (hp:w.heap.size<=p):Below w.heap.size w w2 :=
 hb.trans ⟨hk.os,hk.tape,hk.output,hk.size,fun b QT=>hk.block b (Nat.lt_of_lt_of_le QT hb.size) (fun h=>by have:=hS b h;omega)⟩
theorem zeh {v:PV} {sl:Value} {w:World} (hv:IsV w anyF v sl) (hd:zaZ v<=1000) (hl:(zat v).length<=1000000) :
  Calls Tryz.prog 25 #[pvA v sl] w fun e w'=>e=.returned (.tuple #[.string (mkB (zdC v).1),.int .i64 (zdC v).2])/\Below w.heap.size w w':=by
 have HC:=yb (fun (W:World) (h:Below w.heap.size w W)=>zg0 (hv.below h) hd);have Yd:=yb (IsV.ltS v hv);obtain ⟨R,hR⟩:∃R,R=zdC v:=⟨_,rfl⟩;rw [<-hR];unfold zdC at hR;have HR:=yb hR;have HW:=yb (fun (p:Nat) (hc:zbG v=0)=>valueW p _ v (yp _) (by unfold zbG at hc;split at hc;cases hc;exact hc));have Zw:=yb (fun (hc:zbG v=0)=>formV_ne (v:=v) (by unfold zbG at hc;split at hc;cases hc;exact hc));obtain ⟨a1,cap1,rfl,-,-,-⟩:=hv.len;unfold pvA at HC |-;unfold ValW pvA at HW;clear hv hR;generalize zbG v=cc at *;generalize zat v=fv at *;generalize v.kind=k0 at *;generalize v.n=n0 at *;generalize mkB v.s=s0 at *;generalize v.l.length=m at *;go_enter Tryz.func25,Tryz.ntmps25
 obtain ⟨B,hB⟩:∃B,B=w.heap.size:=⟨_,rfl⟩;have Qv:=yb (zac (w:=w) (b:=B) (.cells #[.int .i64 k0,.int .i64 n0,.string s0,.slice a1 m cap1] 25) hB);have Ye:=yb (zai w (.cells #[.int .i64 k0,.int .i64 n0,.string s0,.slice a1 m cap1] 25))
 go_upto_region 1 with fail
 rw [<-hB];clear hB;generalize w.alloc _=W1 at *;obtain ⟨⟨c0,c1,c2,c3⟩,-⟩:=zad Qv.out;go_wp2_with fail
 refine (HC.out _ Ye.out).mono ?_;rintro e w2 ⟨rfl,QT⟩;have QR:=yb (zab QT Qv.out);have Q5:=yo Ye QT;clear QT c0 c1 c2 c3 Qv Ye HC;have hR:=HR.out
 by_cases hc:cc=0
 case neg =>
  have e0:(cc==0)=false:=by rw [yf];exact hc
  have e1:(cc != 0)=true:=by simp only [bne,e0,yj]
  rw [yg hc] at hR;subst hR;clear HR HW Zw Yd hc;go_wp2;go_ret2;exact ⟨rfl,Q5.out⟩
 rw [yh (by simpa using hc)] at hR;subst hR;have YZ:=yb (fun p=>HW.out p hc);have XM:=yb (Zw.out hc);subst hc;clear HR HW Zw;have Y0:=yb (wr_new w2 (p:=w2.heap.size) rfl);have Yf:=zai w2 (.cells #[.pointer none,.slice none 0 0] 109);have Ze:=yb (zab Yf QR.out);have QW:=yo Q5 Yf;have XN:=yb (show B<w2.heap.size from zb1 QR.out);have ZS:=yb Q5.out.size;clear Yf QR
 go_upto_region 5 with fail
 obtain ⟨p,hp⟩:∃p,p=w2.heap.size:=⟨_,rfl⟩;rw [<-hp] at Y0 XN ZS |-;clear hp;generalize w2.alloc _=W3 at *;have Y1:=yb (IsV.keep (G:=fun b=>b<p) (zaU.of_below QW.out) (fun b hb=>by have:=hb.2;have:=ZS.out;omega) _ Yd.out);have Qa:=yb (YZ.out p _ W3 _ [] Y1.out Y0.out (by simpa using hl));rw [List.nil_append] at Qa;obtain ⟨⟨c0,c1,c2,c3⟩,-⟩:=zad Ze.out;clear Yd Y1 YZ;go_wp2_with fail
 refine Qa.out.mono ?_;rintro e w4 ⟨rfl,Q8⟩;obtain ⟨S4,q4,k4,s4⟩:=Q8;have XO:=yb (keeps_bel QW.out k4 (p:=p) (fun b hb=>by rw [hb];exact yp _) ZS.out);have Yg:=yb (stringW q4 XM.out);have Q1:=yb (fun b hb=>(q4.lt (b:=b) hb).1);clear q4 k4 s4 Qa c0 c1 c2 c3;go_wp2_with fail
 refine Yg.out.mono ?_;rintro e w5 ⟨rfl,k5⟩;have Zx:=yb (keeps_bel XO.out k5 Q1.out ZS.out);clear k5;go_wp2;go_ret2;exact ⟨rfl,Zx.out⟩
theorem showV_num {n:Int} (h0:0<=n) (h:n<=2147483647):zdC (.mk 2 n [] [])=(numF n,0):=by
 have hc:zaM 2 n true=0:=by unfold zaM;simp;omega
 have ho:ownC (.mk 2 n [] [])=0:=by simp [ownC,hc]
 have hf:zaK (.mk 2 n [] [])=0:=by rw [zcg,ho];rfl
 have Zy:zbG (.mk 2 n [] [])=0:=by unfold zbG;rw [hf];rfl
 unfold zdC;rw [Zy,yh (by decide)];rfl
theorem whole_any {n:Int} (w:World) (h0:0<=n) (h:n<=2147483647):Calls Tryz.prog 24 #[.int .i64 n] w fun e w'=>e=.returned (.string (mkB (numF n)))/\Below w.heap.size w w':=by
 have HI:=yb (fun W=>intOf_any n W);have HV:=yb (fun W=>zeh (v:=.mk 2 n [] []) (sl:=.slice none 0 0) (w:=W) (IsV.leaf W anyF _ rfl) (by rw [zep,yh (by simp [PV.kind])];decide) (by have:=zdg n;unfold numF at this;omega));rw [showV_num h0 h] at HV;unfold pvA at HV;simp only [PV.kind,PV.n,PV.s,show mkB []=⟨#[]⟩ from rfl] at HV;clear h0 h;generalize mkB (numF n)=T at *;go_enter Tryz.func24,Tryz.ntmps24
 go_wp2_with fail
 refine (HI.out _).mono ?_;rintro e w1 ⟨rfl,Qr⟩;have Qq:=yb Qr;clear Qr;go_wp2_with fail
 refine (HV.out _).mono ?_;rintro e w2 ⟨rfl,QT⟩;have Qw:=yo Qq QT;clear QT;go_wp2;go_ret;exact ⟨rfl,Qw.out⟩
def prB (s:Sec):List UInt8:=if zbR s=0 then secL s else []
theorem EByteP:zfo Tryz.prog 28 5 (.int .u8 0) 1 1:=⟨Tryz.underlying28,by kernel_rfl,rfl,by omega⟩
theorem owns_base {w:World} {b b' e sz:Nat} {v:Value} {n:Nat} {xs:List Value} (h:w.ownsRow b e sz v n xs) (hb:b'<=b):w.ownsRow b' e sz v n xs:=by
 refine ⟨h.1,?_⟩;rcases h.2 with h1|⟨g,cap,cur,h1,h2,h3⟩
 ·exact .inl h1
 ·exact .inr ⟨g,cap,cur,h1,Nat.le_trans hb h2,h3⟩
theorem headG_pos (g:Grp):0<(zdq g).length:=by unfold zdq;simp only [List.length_append,List.length_cons,List.length_nil];omega
theorem preG_zero (gs:List Grp):preG gs 0=[120,114,101,102,10]:=by unfold preG;simp
theorem entL_pos (e:Ent):0<(entL e).length:=by unfold entL;simp
set_option maxHeartbeats 16000000 in
theorem xprint_any {s:Sec} {gv sl:Value} {w:World} (h:zcj w anyF s gv sl) (hd:zaZ s.tr<=1000) (hz:zbR s=0->(∀g∈s.gs,g.es.length<=100)/\(zat s.tr).length<=3000) :
  Calls Tryz.prog 7 #[secA s gv sl] w fun e w'=>∃v,e=.returned (.tuple #[v,.int .i64 (zbR s)])/\w'.ownsRow w.heap.size 5 1 v (prB s).length ((prB s).map u8W)/\Below w.heap.size w w':=by
 have Q2:=yb (fun (W:World) (hb:Below w.heap.size w W)=>xcheck_any (h.below hb) hd)
 by_cases hck:zbR s=0
 case neg =>
  have Zz:prB s=[]:=by unfold prB;rw [yh hck]
  rw [Zz];obtain ⟨ga,gc,rfl,-,-,-⟩:=h.1.len;obtain ⟨sa,sc,rfl,-,-,-⟩:=h.2.len;unfold secA at Q2 |-;clear h hd hz Zz;generalize zbR s=ck at *;generalize s.gs.length=gl at *;generalize s.tr.kind=xk at *;generalize s.tr.n=xn at *;generalize mkB s.tr.s=xb at *;generalize s.tr.l.length=xl at *;have e1:(ck==0)=false:=by rw [yf];exact hck
  have e2:(ck != 0)=true:=by simp only [bne,e1,yj]
  have Qq:=yb (zai w (.cells #[.slice ga gl gc,.int .i64 xk,.int .i64 xn,.string xb,.slice sa xl sc] 34));have Qv:=yb (zac (w:=w) (.cells #[.slice ga gl gc,.int .i64 xk,.int .i64 xn,.string xb,.slice sa xl sc] 34) rfl);clear hck;go_enter Tryz.func7,Tryz.ntmps7
  go_wp2_with (go_at_call 17;first|(refine (Q2.out _ Qq.out).mono ?_;rintro e w2 ⟨rfl,QT⟩;have Qw:=yo Qq QT))
  go_ret2;exact ⟨_,rfl,World.ownsRow_nil _ _ _ _,Qw.out⟩
 have Zz:prB s=secL s:=by unfold prB;rw [yg hck]
 rw [Zz,hck];rw [hck] at Q2;obtain ⟨ZT,Yh⟩:=hz hck;have Q9:=preG_end s;obtain ⟨ZA,Qm,Zy,-⟩:=zfi hck;obtain ⟨gs,x⟩:=s;simp only at Q9 ZA Qm Zy Yh ZT hd;have Yi:=yb (fun c=>preG_len Qm ZT ZA c);have Y2:=yb (fun (g:Grp) (hg:g∈gs) (j:Nat)=>entsT_len (zhI (List.all_eq_true.1 Qm g hg)) (ZT g hg) j);have Y3:=yb (fun (g:Grp) (hg:g∈gs) (e:Ent) (hm:e∈g.es)=>List.all_eq_true.1 (zhI (List.all_eq_true.1 Qm g hg)) e hm)
 have Y4:=yb (fun (g:Grp) (hg:g∈gs)=>show 0<=g.first/\g.first<=2147483647/\(g.es.length:Int)<=2147483647 by
  have h2:=List.all_eq_true.1 Qm g hg;unfold zcm at h2;simp only [Bool.and_eq_true,decide_eq_true_eq] at h2;omega)
 obtain ⟨ga,gc,rfl,Yj,Yk,-⟩:=h.1.len;simp only at Yj;have Zf:=yb (fun (W:World) (hW:Below w.heap.size w W)=>zeh (h.2.below hW) hd (by simp only;omega));simp only at Zf;rw [show zdC x=(zat x,0) by unfold zdC;rw [yh (by rw [Zy];decide)]] at Zf;have Yl:=yb h.1;simp only at Yl;rw [<-Q9];obtain ⟨OL,Ym⟩:∃OL,OL=preG gs gs.length++([116,114,97,105,108,101,114,10]++zat x++[10]):=⟨_,rfl⟩;rw [<-Ym];have Qz:=yb Ym;clear Ym
 have XP:=yb (show ⟨#[116,114,97,105,108,101,114,10]⟩++mkB (zat x)++⟨#[10]⟩=mkB ([116,114,97,105,108,101,114,10]++zat x++[10]) by
  rw [show (⟨#[116,114,97,105,108,101,114,10]⟩:ByteArray)=mkB [116,114,97,105,108,101,114,10] from rfl,show (⟨#[10]⟩:ByteArray)=mkB [10] from rfl,zds,zds])
 have XQ:=yb (show ([116,114,97,105,108,101,114,10]++zat x++[10]).length<=4000 by simp;omega);have XR:=yb (show 0<([116,114,97,105,108,101,114,10]++zat x++[10]).length by simp);have Vt:(mkB (zat x)).size<=3000:=by rw [zaR];exact Yh
 generalize [116,114,97,105,108,101,114,10]++zat x++[10]=TL at *;unfold secA at Q2 |-;simp only at Q2 |-;obtain ⟨sa,sc,rfl,-,-,-⟩:=h.2.len;simp only at Zf Q2 |-;unfold pvA at Zf;clear h Q9 Qm Zy Yh hd ZT hck Zz hz;have Yn:(gs.length:Int)<=9223372036854775807:=by unfold maxLen at Yk;omega
 generalize mkB (zat x)=fx at *;generalize x.kind=xk at *;generalize x.n=xn at *;generalize mkB x.s=xb at *;generalize x.l.length=xl at *;obtain ⟨iB,Y5,Y6,Y7,Y8⟩:=info_parts EByteP.info;have HI:=yb (⟨Y5,Y6,Y7,Y8⟩:_/\_/\_/\_);clear Y5 Y6 Y7 Y8;obtain ⟨B,hB⟩:∃B,B=w.heap.size:=⟨_,rfl⟩;have Qq:=yb (zai w (.cells #[.slice ga gs.length gc,.int .i64 xk,.int .i64 xn,.string xb,.slice sa xl sc] 34));have Qv:=yb (zac (w:=w) (b:=B) (.cells #[.slice ga gs.length gc,.int .i64 xk,.int .i64 xn,.string xb,.slice sa xl sc] 34) hB);have XS:=fun (W:World) (C:Array Value) (n c:Nat)=>Lib.run_convert_bytes_const (P:=Tryz.prog) W 28 5 C n c Tryz.underlying28 Tryz.underlying5;go_enter Tryz.func7,Tryz.ntmps7
 go_upto_region 1 with fail
 try rw [<-hB]
 clear hB;generalize World.alloc _ _=W1 at *;obtain ⟨⟨x0,x1,x2,x3,x4⟩,-⟩:=zaW Qv.out;have Qi:=yb (Q2.out W1 Qq.out);go_wp2_with fail
 refine Qi.out.mono ?_;rintro e w2 ⟨rfl,hb⟩;have Qw:=yo Qq hb;have QR:=yb (zab hb Qv.out);clear hb Q2 Qi Qv Qq x0 x1 x2 x3 x4
 go_upto_region 5 with fail
 obtain ⟨v5,Yo⟩:∃v5,v5=Value.slice (some ⟨w2.heap.size,0,none⟩) 5 5:=⟨_,rfl⟩
 have XT:=yb (show OutQ 5 w2.heap.size (w2.alloc (.cells #[.int .u8 120,.int .u8 114,.int .u8 101,.int .u8 102,.int .u8 10] 5 (5,6))) v5 (preG gs 0) from
  .inr ⟨w2.heap.size,Yo,by rw [preG_zero];decide,yp _,by rw [zaq];omega,fun j u hj=>by
   rw [cell_of_row _ _ _ _ _ _ (zac _ rfl)];rw [preG_zero] at hj
   show ((List.map u8W [120,114,101,102,10]).toArray)[j]?=some u;rw [List.getElem?_toArray];exact hj⟩)
 have Ze:=yb (zal (.cells #[.int .u8 120,.int .u8 114,.int .u8 101,.int .u8 102,.int .u8 10] 5 (5,6)) QR.out);have Za:=yb (Qw.out.alloc Qw.out.size (.cells #[.int .u8 120,.int .u8 114,.int .u8 101,.int .u8 102,.int .u8 10] 5 (5,6)));have QW:=yb (zai w2 (.cells #[.int .u8 120,.int .u8 114,.int .u8 101,.int .u8 102,.int .u8 10] 5 (5,6)));have Vu:=yb (show B<w2.heap.size from zam QR.out);rw [<-Yo];clear Yo XS;generalize World.alloc _ _=W3 at *;obtain ⟨⟨x0,x1,x2,x3,x4⟩,-⟩:=zaW Ze.out;go_wp2_with fail
 clear x0 x1 x2 x3 x4
 go_loopw [5,24] (fun vo v wr=>∃(c:Nat) (ov:Value),v=.int .i64 c/\ov=vo/\c<=gs.length/\Hid (OutQ 5 w2.heap.size wr vo (preG gs c))/\Hid (Below w2.heap.size w2 wr)) (fun _ v _=>gs.length-(intOf v).toNat)
 case atStart=>exact ⟨0,_,rfl,rfl,Nat.zero_le _,XT,QW⟩
 case round =>
  obtain ⟨c,ov,rfl,rfl,hc,HQ,HW⟩:=hrel;have HB:=yb (Qw.out.trans (HW.out.mono Qw.out.size));have Yp:=yb (zab HW.out QR.out)
  by_cases hlt:c<gs.length
  case neg =>
   have Yq:c=gs.length:=by omega
   subst Yq;have Yr:decide ((gs.length:Int)<(gs.length:Int))=false:=ye (by omega);have Zb:decide (gs.length<gs.length)=false:=ye (by omega);have HC:=yb (Zf.out wr HB.out);obtain ⟨⟨x0,x1,x2,x3,x4⟩,-⟩:=zaW Yp.out;have XU:=yb (Yi.out gs.length);have Y9:8+fx.size+1<=9223372036854775807:=by omega
   have Xa:8+fx.size<=9223372036854775807:=by omega
   clear Yi Y2 Y3 Y4 Yl Zf;go_wp2_with fail
   refine HC.out.mono ?_;rintro e w3 ⟨rfl,hb⟩;have Za:=yo HB hb;have Q0:=yb (HQ.out.keep hb);have Q1:=yb (Nat.le_trans HW.out.size hb.size);clear hb HC x0 x1 x2 x3 x4 Yp HQ HW;go_wp2_with (at_builtin;refine zf9 _ rfl (.tmp 63) (.tmp 66) 28 9 rfl w2.heap.size 5 iB Tryz.underlying28 Tryz.underlying9 HI.out.1 HI.out.2.1 HI.out.2.2.1 HI.out.2.2.2 _ (preG gs gs.length) rfl Q0.out TL (by rw [<-XP.out];rfl) XR.out (by have:=XU.out;have:=XQ.out;omega) Q1.out ?_;intro v' w9 hO9 hg9;rw [<-Qz.out] at hO9;obtain ⟨ua,uc,rfl,-,-⟩:=zaB hO9;have XV:=yb (owns_base hO9 Qw.out.size);have XW:=yb (Za.out.grown hg9 (by have:=Za.out.size;omega) (fun b hb=>Nat.le_trans Qw.out.size (Q0.out.lt b hb).1));clear hO9 hg9)
   go_ret2;exact ⟨.slice ua OL.length uc,rfl,XV.out,XW.out⟩
  have Yr:decide ((c:Int)<(gs.length:Int))=true:=yd (by omega);have Zb:decide (c<gs.length)=true:=yd (by omega);have XX:(c:Int)<(gs.length:Int):=by omega
  obtain ⟨-,-,-,b,off,ha,-,-,QN⟩:=Yl.out.at (by omega);subst ha;obtain ⟨g,hg⟩:∃g,gs[c]?=some g:=⟨_,List.getElem?_eq_getElem hlt⟩;obtain ⟨v,hv,g0,g1⟩:=QN c g hg;obtain ⟨ea,ec,rfl,XY,Ys,-⟩:=hv.len;have g0:=cell?_keep HB.out g0;have g1:=cell?_keep HB.out g1;have Xb:=yb (preG_next hg);have Xc:=yb (fun j=>Y2.out g (List.mem_of_getElem? hg) j);have ZB:=yb (fun e hm=>Y3.out g (List.mem_of_getElem? hg) e hm);have Yt:=yb (Y4.out g (List.mem_of_getElem? hg));have Xd:=yb (headG_len g);have Xe:=yb (headG_pos g);have ZC:=yb (Yi.out c);have XZ:=yb hv
  have ZU:=yb (show mkB (numF g.first)++⟨#[32]⟩++mkB (numF (g.es.length:Int))++⟨#[10]⟩=mkB (zdq g) by
   rw [show (⟨#[32]⟩:ByteArray)=mkB [32] from rfl,show (⟨#[10]⟩:ByteArray)=mkB [10] from rfl,zds,zds,zds];rfl)
  have Yu:(mkB (numF g.first)).size<=40:=by rw [zaR];exact zdg _
  have Yv:(mkB (numF (g.es.length:Int))).size<=40:=by rw [zaR];exact zdg _
  have Yw:(g.es.length:Int)<=9223372036854775807:=by unfold maxLen at Ys;omega
  clear QN hv hg;obtain ⟨gf,ge⟩:=g;simp only at *;have Qn:=yb (fun W=>whole_any (n:=gf) W Yt.out.1 Yt.out.2.1);have QU:=yb (fun W=>whole_any (n:=(ge.length:Int)) W (by omega) Yt.out.2.2);have Yx:=yb (HW.out.alloc HW.out.size (.cells #[.int .i64 gf,.slice ea ge.length ec] 58));have ZV:=yb (zac (w:=wr) (.cells #[.int .i64 gf,.slice ea ge.length ec] 58) rfl);have Xf:=yb (HQ.out.keep (zai wr (.cells #[.int .i64 gf,.slice ea ge.length ec] 58)));have Xg:=yb (fun b hb=>(HQ.out.lt b hb).2)
  go_upto_region 8 with fail
  clear HQ g0 g1 Yp;generalize wr.heap.size=G at *;generalize World.alloc _ _=W4 at *;obtain ⟨⟨y0,y1⟩,-⟩:=zbL ZV.out;obtain ⟨nf1,ZD⟩:∃t,t=mkB (numF gf):=⟨_,rfl⟩;obtain ⟨nf2,ZE⟩:∃t,t=mkB (numF (ge.length:Int)):=⟨_,rfl⟩;rw [<-ZD] at Qn ZU Yu;rw [<-ZE] at QU ZU Yv;clear ZD ZE;have Y9:nf1.size+1+nf2.size+1<=9223372036854775807:=by omega
  have Xa:nf1.size+1+nf2.size<=9223372036854775807:=by omega
  have X0:nf1.size+1<=9223372036854775807:=by omega
  have X1:¬9223372036854775807<nf1.size+1+nf2.size+1:=by omega
  have X2:¬9223372036854775807<nf1.size+1+nf2.size:=by omega
  have X3:¬9223372036854775807<nf1.size+1:=by omega
  go_cut [5] from 25 to 56 (fun vx wx=>∃(v7:Value) (w7:World),v7=vx/\w7=wx/\Hid (w7.ownsRow w2.heap.size 5 1 v7 (preG gs c++zdq ⟨gf,ge⟩).length ((preG gs c++zdq ⟨gf,ge⟩).map u8W))/\Hid (Below w2.heap.size w2 w7)/\Hid (w7.heap[G]?=some (.cells #[.int .i64 gf,.slice ea ge.length ec] 58 (0,0))))
  case first =>
   go_region_law
    (first
     |(go_simp;go_at_call_of 24 (Value.int .i64 gf);refine (Qn.out _).mono ?_;rintro e w5 ⟨rfl,Zc⟩;have Xh:=yb ((Below.refl _ W4).drew.trans Zc);obtain ⟨⟨u0,u1⟩,-⟩:=zbL (zab Xh.out ZV.out))
     |(go_simp;go_at_call 24;refine (QU.out _).mono ?_;rintro e w6 ⟨rfl,X4⟩;have Yy:=yb (Xh.out.trans (X4.mono Xh.out.size));have Xi:=yb (Xf.out.keep Yy.out);have Xj:=yb (zab Yy.out ZV.out);have Yz:=yb (Yx.out.trans (Yy.out.mono Yx.out.size)))
     |(refine zfm _ (by rfl) _ _ 28 9 (by rfl) w2.heap.size 5 iB Tryz.underlying28 Tryz.underlying9 HI.out.1 HI.out.2.1 HI.out.2.2.1 HI.out.2.2.2 ov (preG gs c) (by rfl) Xi.out (zdq ⟨gf,ge⟩) (by rw [<-ZU.out];rfl) Xe.out (by have:=ZC.out;have:=Xd.out;omega) Yz.out.size ?_;intro v7 w7 hO7 hg7;have ZW:=yb hO7;have YA:=yb (Yz.out.grown hg7 Yz.out.size (fun b hb=>(Xi.out.lt b hb).1));have ZX:=yb ((hg7.block G (zam Xj.out) (fun e=>by have:=Xg.out G e.symm;omega)).trans Xj.out);clear hO7 hg7))
   all_goals (try go_wp2_with fail)
   all_goals go_meet
   all_goals exact ⟨_,_,rfl,rfl,ZW,YA,ZX⟩
  case rest =>
  obtain ⟨v7,w7,rfl,rfl,ZW,YA,ZX⟩:=hcut;obtain ⟨⟨t0,t1⟩,-⟩:=zbL ZX.out;go_wp2_with fail
  have X5:=yb (show OutQ 5 w2.heap.size w7 v7 (preG gs c++zdq ⟨gf,ge⟩++(ge.take 0).flatMap entL) from by
   rw [List.take_zero,List.flatMap_nil,List.append_nil];exact .inl ZW.out)
  clear ZW t0 t1 ZX Qn QU ZU Xe Yu Yv Y9 Xa X0 X1 X2 X3 Xf Yx ZV Xg y0 y1
  go_loopw [5,43] (fun vo v wq=>∃(j:Nat) (ow:Value),v=.int .i64 j/\ow=vo/\j<=ge.length/\Hid (OutQ 5 w2.heap.size wq ow (preG gs c++zdq ⟨gf,ge⟩++(ge.take j).flatMap entL))/\Hid (Below w2.heap.size w2 wq)) (fun _ v _=>ge.length-(intOf v).toNat)
  case atStart=>exact ⟨0,_,rfl,rfl,Nat.zero_le _,X5,YA⟩
  case round =>
   obtain ⟨j,ow,rfl,rfl,hj,ZY,YB⟩:=hrel
   by_cases hjl:j<ge.length
   case neg =>
    have X6:j=ge.length:=by omega
    subst X6;have X7:decide ((ge.length:Int)<(ge.length:Int))=false:=ye (by omega);have YC:decide (ge.length<ge.length)=false:=ye (by omega);have X8:=yb (show OutQ 5 w2.heap.size wr ow (preG gs (c+1)) from by have h1:=ZY.out;rw [Xb.out] at h1;exact h1);clear ZY Xb ZB Xc;go_wp2
    go_roundw
    case rel=>exact ⟨c+1,_,by go_num,rfl,by omega,X8,YB⟩
    case measure=>simp [intOf];omega
   have X7:decide ((j:Int)<(ge.length:Int))=true:=yd (by omega);have YC:decide (j<ge.length)=true:=yd (by omega);have Vv:(j:Int)<(ge.length:Int):=by omega
   have X9:=yb (Qw.out.trans (YB.out.mono Qw.out.size));obtain ⟨-,-,-,be,oe,Va,-,-,ZF⟩:=(XZ.out.below X9.out).at (by omega);subst Va;obtain ⟨ee,ZZ⟩:∃ee,ge[j]?=some ee:=⟨_,List.getElem?_eq_getElem hjl⟩;obtain ⟨z0,z1,z2⟩:=ZF j ee ZZ;have YD:=ZB.out ee (List.mem_of_getElem? ZZ);have ZG:=yb (fun W=>xent_any ee W);rw [show entR ee=(entL ee,0) by unfold entR;rw [yg YD]] at ZG
   have Zw:=yb (show preG gs c++zdq ⟨gf,ge⟩++(ge.take j).flatMap entL++entL ee=preG gs c++zdq ⟨gf,ge⟩++(ge.take (j+1)).flatMap entL by
    rw [zgO ZZ,<-List.append_assoc])
   have QV:=yb (show (preG gs c++zdq ⟨gf,ge⟩++(ge.take j).flatMap entL).length+(entL ee).length<=10000000 by
    rw [List.length_append,List.length_append,entL_len YD];have:=ZC.out;have:=Xd.out;have:=Xc.out j;omega)
   have Vb:=yb (entL_pos ee);clear ZF ZZ YD;unfold entA at ZG;simp only at ZG;have YE:=zai wr (.cells #[.int .i64 ee.at_,.int .i64 ee.gen,.bool ee.used] 45);have Xk:=yb (zac (w:=wr) (.cells #[.int .i64 ee.at_,.int .i64 ee.gen,.bool ee.used] 45) rfl);have Xl:=yb (ZY.out.keep YE);have Xm:=yo YB YE;clear YE ZY
   go_upto_region 12 with fail
   clear z0 z1 z2;generalize wr.heap.size=E at *;generalize World.alloc _ _=W8 at *;obtain ⟨⟨u0,u1,u2⟩,-⟩:=zcL Xk.out;generalize preG gs c++zdq ⟨gf,ge⟩++(ge.take j).flatMap entL=OQ at *;generalize entL ee=el at *;go_wp2_with fail
   refine (ZG.out _).mono ?_;rintro e w9 ⟨rfl,hb⟩;have Xn:=yb (Xl.out.keep hb);have YF:=yo Xm hb;clear hb Xl Xm u0 u1 u2 Xk ZG;go_wp2_with (at_builtin;refine zf9 _ rfl (.tmp 52) (.tmp 53) 28 9 rfl w2.heap.size 5 iB Tryz.underlying28 Tryz.underlying9 HI.out.1 HI.out.2.1 HI.out.2.2.1 HI.out.2.2.2 _ OQ rfl Xn.out el rfl Vb.out QV.out YF.out.size ?_;intro v10 w10 hO10 hg10;rw [Zw.out] at hO10;have YG:=yb (show OutQ 5 w2.heap.size w10 v10 (preG gs c++zdq ⟨gf,ge⟩++(ge.take (j+1)).flatMap entL) from .inl hO10);have YH:=yb (YF.out.grown hg10 YF.out.size (fun b hb=>(Xn.out.lt b hb).1));clear hO10 hg10)
   go_roundw
   case rel=>exact ⟨j+1,_,by go_num,rfl,by omega,YG,YH⟩
   case measure=>simp [intOf];omega
theorem ext_one {s:List UInt8} {k:Nat} {c:UInt8} (h:s[k]?=some c):(mkB s).extract k (k+1)=mkB [c]:=by
 apply ByteArray.ext
 rw [ByteArray.data_extract]
 apply Array.ext'
 rw [Array.toList_extract]
 show ((s.drop k).take (k+1-k))=[c];rw [show k+1-k=1 by omega];have hk:=(List.getElem?_eq_some_iff.1 h);obtain ⟨hl,he⟩:=hk;rw [List.drop_eq_getElem_cons hl,he];rfl
theorem zeR (s:List UInt8):zdC (.mk 5 0 s [])=if zeO s=true then (47::zby s,0) else ([],17):=by
 have e:zat (.mk 5 0 s [])=47::zby s:=by simp [zat]
 have ho:ownC (.mk 5 0 s [])=if 127<s.length\/(0:UInt8)∈s then 17 else 0:=by simp [ownC]
 have hf:zaK (.mk 5 0 s [])=if 127<s.length\/(0:UInt8)∈s then 17 else 0:=by
  rw [zcg,ho]
  by_cases h:127<s.length\/(0:UInt8)∈s
  ·rw [yg h,yg (by decide)]
  ·rw [yh h,yh (by decide)];simp [PV.kind]
 have hc:zbG (.mk 5 0 s [])=if 127<s.length\/(0:UInt8)∈s then 17 else 0:=by
  unfold zbG;rw [zep,yh (by simp [PV.kind]),hf]
  all_goals (try rfl)
 unfold zdC;rw [hc,e];unfold zeO
 by_cases h:127<s.length\/(0:UInt8)∈s
 ·rw [yg h,yg (by decide),yh (by rcases h with h|h<;>simp [h])]
 ·rw [yh h,yh (by decide),yg (by rw [not_or] at h;rw [ye h.1,ye h.2];rfl)]
theorem rname13 (s:List UInt8) (w:World) (hl:s.length<=288230376151711744) :
  Calls Tryz.prog 50 #[.string (mkB s)] w fun e w'=>e=.returned (.tuple #[.string (mkB (zdC (.mk 5 0 s [])).1),.int .i64 (zdC (.mk 5 0 s [])).2])/\Below w.heap.size w w':=by
 rw [zeR];have HT:=yb (fun W=>rtext11 s W (by omega));have Qy:(mkB s).size=s.length:=zaR s;have QM:((mkB s).size:Int)=s.length:=by rw [Qy]
 by_cases hb:zeO s=true
 case neg =>
  have Xo:zeO s=false:=by simpa using hb
  rw [Xo] at HT |-;clear hb Xo;go_enter Tryz.func50,Tryz.ntmps50
  go_wp2_with (go_at_call 81;refine (HT.out _).mono ?_;rintro e w' ⟨rfl,rfl⟩)
  go_ret2;exact ⟨rfl,Below.refl _ _⟩
 rw [hb] at HT |-;rw [yg rfl];have hm:(s.length:Int)<=288230376151711744:=by omega
 obtain ⟨R,hR⟩:∃R,R=mkB (47::zby s):=⟨_,rfl⟩;have HR:=yb hR;simp only;rw [<-hR];clear hb hR;go_enter Tryz.func50,Tryz.ntmps50
 go_wp2_with (go_at_call 81;refine (HT.out _).mono ?_;rintro e w' ⟨rfl,rfl⟩)
 go_loopw [4,5] (fun vo vk wr=>∃(k:Nat) (O:ByteArray),vk=.int .i64 k/\vo=.string O/\k<=s.length/\O.size<=1152921504606846976/\Hid (O=mkB (47::zby (s.take k)))/\Hid (Below w.heap.size w wr)) (fun _ vk _=>s.length-(intOf vk).toNat)
 case atStart=>exact ⟨0,_,rfl,rfl,Nat.zero_le _,by decide,yb rfl,Below.refl _ _⟩
 case round =>
  obtain ⟨k,O,rfl,rfl,hk,hO,HO,HB⟩:=hrel
  by_cases q1:k<s.length
  case neg =>
   have hd1:decide (k<s.length)=false:=ye q1;have Qo:decide ((k:Int)<(s.length:Int))=false:=ye (by omega);have Qc:¬(k:Int)<(s.length:Int):=by omega
   obtain rfl:R=O:=by rw [HR.out,HO.out,List.take_of_length_le (by omega)]
   clear HR HO;go_wp2;go_ret2;exact ⟨rfl,HB.out⟩
  have hd1:decide (k<s.length)=true:=yd q1;have Qo:decide ((k:Int)<(s.length:Int))=true:=yd (by omega);have hk0:(0:Int)<=(k:Int):=by omega
  have QL:(k:Int)<(s.length:Int):=by omega
  have Qb:k<(mkB s).size:=by omega
  have QS:(k:Int)+1<=(s.length:Int):=by omega
  have Z0:k+1<=(mkB s).size:=by omega
  have Vc:IntKind.i64.wrap ((k:Int)+1)=(k:Int)+1:=IntWalk.i64_in _ (by omega);obtain ⟨c,hc⟩:∃c,c=s[k]'q1:=⟨_,rfl⟩;have Qg:s[k]?=some c:=by rw [hc];exact List.getElem?_eq_getElem q1
  obtain ⟨n,hn⟩:∃n,n=c.toNat:=⟨_,rfl⟩;have QN:((mkB s)[k]'Qb).toNat=n:=by rw [hn,hc];exact zfJ q1 Qb
  have YI:=ext_one Qg;have HH:=yb (fun W=>rhex13 c W);rw [<-hn] at HH;have HD:=yb (fun W=>zaV (n:Int) W);have hT:=ze4 Qg
  have Zh:chF c=if n<33\/126<n\/n=35\/dlI (n:Int)=true then 35::hexB c else [c]:=by
   unfold chF;rw [hn,zb6];simp only [eq35]
  have ZH:∀t:List UInt8,(mkB (47::zby (s.take t.length))).size<=1152921504606846976\/288230376151711744<t.length:=fun t=>by
   by_cases h:288230376151711744<t.length
   ·exact .inr h
   ·left
    have h1:=zdz (s.take t.length);rw [List.length_take] at h1;rw [zaR];simp;omega
  have ZI:(mkB (47::zby (s.take (k+1)))).size<=1152921504606846976:=by
   have h1:=zdz (s.take (k+1));rw [List.length_take] at h1;rw [zaR];simp;omega
  have QJ:=yb ZI;have Qi:=yb (show chF c=[c]->O++mkB [c]=mkB (47::zby (s.take (k+1))) from fun h=>by rw [hT,h,HO.out,zbM];rfl)
  have Qe:=yb (show chF c=35::hexB c->O++⟨#[35]⟩++mkB (hexB c)=mkB (47::zby (s.take (k+1))) from fun h=>by
   rw [hT,h,HO.out,show (⟨#[35]⟩:ByteArray)=mkB [35] from rfl,zbM,zbM];simp)
  have Xp:O.size+1<=9223372036854775807:=by omega
  have Qj:=yb Zh;have HN:=yb hn;have Vd:(mkB (hexB c)).size=2:=by rw [zaR];rfl
  have Ve:(mkB [c]).size=1:=rfl;clear hT Zh ZH ZI Qg hc hn HO;generalize mkB (hexB c)=HX at *;generalize mkB [c]=CX at *;generalize dlI (n:Int)=d at *
  by_cases h1:n<33
  ·have b1:decide (32<n)=false:=ye (by omega)
   have b1':decide ((32:Int)<(n:Int))=false:=ye (by omega);have Qe:=yb (Qe.out (by rw [Qj.out,yg (.inl h1)]));clear Qj h1 Qi;go_wp2_with (first|(go_at_call 80;refine (HH.out _).mono ?_;rintro e w' ⟨rfl,q,rfl⟩))
   go_roundw
   case rel=>exact ⟨k+1,_,by go_num,rfl,by omega,by rw [Qe.out];exact QJ.out,Qe,yb (zag HB.out _)⟩
   case measure=>simp [intOf];omega
  have b1:decide (32<n)=true:=yd (by omega);have b1':decide ((32:Int)<(n:Int))=true:=yd (by omega)
  by_cases h2:126<n
  ·have b2:decide (n<127)=false:=ye (by omega)
   have b2':decide ((n:Int)<127)=false:=ye (by omega);have Qe:=yb (Qe.out (by rw [Qj.out,yg (.inr (.inl h2))]));clear Qj h1 h2 Qi;go_wp2_with (first|(go_at_call 80;refine (HH.out _).mono ?_;rintro e w' ⟨rfl,q,rfl⟩))
   go_roundw
   case rel=>exact ⟨k+1,_,by go_num,rfl,by omega,by rw [Qe.out];exact QJ.out,Qe,yb (zag HB.out _)⟩
   case measure=>simp [intOf];omega
  have b2:decide (n<127)=true:=yd (by omega);have b2':decide ((n:Int)<127)=true:=yd (by omega)
  by_cases h3:n=35
  ·have b3:((n:Int)==35)=true:=by rw [h3];rfl
   have b3':((n:Int) != 35)=false:=by simp only [bne,b3,Bool.not_true]
   have b3n:(n==35)=true:=by rw [h3];rfl
   have Qe:=yb (Qe.out (by rw [Qj.out,yg (.inr (.inr (.inl h3)))]));have H3:=yb h3;clear Qj h1 h2 h3 Qi;go_wp2_with (first|(go_at_call 80;refine (HH.out _).mono ?_;rintro e w' ⟨rfl,q,rfl⟩))
   go_roundw
   case rel=>exact ⟨k+1,_,by go_num,rfl,by omega,by rw [Qe.out];exact QJ.out,Qe,yb (zag HB.out _)⟩
   case measure=>simp [intOf];omega
  have b3:((n:Int)==35)=false:=by rw [yf];omega
  have b3':((n:Int) != 35)=true:=by simp only [bne,b3,yj]
  have b3n:(n==35)=false:=by rw [yf];exact h3
  cases d with
  | true =>
   have Qe:=yb (Qe.out (by rw [Qj.out,yg (.inr (.inr (.inr rfl)))]));clear Qj h1 h2 h3 Qi;go_wp2_with (first|(go_at_call 80;refine (HH.out _).mono ?_;rintro e w' ⟨rfl,q,rfl⟩)|(go_at_call 82;refine (HD.out _).mono ?_;rintro e w' ⟨rfl,rfl⟩))
   go_roundw
   case rel=>exact ⟨k+1,_,by go_num,rfl,by omega,by rw [Qe.out];exact QJ.out,Qe,yb (zag HB.out _)⟩
   case measure=>simp [intOf];omega
  | false =>
   have Qi:=yb (Qi.out (by rw [Qj.out,yh (by rintro (h|h|h|h);exact h1 h;exact h2 h;exact h3 h;cases h)]));clear Qj h1 h2 h3 Qe;go_wp2_with (go_at_call 82;refine (HD.out _).mono ?_;rintro e w' ⟨rfl,rfl⟩)
   go_roundw
   case rel=>exact ⟨k+1,_,by go_num,rfl,by omega,by rw [Qi.out];exact QJ.out,Qi,HB⟩
   case measure=>simp [intOf];omega
theorem rtext13 (s:List UInt8) (w:World) (hl:s.length<=288230376151711744) :
  Calls Tryz.prog 49 #[.string (mkB s)] w fun e w'=>e=.returned (.string (mkB (zcc s)))/\Below w.heap.size w w':=by
 have Qy:(mkB s).size=s.length:=zaR s;have QM:((mkB s).size:Int)=s.length:=by rw [Qy]
 have hm:(s.length:Int)<=288230376151711744:=by omega
 obtain ⟨R,hR⟩:∃R,R=mkB (zcc s):=⟨_,rfl⟩;have HR:=yb hR;rw [<-hR];clear hR;go_enter Tryz.func49,Tryz.ntmps49
 go_wp2
 go_loopw [3,4,5,6] (fun va vb vf vk wr=>∃(k:Nat) (A B:ByteArray) (f:Bool),vk=.int .i64 k/\va=.string A/\vb=.string B/\vf=.bool f/\k<=s.length/\A.size<=1152921504606846976/\B.size<=1152921504606846976/\Hid (A=mkB (40::zb5 (s.take k)))/\Hid (B=mkB (60::hexF (s.take k)))/\Hid (f=zcb (s.take k))/\Hid (Below w.heap.size w wr)) (fun _ _ _ vk _=>s.length-(intOf vk).toNat)
 case atStart=>exact ⟨0,_,_,true,rfl,rfl,rfl,rfl,Nat.zero_le _,by decide,by decide,yb rfl,yb rfl,yb rfl,Below.refl _ _⟩
 case round =>
  obtain ⟨k,A,B,f,rfl,rfl,rfl,rfl,hk,hA,hB,HA,ZJ,HF,HB⟩:=hrel
  by_cases q1:k<s.length
  case neg =>
   have hd1:decide (k<s.length)=false:=ye q1;have Qo:decide ((k:Int)<(s.length:Int))=false:=ye (by omega);have Qc:¬(k:Int)<(s.length:Int):=by omega
   have hf:=HF.out;have ZK:s.take k=s:=List.take_of_length_le (by omega);rw [ZK] at hf
   cases f with
   | true =>
    have HX:=yb (show A++⟨#[41]⟩=R by
     rw [HR.out,HA.out,ZK];unfold zcc;rw [yg hf.symm,show (⟨#[41]⟩:ByteArray)=mkB [41] from rfl,zbM];rfl)
    clear HR HA ZJ HF hf ZK;go_wp2;go_ret;exact ⟨by rw [<-HX.out];rfl,HB.out⟩
   | false =>
    have HX:=yb (show B++⟨#[62]⟩=R by
     rw [HR.out,ZJ.out,ZK];unfold zcc;rw [yh (by rw [<-hf];decide),show (⟨#[62]⟩:ByteArray)=mkB [62] from rfl,zbM];rfl)
    clear HR HA ZJ HF hf ZK;go_wp2;go_ret;exact ⟨by rw [<-HX.out];rfl,HB.out⟩
  have hd1:decide (k<s.length)=true:=yd q1;have Qo:decide ((k:Int)<(s.length:Int))=true:=yd (by omega);have hk0:(0:Int)<=(k:Int):=by omega
  have QL:(k:Int)<(s.length:Int):=by omega
  have Qb:k<(mkB s).size:=by omega
  have QS:(k:Int)+1<=(s.length:Int):=by omega
  have Z0:k+1<=(mkB s).size:=by omega
  have Vc:IntKind.i64.wrap ((k:Int)+1)=(k:Int)+1:=IntWalk.i64_in _ (by omega);obtain ⟨c,hc⟩:∃c,c=s[k]'q1:=⟨_,rfl⟩;have Qg:s[k]?=some c:=by rw [hc];exact List.getElem?_eq_getElem q1
  obtain ⟨n,hn⟩:∃n,n=c.toNat:=⟨_,rfl⟩;have QN:((mkB s)[k]'Qb).toNat=n:=by rw [hn,hc];exact zfJ q1 Qb
  have YI:=ext_one Qg;have HH:=yb (fun W=>rhex13 c W);rw [<-hn] at HH;have hT:=zeP Qg;have Xq:=zfQ Qg;have Xr:=zhe Qg;have Zj:brF c=if n=40\/n=41\/n=92 then [92,c] else [c]:=by unfold brF;rw [hn];simp only [eqn 40,eqn 41,eqn 92];rfl
  have ZI:(mkB (40::zb5 (s.take (k+1)))).size<=1152921504606846976:=by
   have h1:=zdp (s.take (k+1));rw [List.length_take] at h1;rw [zaR];simp;omega
  have ZL:(mkB (60::hexF (s.take (k+1)))).size<=1152921504606846976:=by
   have h1:=zeo (s.take (k+1));rw [List.length_take] at h1;rw [zaR];simp;omega
  have QJ:=yb ZI;have QF:=yb ZL;have Qi:=yb (show brF c=[c]->A++mkB [c]=mkB (40::zb5 (s.take (k+1))) from fun h=>by rw [hT,h,HA.out,zbM];rfl)
  have Qe:=yb (show brF c=[92,c]->A++⟨#[92]⟩++mkB [c]=mkB (40::zb5 (s.take (k+1))) from fun h=>by
   rw [hT,h,HA.out,show (⟨#[92]⟩:ByteArray)=mkB [92] from rfl,zbM,zbM];simp)
  have QH:=yb (show B++mkB (hexB c)=mkB (60::hexF (s.take (k+1))) by rw [Xq,ZJ.out,zbM];rfl);have Ql:=yb (show zcb (s.take (k+1))=(f&&(decide (32<=n)&&decide (n<=126))) by rw [Xr,<-HF.out,<-hn]);have Xp:A.size+2<=9223372036854775807:=by omega
  have QA:=yb Zj;have Vd:(mkB (hexB c)).size=2:=by rw [zaR];rfl
  have Ve:(mkB [c]).size=1:=rfl;clear hT Xq Xr Zj ZI ZL Qg hc hn HA ZJ HF;generalize mkB (hexB c)=HX at *;generalize mkB [c]=CX at *
  by_cases h1:n=40
  ·subst h1
   have Qx:=yb (Qe.out (by rw [QA.out,yg (.inl rfl)]));have QK:=yb (show f=zcb (s.take (k+1)) by rw [Ql.out];cases f<;>rfl)
   clear QA Qi Qe Ql
   cases f
   all_goals
    go_wp2_with (go_at_call 80;refine (HH.out _).mono ?_;rintro e w' ⟨rfl,q,rfl⟩)
    go_roundw
    case rel=>exact ⟨k+1,_,_,_,by go_num,rfl,rfl,rfl,by omega,by rw [Qx.out];exact QJ.out,by rw [QH.out];exact QF.out,Qx,QH,QK,yb (zag HB.out _)⟩
    case measure=>simp [intOf];omega
  have b40:((n:Int)==40)=false:=by rw [yf];omega
  have b40n:(n==40)=false:=by rw [yf];exact h1
  by_cases h2:n=41
  ·subst h2
   have Qx:=yb (Qe.out (by rw [QA.out,yg (.inr (.inl rfl))]));have QK:=yb (show f=zcb (s.take (k+1)) by rw [Ql.out];cases f<;>rfl)
   clear QA Qi Qe Ql
   cases f
   all_goals
    go_wp2_with (go_at_call 80;refine (HH.out _).mono ?_;rintro e w' ⟨rfl,q,rfl⟩)
    go_roundw
    case rel=>exact ⟨k+1,_,_,_,by go_num,rfl,rfl,rfl,by omega,by rw [Qx.out];exact QJ.out,by rw [QH.out];exact QF.out,Qx,QH,QK,yb (zag HB.out _)⟩
    case measure=>simp [intOf];omega
  have b41:((n:Int)==41)=false:=by rw [yf];omega
  have b41n:(n==41)=false:=by rw [yf];exact h2
  by_cases h3:n=92
  ·subst h3
   have Qx:=yb (Qe.out (by rw [QA.out,yg (.inr (.inr rfl))]));have QK:=yb (show f=zcb (s.take (k+1)) by rw [Ql.out];cases f<;>rfl)
   clear QA Qi Qe Ql
   cases f
   all_goals
    go_wp2_with (go_at_call 80;refine (HH.out _).mono ?_;rintro e w' ⟨rfl,q,rfl⟩)
    go_roundw
    case rel=>exact ⟨k+1,_,_,_,by go_num,rfl,rfl,rfl,by omega,by rw [Qx.out];exact QJ.out,by rw [QH.out];exact QF.out,Qx,QH,QK,yb (zag HB.out _)⟩
    case measure=>simp [intOf];omega
  have b92:((n:Int)==92)=false:=by rw [yf];omega
  have b92n:(n==92)=false:=by rw [yf];exact h3
  have Qx:=yb (Qi.out (by rw [QA.out,yh (by omega)]));clear h1 h2 h3
  cases f with
  | false =>
   have QK:=yb (show false=zcb (s.take (k+1)) by rw [Ql.out,Bool.false_and]);clear QA Qi Qe Ql;go_wp2_with (go_at_call 80;refine (HH.out _).mono ?_;rintro e w' ⟨rfl,q,rfl⟩)
   go_roundw
   case rel=>exact ⟨k+1,_,_,_,by go_num,rfl,rfl,rfl,by omega,by rw [Qx.out];exact QJ.out,by rw [QH.out];exact QF.out,Qx,QH,QK,yb (zag HB.out _)⟩
   case measure=>simp [intOf];omega
  | true =>
   by_cases g1:n<32
   ·have d1:decide (32<=n)=false:=ye (by omega)
    have d1':decide ((32:Int)<=(n:Int))=false:=ye (by omega);have QK:=yb (show false=zcb (s.take (k+1)) by rw [Ql.out,d1];rfl);clear QA Qi Qe Ql g1;go_wp2_with (go_at_call 80;refine (HH.out _).mono ?_;rintro e w' ⟨rfl,q,rfl⟩)
    go_roundw
    case rel=>exact ⟨k+1,_,_,_,by go_num,rfl,rfl,rfl,by omega,by rw [Qx.out];exact QJ.out,by rw [QH.out];exact QF.out,Qx,QH,QK,yb (zag HB.out _)⟩
    case measure=>simp [intOf];omega
   have d1:decide (32<=n)=true:=yd (by omega);have d1':decide ((32:Int)<=(n:Int))=true:=yd (by omega)
   by_cases g2:126<n
   ·have d2:decide (n<=126)=false:=ye (by omega)
    have d2':decide ((n:Int)<=126)=false:=ye (by omega);have QK:=yb (show false=zcb (s.take (k+1)) by rw [Ql.out,d2,Bool.and_false,Bool.and_false]);clear QA Qi Qe Ql g1 g2;go_wp2_with (go_at_call 80;refine (HH.out _).mono ?_;rintro e w' ⟨rfl,q,rfl⟩)
    go_roundw
    case rel=>exact ⟨k+1,_,_,_,by go_num,rfl,rfl,rfl,by omega,by rw [Qx.out];exact QJ.out,by rw [QH.out];exact QF.out,Qx,QH,QK,yb (zag HB.out _)⟩
    case measure=>simp [intOf];omega
   have d2:decide (n<=126)=true:=yd (by omega);have d2':decide ((n:Int)<=126)=true:=yd (by omega);have QK:=yb (show true=zcb (s.take (k+1)) by rw [Ql.out,d1,d2];rfl);clear QA Qi Qe Ql g1 g2;go_wp2_with (go_at_call 80;refine (HH.out _).mono ?_;rintro e w' ⟨rfl,q,rfl⟩)
   go_roundw
   case rel=>exact ⟨k+1,_,_,_,by go_num,rfl,rfl,rfl,by omega,by rw [Qx.out];exact QJ.out,by rw [QH.out];exact QF.out,Qx,QH,QK,yb (zag HB.out _)⟩
   case measure=>simp [intOf];omega
mutual
def zb0:PV->List UInt8
 | .mk k n s l =>
  if k=0 then [110,117,108,108]
  else if k=1 then (if n=1 then [116,114,117,101] else [102,97,108,115,101])
  else if k=2\/k=3 then (zaT k n (zbA (mkB s) l.length)).1
  else if k=4 then zcc s
  else if k=5 then (zdC (.mk 5 0 s [])).1
  else if k=8 then (zaT 2 n true).1++[32,48,32,82]
  else if k=6 then 91::(rowX l++[93])
  else 60::60::(rowX l++[62,62])
def rowX:List PV->List UInt8
 | []=>[]
 | x::l=>zb0 x++ze6 l
def ze6:List PV->List UInt8
 | []=>[]
 | x::l=>32::(zb0 x++ze6 l)
end
theorem moreX_app:∀(l m:List PV),ze6 (l++m)=ze6 l++ze6 m
 | [],m=>rfl
 | x::l,m=>by simp only [List.cons_append,ze6,moreX_app l m,List.append_assoc]
theorem rowX_take {l:List PV} {k:Nat} {x:PV} (h:l[k]?=some x):rowX (l.take (k+1))=rowX (l.take k)++(if k=0 then zb0 x else 32::zb0 x):=by
 rw [List.take_add_one,h]
 cases l with
 | nil=>cases h
 | cons y l =>
  cases k with
  | zero =>
   have e:y=x:=by simpa using h
   subst e;simp [rowX,ze6]
  | succ k =>
   rw [List.take_succ_cons];simp only [Option.toList_some,List.cons_append,rowX,moreX_app,ze6,List.append_nil,List.append_assoc];rw [yh (by omega)]
mutual
theorem formX_len:∀v:PV,(zb0 v).length<=bndV v
 | .mk k n s l=>by
  have h1:=rowX_len l;have h2:=zdQ k n (zbA (mkB s) l.length);have h3:=zdQ 2 n true;have h4:=zdp s;have h5:=zeo s;have h6:=zdz s;have h7:(zcc s).length<=4*s.length+10:=by unfold zcc;split<;>(simp;omega)
  have h8:(zdC (.mk 5 0 s [])).1.length<=4*s.length+10:=by rw [zeR];split<;>(simp;try omega)
  unfold zb0 bndV
  split
  ·simp;omega
  split
  ·split<;>(simp;omega)
  split
  ·omega
  split
  ·omega
  split
  ·omega
  split
  ·simp;omega
  split
  ·simp;omega
  ·simp;omega
theorem rowX_len:∀l:List PV,(rowX l).length<=bndL l
 | []=>by simp [rowX]
 | x::l=>by
  have h1:=formX_len x;have h2:=moreX_len l;simp only [rowX,bndL,List.length_append];omega
theorem moreX_len:∀l:List PV,(ze6 l).length<=bndL l
 | []=>by simp [ze6]
 | x::l=>by
  have h1:=formX_len x;have h2:=moreX_len l;simp only [ze6,bndL,List.length_append,List.length_cons];omega
end
mutual
theorem zhM:∀v:PV,zaK v=0->zb0 v=zat v
 | .mk k n s l,h=>by
  have ho:ownC (.mk k n s l)=0:=by
   rw [zcg] at h
   by_cases h1:ownC (.mk k n s l)=0
   ·exact h1
   ·rw [yg h1] at h;exact absurd h h1
  have hl:k=6\/k=7->rowX l=rowF l:=fun hk=>rowX_ok l (by
   rw [zcg,ho,yh (by decide),yg (by simpa [PV.kind] using hk)] at h
   simpa [PV.l] using h)
  have hc:=zeE ho;simp only [PV.kind,PV.n,PV.s,PV.l] at hc;rcases hc with ⟨rfl,rfl,rfl,rfl⟩|⟨rfl,hn,rfl,rfl⟩|⟨Qb,hn,rfl,rfl⟩|⟨rfl,rfl,rfl⟩|⟨rfl,hs,rfl,rfl⟩|⟨rfl,rfl,rfl⟩|⟨rfl,rfl,rfl⟩|⟨rfl,⟨Yu,Yv⟩,rfl,rfl⟩
  ·rfl
  ·rcases hn with rfl|rfl<;>rfl
  ·unfold zb0 zat
   rw [yh (by omega),yh (by omega),yg Qb,yh (by omega),yh (by omega),yg Qb];rfl
  ·rfl
  ·have YS:zeO s=true:=by unfold zeO;simp [hs.2];omega
   have e:zb0 (.mk 5 0 s [])=(zdC (.mk 5 0 s [])).1:=rfl;rw [e,zeR,yg YS];rfl
  ·have:=hl (.inl rfl)
   simp only [zb0,zat,this];rfl
  ·have:=hl (.inr rfl)
   simp only [zb0,zat,this];rfl
  ·rfl
theorem rowX_ok:∀l:List PV,zbt l=0->rowX l=rowF l
 | [],_=>rfl
 | x::l,h=>by
  have h1:zaK x=0:=by
   simp only [zbt] at h
   by_cases h1:zaK x=0
   ·exact h1
   ·rw [yg h1] at h;exact absurd h h1
  have h2:zbt l=0:=by simp only [zbt] at h;rw [h1,yh (by decide)] at h;exact h
  rw [rowX,rowF,zhM x h1,moreX_ok l h2]
theorem moreX_ok:∀l:List PV,zbt l=0->ze6 l=zbU l
 | [],_=>rfl
 | x::l,h=>by
  have h1:zaK x=0:=by
   simp only [zbt] at h
   by_cases h1:zaK x=0
   ·exact h1
   ·rw [yg h1] at h;exact absurd h h1
  have h2:zbt l=0:=by simp only [zbt] at h;rw [h1,yh (by decide)] at h;exact h
  rw [ze6,zbU,zhM x h1,moreX_ok l h2]
end
def FormX (v:PV):Prop:=∀(sl:Value) (w:World),IsV w anyF v sl->Calls Tryz.prog 20 #[pvA v sl] w fun e w'=>e=.returned (.string (mkB (zb0 v)))/\Below w.heap.size w w'
theorem rform_rowX {k n:Int} {s:List UInt8} {l:List PV} (hk:k≠0/\k≠1/\k≠2/\k≠3/\k≠4/\k≠5/\k≠8) (hx:∀(j:Nat) (x:PV),l[j]?=some x->FormX x) (hl:bndV (.mk k n s l)<=1152921504606846976):FormX (.mk k n s l):=by
 intro sl w hv;obtain ⟨a1,cap1,e1,g1,g2,g3⟩:=hv.len;subst e1;have HA:=yb hv;have HX:=yb hx;have m1:(l.length:Int)<=9223372036854775807:=by have g1':l.length<=cap1:=g1;unfold maxLen at g2;omega
 obtain ⟨R,hR⟩:∃R,R=mkB (zb0 (.mk k n s l)):=⟨_,rfl⟩;rw [<-hR];have Xs:bndL l<=1152921504606846976:=by rw [bndV_is] at hl;simp only [PV.l] at hl;omega
 have QV:=yb (fun (j:Nat)=>Nat.le_trans (rowX_len (l.take j)) (Nat.le_trans (bndL_le l j) Xs))
 have h6:k=6->R=⟨#[91]⟩++mkB (rowX l)++⟨#[93]⟩:=by
  rintro rfl;rw [hR,show (⟨#[91]⟩:ByteArray)=mkB [91] from rfl,show (⟨#[93]⟩:ByteArray)=mkB [93] from rfl,zbM,zbM];simp [zb0]
 have h7:k≠6->R=⟨#[60,60]⟩++mkB (rowX l)++⟨#[62,62]⟩:=by
  intro hk6;rw [hR,show (⟨#[60,60]⟩:ByteArray)=mkB [60,60] from rfl,show (⟨#[62,62]⟩:ByteArray)=mkB [62,62] from rfl,zbM,zbM];unfold zb0;rw [yh hk.1,yh hk.2.1,yh (by omega),yh hk.2.2.2.2.1,yh hk.2.2.2.2.2.1,yh hk.2.2.2.2.2.2,yh hk6];simp
 have H6:=yb h6;have H7:=yb h7;simp only [PV.l] at g1;simp only [pvA,PV.kind,PV.n,PV.s,PV.l];obtain ⟨hk0,QL,Qb,QS,Z0,Xt,Xu⟩:=hk;have e0:(k==0)=false:=by rw [yf];exact hk0
 have e1:(k==1)=false:=by rw [yf];exact QL
 have e2:(k==2)=false:=by rw [yf];exact Qb
 have e3:(k==3)=false:=by rw [yf];exact QS
 have e4:(k==4)=false:=by rw [yf];exact Z0
 have e5:(k==5)=false:=by rw [yf];exact Xt
 have e8:(k==8)=false:=by rw [yf];exact Xu
 clear hv hx hR hl g2 g3 hk0 QL Qb QS Z0 Xt Xu Xs h6 h7;generalize mkB s=S at *;go_enter Tryz.func20,Tryz.ntmps20
 obtain ⟨B,hB⟩:∃B,B=w.heap.size:=⟨_,rfl⟩;have Qv:=yb (zac (w:=w) (b:=B) (.cells #[.int .i64 k,.int .i64 n,.string S,.slice a1 l.length cap1] 25) hB);have HW:=yb (zai w (.cells #[.int .i64 k,.int .i64 n,.string S,.slice a1 l.length cap1] 25))
 go_upto_region 1 with fail
 rw [<-hB];clear hB;generalize w.alloc _=W1 at *;obtain ⟨⟨c0,c1,c2,c3⟩,-⟩:=zad Qv.out;go_wp2;clear c0 c1 c2 c3
 go_loopw [9,10] (fun vo vj wr=>∃(j:Nat) (O:ByteArray),vj=.int .i64 j/\vo=.string O/\j<=l.length/\O.size<=1152921504606846976/\Hid (O=mkB (rowX (l.take j)))/\Hid (Below W1.heap.size W1 wr)) (fun _ vj _=>l.length-(intOf vj).toNat)
 case atStart=>exact ⟨0,_,rfl,rfl,Nat.zero_le _,by decide,yb rfl,Below.refl _ _⟩
 case round =>
  obtain ⟨j,O,rfl,rfl,hj,hO,HO,QX⟩:=hrel;have YJ:=yb (HW.out.trans (QX.out.mono HW.out.size));obtain ⟨⟨c0,c1,c2,c3⟩,-⟩:=zad (zab QX.out Qv.out)
  by_cases q1:j<l.length
  case neg =>
   have hd1:decide (j<l.length)=false:=ye q1;have Qo:decide ((j:Int)<(l.length:Int))=false:=ye (by omega);have Qc:¬(j:Int)<(l.length:Int):=by omega
   have Z1:O=mkB (rowX l):=by rw [HO.out,List.take_of_length_le (by omega)]
   have Vw:2+O.size<=9223372036854775807:=by omega
   by_cases hk:k=6
   ·have HE:=yb ((H6.out hk).trans (by rw [<-Z1]))
    have e6:(k==6)=true:=by rw [beq_iff_eq];exact hk
    clear H6 H7 HA HX HO Z1 QV hk;go_wp2;go_ret;exact ⟨by rw [HE.out];rfl,YJ.out⟩
   ·have HE:=yb ((H7.out hk).trans (by rw [<-Z1]))
    have e6:(k==6)=false:=by rw [yf];exact hk
    clear H6 H7 HA HX HO Z1 QV hk;go_wp2;go_ret;exact ⟨by rw [HE.out];rfl,YJ.out⟩
  have hd1:decide (j<l.length)=true:=yd q1;have Qo:decide ((j:Int)<(l.length:Int))=true:=yd (by omega);obtain ⟨x,hx⟩:∃x,l[j]?=some x:=⟨_,List.getElem?_eq_getElem q1⟩;obtain ⟨-,-,-,b1,o1,rfl,-,-,Q6⟩:=(HA.out.below YJ.out).at (by simp only [PV.l];omega);simp only [PV.l] at Q6;obtain ⟨sx,Q7,x0,x1,x2,x3⟩:=Q6 j x hx;obtain ⟨sa',sc',rfl,-,-,-⟩:=Q7.len;have Qa:=yb (HX.out j x hx _ wr Q7);simp only [pvA] at Qa;have hT:=rowX_take hx;have QZ:=yb (QV.out (j+1))
  have Vf:(mkB (zb0 x)).size<=1152921504606846976:=by
   rw [zaR];have:=QZ.out;rw [hT,List.length_append] at this
   split at this
   ·omega
   ·simp at this;omega
  have HT:=yb hT;clear Q7 Q6 hx HA HX QV hT;have hjl:(0:Int)<=(j:Int):=by omega
  have Vg:(j:Int)<(l.length:Int):=by omega
  have Vx:IntKind.i64.wrap ((j:Int)+1)=(j:Int)+1:=IntWalk.i64_in _ (by omega);obtain ⟨fx,Zd⟩:∃fx,fx=mkB (zb0 x):=⟨_,rfl⟩;rw [<-Zd] at Qa Vf;have Z2:=yb Zd;clear Zd;have Xp:O.size+1+fx.size<=9223372036854775807:=by omega
  generalize x.kind=xk at *;generalize x.n=xn at *;generalize mkB x.s=xs at *;generalize x.l.length=xl at *
  by_cases j0:j=0
  ·have hn:=HT.out
   rw [yg j0] at hn;have Vh:decide (0<j)=false:=ye (by omega);have Vi:decide ((0:Int)<(j:Int))=false:=ye (by omega);have HN:=yb (show O++fx=mkB (rowX (l.take (j+1))) by rw [hn,HO.out,Z2.out,zbM]);have YK:=yb (show (O++fx).size<=1152921504606846976 by rw [HN.out,zaR];exact QZ.out);clear HT HO Z2 QZ hn H6 H7 j0;go_wp2_with fail
   refine Qa.out.mono ?_;rintro e w5 ⟨rfl,Zc⟩;have Zx:=yo QX Zc;clear Zc x0 x1 x2 x3 Qa c0 c1 c2 c3;go_wp2
   go_roundw
   case rel=>exact ⟨j+1,_,by go_num,rfl,by omega,YK.out,HN,Zx⟩
   case measure=>simp [intOf];omega
  ·have hn:=HT.out
   rw [yh j0] at hn
   have HN:=yb (show O++⟨#[32]⟩++fx=mkB (rowX (l.take (j+1))) by
    rw [hn,HO.out,Z2.out,show (⟨#[32]⟩:ByteArray)=mkB [32] from rfl,zbM,zbM];simp)
   have YK:=yb (show (O++⟨#[32]⟩++fx).size<=1152921504606846976 by rw [HN.out,zaR];exact QZ.out);have Vh:decide (0<j)=true:=yd (by omega);have Vi:decide ((0:Int)<(j:Int))=true:=yd (by omega);clear HT HO Z2 QZ hn H6 H7;go_wp2_with fail
   refine Qa.out.mono ?_;rintro e w5 ⟨rfl,Zc⟩;have Zx:=yo QX Zc;clear Zc x0 x1 x2 x3 Qa c0 c1 c2 c3;go_wp2
   go_roundw
   case rel=>exact ⟨j+1,_,by go_num,rfl,by omega,YK.out,HN,Zx⟩
   case measure=>simp [intOf];omega
theorem rform_leafX {v:PV} (hk:v.kind=0\/v.kind=1\/v.kind=2\/v.kind=3\/v.kind=4\/v.kind=5\/v.kind=8) (ht:bndV v<=1152921504606846976):FormX v:=by
 intro sl w hv;obtain ⟨a1,cap1,e1,g1,g2,g3⟩:=hv.len;subst e1;have m1:(v.l.length:Int)<=9223372036854775807:=by unfold maxLen at g2;omega
 have HB:=yb (zai w (.cells #[.int .i64 v.kind,.int .i64 v.n,.string (mkB v.s),.slice a1 v.l.length cap1] 25));have Qv:=yb (zac (w:=w) (.cells #[.int .i64 v.kind,.int .i64 v.n,.string (mkB v.s),.slice a1 v.l.length cap1] 25) rfl);have hs:4*v.s.length+100<=bndV v:=by rw [bndV_is];omega
 clear hv g1 g2 g3;generalize bndV v=R at *;obtain ⟨k,n,s,l⟩:=v;simp only [PV.kind,PV.n,PV.s,PV.l,pvA] at m1 HB Qv hs hk |-;rcases hk with rfl|rfl|Qb|Qb|rfl|rfl|rfl
 ·rw [show mkB (zb0 (.mk 0 n s l))=⟨#[110,117,108,108]⟩ from rfl]
  clear hs ht;generalize mkB s=S at *;generalize l.length=ll at *;go_enter Tryz.func20,Tryz.ntmps20
  go_wp2;go_ret;exact ⟨rfl,HB.out⟩
 ·by_cases h1:n=1
  ·have e1:(n==1)=true:=by rw [beq_iff_eq];exact h1
   rw [show mkB (zb0 (.mk 1 n s l))=⟨#[116,114,117,101]⟩ by simp [zb0,mkB,h1]];clear h1 hs ht;generalize mkB s=S at *;generalize l.length=ll at *;go_enter Tryz.func20,Tryz.ntmps20
   go_wp2;go_ret;exact ⟨rfl,HB.out⟩
  ·have e1:(n==1)=false:=by rw [yf];exact h1
   rw [show mkB (zb0 (.mk 1 n s l))=⟨#[102,97,108,115,101]⟩ by simp [zb0,mkB,h1]];clear h1 hs ht;generalize mkB s=S at *;generalize l.length=ll at *;go_enter Tryz.func20,Tryz.ntmps20
   go_wp2;go_ret;exact ⟨rfl,HB.out⟩
 ·have HP:=yb (fun W=>zeD 2 n (mkB s) a1 l.length cap1 W m1)
  subst Qb;unfold zcn at HP;rw [show mkB (zb0 (.mk 2 n s l))=mkS (zaT 2 n (zbA (mkB s) l.length)).1 from rfl];clear hs ht;generalize zaT 2 n (zbA (mkB s) l.length)=p at *;generalize l.length=ll at *;obtain ⟨t,er⟩:=p;generalize mkB s=S at *;simp only at HP |-;generalize mkS t=T at *;go_enter Tryz.func20,Tryz.ntmps20
  go_wp2_with (go_at_call 48;refine (HP.out _).mono ?_;rintro e w1 ⟨rfl,Qr⟩)
  go_ret;exact ⟨rfl,HB.out.trans (Qr.mono HB.out.size)⟩
 ·have HP:=yb (fun W=>zeD 3 n (mkB s) a1 l.length cap1 W m1)
  subst Qb;unfold zcn at HP;rw [show mkB (zb0 (.mk 3 n s l))=mkS (zaT 3 n (zbA (mkB s) l.length)).1 from rfl];clear hs ht;generalize zaT 3 n (zbA (mkB s) l.length)=p at *;generalize l.length=ll at *;obtain ⟨t,er⟩:=p;generalize mkB s=S at *;simp only at HP |-;generalize mkS t=T at *;go_enter Tryz.func20,Tryz.ntmps20
  go_wp2_with (go_at_call 48;refine (HP.out _).mono ?_;rintro e w1 ⟨rfl,Qr⟩)
  go_ret;exact ⟨rfl,HB.out.trans (Qr.mono HB.out.size)⟩
 ·have HT:=yb (fun W=>rtext13 s W (by omega))
  rw [show mkB (zb0 (.mk 4 n s l))=mkB (zcc s) from rfl];clear hs ht;generalize mkB (zcc s)=T at *;generalize mkB s=S at *;generalize l.length=ll at *;go_enter Tryz.func20,Tryz.ntmps20
  go_wp2_with (go_at_call 49;refine (HT.out _).mono ?_;rintro e w1 ⟨rfl,Qr⟩)
  go_ret;exact ⟨rfl,HB.out.trans (Qr.mono HB.out.size)⟩
 ·have HT:=yb (fun W=>rname13 s W (by omega))
  rw [show mkB (zb0 (.mk 5 n s l))=mkB (zdC (.mk 5 0 s [])).1 from rfl];clear hs ht;generalize zdC (.mk 5 0 s [])=p at *;obtain ⟨t,er⟩:=p;simp only at HT |-;generalize mkB t=T at *;generalize mkB s=S at *;generalize l.length=ll at *;go_enter Tryz.func20,Tryz.ntmps20
  go_wp2_with (go_at_call 50;refine (HT.out _).mono ?_;rintro e w1 ⟨rfl,Qr⟩)
  go_ret;exact ⟨rfl,HB.out.trans (Qr.mono HB.out.size)⟩
 ·have HP:=yb (fun W=>zeD 2 n ⟨#[]⟩ none 0 0 W (by decide))
  unfold zcn at HP;rw [show zbA ⟨#[]⟩ 0=true from rfl] at HP;have YL:=zdQ 2 n true
  rw [show mkB (zb0 (.mk 8 n s l))=mkS (zaT 2 n true).1++⟨#[32,48,32,82]⟩ by
   rw [show (⟨#[32,48,32,82]⟩:ByteArray)=mkS [32,48,32,82] from rfl,ze2];rfl]
  generalize zaT 2 n true=p at *;obtain ⟨t,er⟩:=p;simp only at YL HP |-;have Qy:(mkS t).size<=40:=by rw [zbP];exact YL
  clear hs ht YL;generalize mkB s=S at *;generalize mkS t=T at *;generalize l.length=ll at *;go_enter Tryz.func20,Tryz.ntmps20
  go_wp2_with (go_at_call 48;refine (HP.out _).mono ?_;rintro e w1 ⟨rfl,Qr⟩)
  go_ret;exact ⟨rfl,HB.out.trans (Qr.mono HB.out.size)⟩
theorem rform_x:∀(N:Nat) (v:PV),SizeOf.sizeOf v<=N->bndV v<=1152921504606846976->FormX v:=by
 intro N
 induction N with
 | zero=>intro v h;obtain ⟨_,_,_,_⟩:=v;simp at h
 | succ N ih =>
 intro v hN hl
 by_cases hk:v.kind=0\/v.kind=1\/v.kind=2\/v.kind=3\/v.kind=4\/v.kind=5\/v.kind=8
 ·exact rform_leafX hk hl
 ·have hx:∀(j:Nat) (x:PV),v.l[j]?=some x->FormX x:=fun j x hx =>
   ih x (by have:=zb3 hx;omega) (by have:=bndL_mem hx;rw [bndV_is] at hl;omega)
  obtain ⟨k,n,s,l⟩:=v;simp only [PV.kind,PV.l] at hk hx;exact rform_rowX (by omega) hx hl
def FewX (s:Sec):Prop:=s.gs.length<=80/\0<=fewV s.tr 100/\(zb0 s.tr).length<=3000/\∀g∈s.gs,g.es.length<=100
theorem few_uptoX {gs:List Grp} {c:Nat} {g:Grp} (hg:gs[c]?=some g) (h:∀x∈gs.take c,x.es.length<=100) (hx:g.es.length<=100):∀x∈gs.take (c+1),x.es.length<=100:=by
 intro x hm;rw [List.take_add_one,hg] at hm;rcases List.mem_append.1 hm with h1|h1
 ·exact h x h1
 ·simp at h1;subst h1;exact hx
theorem rfew15x {s:Sec} {gv sl:Value} {w:World} (h:zcj w anyF s gv sl) (ht:txM 140737488355328 s.tr) :
  Calls Tryz.prog 5 #[secA s gv sl] w fun e w'=>(∃b,e=.returned (.bool b)/\(b=true->FewX s))/\Below w.heap.size w w':=by
 obtain ⟨gs,x⟩:=s;simp only at ht;obtain ⟨ga,gc,rfl,Yj,Yk,-⟩:=h.1.len;simp only at Yj;have HF:=yb (fun (W:World) (hb:Below w.heap.size w W)=>few_any _ x sl W 100 (yp _) (by decide) (by decide) (h.2.below hb));have Zg:=yb (fun (h0:0<=fewV x 100) (W:World) (hb:Below w.heap.size w W)=>rform_x _ x (yp _) (bnd_few h0 ht) sl W (h.2.below hb));have ZM:=yb (fun (W:World) (hb:Below w.heap.size w W)=>(h.1.below hb));have ZN:=yb (show gs.length<=80->0<=fewV x 100->(mkB (zb0 x)).size<=3000->(∀g∈gs.take gs.length,g.es.length<=100)->FewX ⟨gs,x⟩ from fun h1 h2 h4 h3=>⟨h1,h2,by rw [zaR] at h4;exact h4,by rw [List.take_length] at h3;exact h3⟩);have ZH:=zga x 100 (by decide);have Vy:-1<=fewV x 100:=ZH.1;have Vz:fewV x 100<=100:=ZH.2.1;unfold secA;simp only at ZM |-;obtain ⟨sa,sc,rfl,-,-,-⟩:=h.2.len;simp only at HF Zg |-;unfold pvA at HF Zg;clear h ht ZH;have Yn:(gs.length:Int)<=9223372036854775807:=by unfold maxLen at Yk;omega
 generalize FewX ⟨gs,x⟩=OK at *;generalize mkB (zb0 x)=fs at *;generalize fewV x 100=m2 at *;generalize x.kind=xk at *;generalize x.n=xn at *;generalize mkB x.s=xb at *;generalize x.l.length=xl at *;obtain ⟨B,hB⟩:∃B,B=w.heap.size:=⟨_,rfl⟩;have Qq:=yb (zai w (.cells #[.slice ga gs.length gc,.int .i64 xk,.int .i64 xn,.string xb,.slice sa xl sc] 27));have Qv:=yb (zac (w:=w) (b:=B) (.cells #[.slice ga gs.length gc,.int .i64 xk,.int .i64 xn,.string xb,.slice sa xl sc] 27) hB);go_enter Tryz.func5,Tryz.ntmps5
 go_upto_region 1 with fail
 try rw [<-hB]
 clear hB;generalize World.alloc _ _=W1 at *;obtain ⟨⟨x0,x1,x2,x3,x4⟩,-⟩:=zaW Qv.out
 by_cases h80:gs.length<=80
 case neg =>
  have hd1:decide (80<gs.length)=true:=yd (by omega);have Qo:decide ((80:Int)<gs.length)=true:=yd (by omega);clear HF Zg ZM ZN;go_wp2;go_ret;exact ⟨⟨false,rfl,fun h=>(by cases h)⟩,Qq.out⟩
 have hd1:decide (80<gs.length)=false:=ye (by omega);have Qo:decide ((80:Int)<gs.length)=false:=ye (by omega);have Qi:=yb (HF.out W1 Qq.out);go_wp2_with fail
 refine Qi.out.mono ?_;rintro e w2 ⟨rfl,hb⟩;have Qw:=yo Qq hb;have QR:=yb (zab hb Qv.out);clear hb HF Qi x0 x1 x2 x3 x4 Qv Qq;obtain ⟨⟨x0,x1,x2,x3,x4⟩,-⟩:=zaW QR.out
 by_cases hm:0<=m2
 case neg =>
  have Z8:decide (m2<0)=true:=yd (by omega);clear Zg ZM ZN;go_wp2;go_ret;exact ⟨⟨false,rfl,fun h=>(by cases h)⟩,Qw.out⟩
 have Z8:decide (m2<0)=false:=ye (by omega);have Qe:=yb (Zg.out hm w2 Qw.out);go_wp2_with fail
 refine Qe.out.mono ?_;rintro e w3 ⟨rfl,hb⟩;have Za:=yo Qw hb;have Ze:=yb (zab hb QR.out);clear hb Zg Qe x0 x1 x2 x3 x4 QR Qw;obtain ⟨⟨x0,x1,x2,x3,x4⟩,-⟩:=zaW Ze.out
 by_cases h3:3000<fs.size
 ·have Z9:decide (3000<fs.size)=true:=yd h3
  have Vj:decide ((3000:Int)<fs.size)=true:=yd (by omega);clear ZM ZN;go_wp2;go_ret;exact ⟨⟨false,rfl,fun h=>(by cases h)⟩,Za.out⟩
 have Z9:decide (3000<fs.size)=false:=ye h3;have Vj:decide ((3000:Int)<fs.size)=false:=ye (by omega);have YM:=yb (ZN.out h80 hm (by omega));clear ZN hm h80;go_wp2_with fail
 clear x0 x1 x2 x3 x4
 go_loopw [3] (fun v wr=>∃c:Nat,v=.int .i64 c/\c<=gs.length/\Hid (Below w3.heap.size w3 wr)/\Hid (∀x∈gs.take c,x.es.length<=100)) (fun v _=>gs.length-(intOf v).toNat)
 case atStart=>exact ⟨0,rfl,Nat.zero_le _,yb (Below.refl _ _),yb (fun x hx=>by simp at hx)⟩
 case round =>
  obtain ⟨c,rfl,hc,HW,HA⟩:=hrel;have HB:=yb (Za.out.trans (HW.out.mono Za.out.size));obtain ⟨⟨x0,x1,x2,x3,x4⟩,-⟩:=zaW (zab HW.out Ze.out)
  by_cases hlt:c<gs.length
  case neg =>
   have Yq:c=gs.length:=by omega
   subst Yq;have Yr:decide ((gs.length:Int)<(gs.length:Int))=false:=ye (by omega);have Zb:decide (gs.length<gs.length)=false:=ye (by omega);go_wp2;go_ret;exact ⟨⟨true,rfl,fun _=>YM.out HA.out⟩,HB.out⟩
  have Yr:decide ((c:Int)<(gs.length:Int))=true:=yd (by omega);have Zb:decide (c<gs.length)=true:=yd (by omega);have XX:(c:Int)<(gs.length:Int):=by omega
  obtain ⟨-,-,-,b,off,ha,-,-,QN⟩:=(ZM.out wr HB.out).at (by omega);subst ha;obtain ⟨g,hg⟩:∃g,gs[c]?=some g:=⟨_,List.getElem?_eq_getElem hlt⟩;obtain ⟨v,hv,g0,g1⟩:=QN c g hg;obtain ⟨ea,ec,rfl,XY,Ys,-⟩:=hv.len;have Xv:=yb (few_uptoX hg HA.out);have Yw:(g.es.length:Int)<=9223372036854775807:=by unfold maxLen at Ys;omega
  clear QN hv hg HA;generalize g.es.length=el at *
  by_cases h100:100<el
  ·have Vk:decide (100<el)=true:=yd h100
   have Vl:decide ((100:Int)<el)=true:=yd (by omega);go_wp2;go_ret;exact ⟨⟨false,rfl,fun h=>(by cases h)⟩,HB.out⟩
  ·have Vk:decide (100<el)=false:=ye h100
   have Vl:decide ((100:Int)<el)=false:=ye (by omega);have Vm:=yb (Xv.out (by omega));clear Xv;go_wp2
   go_roundw
   case rel=>exact ⟨c+1,by go_num,by omega,HW,Vm⟩
   case measure=>simp [intOf];omega
set_option maxRecDepth 100000 in
theorem bcmp_any (a b:ByteArray) (w:World):Calls Tryz.prog 124 #[.string a,.string b] w fun e w'=>e=.returned (.int .i64 (Lib.compareBytes a.data.toList b.data.toList))/\w=w':=by
 go_enter Tryz.func124,Tryz.ntmps124
 go_wp2;rw [run_callFunc_extern Tryz.func154 (by kernel_rfl) (by kernel_rfl) (by kernel_rfl) (e:=Extern.BytealgCompare.compare) (by kernel_rfl),Lib.run_compareString];simp only [Result.andThen];rw [Oper.upon_value];go_wp2;go_ret;exact ⟨rfl,rfl⟩
theorem scmp_any (a b:ByteArray) (w:World):Calls Tryz.prog 85 #[.string a,.string b] w fun e w'=>e=.returned (.int .i64 (Lib.compareBytes a.data.toList b.data.toList))/\w=w':=by
 have HC:=yb (fun W=>bcmp_any a b W);go_enter Tryz.func85,Tryz.ntmps85
 go_wp2_with (go_at_call 124;refine (HC.out _).mono ?_;rintro e w' ⟨rfl,rfl⟩)
 go_ret;exact ⟨rfl,rfl⟩
theorem isNaN_any (x:Int) (w:World):Calls Tryz.prog 123 #[.int .i64 x] w fun e w'=>e=.returned (.bool false)/\w=w':=by
 have h:(x != x)=false:=by simp
 go_enter Tryz.func123,Tryz.ntmps123
 go_wp2;go_ret;exact ⟨rfl,rfl⟩
theorem icmp_eq (x:Int) (w:World):Calls Tryz.prog 84 #[.int .i64 x,.int .i64 x] w fun e w'=>e=.returned (.int .i64 0)/\w=w':=by
 have HN:=yb (fun W=>isNaN_any x W);have h:decide (x<x)=false:=by simp
 go_enter Tryz.func84,Tryz.ntmps84
 go_wp2_with (go_at_call 123;refine (HN.out _).mono ?_;rintro e w' ⟨rfl,rfl⟩)
 go_ret;exact ⟨rfl,rfl⟩
theorem zc5:∀l:List UInt8,Lib.compareBytes l l=0
 | []=>rfl
 | a::l=>by
  rw [Lib.compareBytes,yh (UInt8.lt_irrefl a),yh (UInt8.lt_irrefl a)];exact zc5 l
theorem or_zero {w:World} {b:Nat} (h0:w.cell? ⟨b,0,none⟩=some (.int .i64 0)) (h1:w.cell? ⟨b,1,none⟩=some (.int .i64 0)) (h2:w.cell? ⟨b,2,none⟩=some (.int .i64 0)) :
  Calls Tryz.prog 83 #[.slice (some ⟨b,0,none⟩) 3 3] w fun e w'=>e=.returned (.int .i64 0)/\w=w':=by
 have hc:∀j:Nat,j<3->w.cell? ⟨b,0+j,none⟩=some (.int .i64 0):=fun j hj=>by
  match j,hj with
  | 0,_=>exact h0
  | 1,_=>exact h1
  | 2,_=>exact h2
 have HC:=yb hc;clear h0 h1 h2 hc;go_enter Tryz.func83,Tryz.ntmps83
 go_wp2
 go_loop [8] (fun v=>∃j:Nat,v=.int .i64 j/\j<=3) (fun v=>3-(intOf v).toNat)
 case atStart=>exact ⟨0,rfl,by omega⟩
 case round =>
  obtain ⟨j,rfl,hj⟩:=hrel
  by_cases hl:j<3
  ·have hd:decide ((j:Int)<3)=true:=by simp;omega
   have Qo:decide (j<3)=true:=by simp;omega
   have Vn:=HC.out j hl;rw [Nat.zero_add] at Vn;have Vg:(j:Int)<3:=by omega
   go_wp2
   go_round
   case rel=>exact ⟨j+1,by go_num,by omega⟩
   case measure=>simp [intOf];omega
  ·have hd:decide ((j:Int)<3)=false:=ye (by omega)
   have Qo:decide (j<3)=false:=ye (by omega);go_wp2;go_ret;exact ⟨rfl,rfl⟩
end Go.Proofs.YtcmoehknppjkiaaGreatDoor
