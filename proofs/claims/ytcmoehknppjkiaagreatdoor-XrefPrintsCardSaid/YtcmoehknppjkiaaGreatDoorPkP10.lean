/-
  Our texts Sw5 to Fx2, in one.
-/
import Derived.Test.YtcmoehknppjkiaaGreatDoorPkP9
import Derived.Lib.SlBytesConst
import Derived.Deep.RegionLaw
set_option maxRecDepth 8000
set_option maxHeartbeats 8000000
namespace Go.Proofs.YtcmoehknppjkiaaGreatDoor
open Go.RowKit
theorem readableW (s:List UInt8) (w:World) (hl:s.length<=10000000) :
  Calls Tryz.prog 130 #[.string (mkB s)] w fun e w'=>e=.returned (.bool (zbJ s))/\w=w':=by
 have hsz:(mkB s).size=s.length:=zar s
 have hszi:((mkB s).size:Int)=s.length:=by rw [hsz]
 have HSZ:=yb hsz
 obtain ⟨R,hR⟩:∃R,R=zbJ s:=⟨_,rfl⟩
 rw [<-hR]
 have HR:=yb hR
 clear hR
 go_enter Tryz.func130,Tryz.ntmps130
 go_wp2
 go_loopw [6] (fun vk wr=>∃k:Nat,vk=.int .i64 k/\k<=s.length/\wr=w/\Hid (zbJ (s.take k)=true)) (fun vk _=>s.length-(intOf vk).toNat)
 case atStart=>exact ⟨0,rfl,Nat.zero_le _,rfl,yb rfl⟩
 case round =>
  obtain ⟨k,rfl,hk,hwr,HG⟩:=hrel
  rw [hwr]
  clear hwr
  by_cases q1:k<s.length
  case neg =>
   have hd1:decide (k<s.length)=false:=ye q1
   have hd2:decide ((k:Int)<(s.length:Int))=false:=ye (by omega)
   have hq2:¬(k:Int)<(s.length:Int):=by omega
   have hg:=HG.out
   rw [List.take_of_length_le (by omega)] at hg
   have hr:=HR.out
   rw [hg] at hr
   subst hr
   clear hg HG HR
   go_wp2
   go_ret
   exact ⟨rfl,rfl⟩
  have hd1:decide (k<s.length)=true:=yd q1
  have hd2:decide ((k:Int)<(s.length:Int))=true:=yd (by omega)
  have hk0:(0:Int)<=(k:Int):=by omega
  have hk1:(k:Int)<(s.length:Int):=by omega
  have hk2:k<(mkB s).size:=by omega
  obtain ⟨c,hc⟩:∃c,c=s[k]'q1:=⟨_,rfl⟩
  have hcs:s[k]?=some c:=by rw [hc];exact List.getElem?_eq_getElem q1
  obtain ⟨n,hn⟩:∃n,n=c.toNat:=⟨_,rfl⟩
  have hat:((mkB s)[k]'hk2).toNat=n:=by rw [hn,hc];exact ze0 q1 hk2
  by_cases h1:n<32
  ·have b1:decide (n<32)=true:=yd h1
   have b1':decide ((n:Int)<32)=true:=yd (by omega)
   have hb:zbJ s=false:=readF_bad hcs (by rw [<-hn,ye (by omega),Bool.false_and])
   have hr:=HR.out
   rw [hb] at hr
   subst hr
   clear HG HR hb hcs hc hn h1
   go_wp2
   go_ret
   exact ⟨rfl,rfl⟩
  have b1:decide (n<32)=false:=ye h1
  have b1':decide ((n:Int)<32)=false:=ye (by omega)
  by_cases h2:126<n
  ·have b2:decide (126<n)=true:=yd h2
   have b2':decide ((126:Int)<(n:Int))=true:=yd (by omega)
   have hb:zbJ s=false:=readF_bad hcs (by rw [<-hn,ye (show ¬n<=126 by omega),Bool.and_false])
   have hr:=HR.out
   rw [hb] at hr
   subst hr
   clear HG HR hb hcs hc hn h1 h2
   go_wp2
   go_ret
   exact ⟨rfl,rfl⟩
  have b2:decide (126<n)=false:=ye h2
  have b2':decide ((126:Int)<(n:Int))=false:=ye (by omega)
  have HG2:=yb (show zbJ (s.take (k+1))=true by rw [zfd hcs,HG.out,<-hn,yd (by omega),yd (by omega)];rfl)
  clear HG hcs hc hn h1 h2
  go_wp2
  go_roundw
  case rel=>exact ⟨k+1,by go_num,by omega,trivial,HG2⟩
  case measure=>simp [intOf];omega
theorem hexsW {w:World} {S:Nat->Prop} {p:Nat} {out:List UInt8} (h:WrQ w S p out) (s:List UInt8) (hl:out.length+2*s.length+4<=10000000) (hrd:zbJ s=false) :
  Calls Tryz.prog 94 #[.pointer (some ⟨p,0,none⟩),.string (mkB s)] w fun e w'=>e=.returned (.tuple #[])/\zai w S p (out++zbD s) w':=by
 have HTX:=yb (show zbD s=60::(hexF s++[62]) by unfold zbD;rw [yh (by rw [hrd];decide)])
 have HRD:=yb (fun W=>readableW s W (by omega))
 rw [hrd] at HRD
 have HA:=yb (zaE h 60 60 rfl (by omega))
 have hsz:(mkB s).size=s.length:=zar s
 have hszi:((mkB s).size:Int)=s.length:=by rw [hsz]
 have HSZ:=yb hsz
 have hm:(s.length:Int)<=10000000:=by omega
 clear hrd
 go_enter Tryz.func94,Tryz.ntmps94
 go_wp2_with (go_at_call 130;refine (HRD.out _).mono ?_;rintro e w' ⟨rfl,rfl⟩)
 refine HA.out.mono ?_
 rintro e w1 ⟨rfl,hN1⟩
 have HN1:=yb hN1
 clear hN1 HA HRD
 go_wp2
 go_loopw [15] (fun vk wr=>∃k:Nat,vk=.int .i64 k/\k<=s.length/\Hid (zai w S p ((out++[60])++hexF (s.take k)) wr)) (fun vk _=>s.length-(intOf vk).toNat)
 case atStart=>exact ⟨0,rfl,Nat.zero_le _,yb (by rw [List.take_zero];simpa [hexF] using HN1.out)⟩
 case round =>
  obtain ⟨k,rfl,hk,HN⟩:=hrel
  obtain ⟨S1,hq1,hk1',hs1⟩:=HN.out
  have HQ1:=yb hq1
  have HK1:=yb hk1'
  have HS1:=yb hs1
  have hlen:((out++[60])++hexF (s.take k)).length+2<=10000000:=by
   have h1:=zc9 (s.take k)
   rw [List.length_take] at h1
   simp
   omega
  have HOL:=yb hlen
  clear hq1 hk1' hs1 HN HN1 hlen
  by_cases q1:k<s.length
  case neg =>
   have hd1:decide (k<s.length)=false:=ye q1
   have hd2:decide ((k:Int)<(s.length:Int))=false:=ye (by omega)
   have hq2:¬(k:Int)<(s.length:Int):=by omega
   have HWB:=yb (zaE HQ1.out 62 62 rfl (by have:=HOL.out;omega))
   have HTK:=yb (show s.take k=s from List.take_of_length_le (by omega))
   go_wp2_with fail
   refine HWB.out.mono ?_
   rintro e w2 ⟨rfl,hN2⟩
   have HE:=yb (show zai w S p (out++zbD s) w2 by
    have h3:=zai.trans HK1.out HS1.out hN2
    rw [HTK.out] at h3
    rw [HTX.out]
    simpa using h3)
   clear hN2
   go_wp2
   first
    | go_end0
    | refine yi (results_none rfl _ _ _) rfl ?_
   exact ⟨rfl,HE.out⟩
  have hd1:decide (k<s.length)=true:=yd q1
  have hd2:decide ((k:Int)<(s.length:Int))=true:=yd (by omega)
  have hk0:(0:Int)<=(k:Int):=by omega
  have hk1:(k:Int)<(s.length:Int):=by omega
  have hk2:k<(mkB s).size:=by omega
  obtain ⟨c,hc⟩:∃c,c=s[k]'q1:=⟨_,rfl⟩
  have hcs:s[k]?=some c:=by rw [hc];exact List.getElem?_eq_getElem q1
  have hT:=ze2 hcs
  obtain ⟨n,hn⟩:∃n,n=c.toNat:=⟨_,rfl⟩
  have hat:((mkB s)[k]'hk2).toNat=n:=by rw [hn,hc];exact ze0 q1 hk2
  have HH:=yb (hexW HQ1.out c HOL.out)
  rw [<-hn] at HH
  have HT:=yb hT
  clear hT hn hc hcs
  go_wp2_with fail
  refine HH.out.mono ?_
  rintro e w2 ⟨rfl,hN2⟩
  have HN2:=yb (show zai w S p ((out++[60])++hexF (s.take (k+1))) w2 by
   rw [HT.out,<-List.append_assoc (out++[60])]
   exact zai.trans HK1.out HS1.out hN2)
  clear hN2 HH
  go_wp2
  go_roundw
  case rel=>exact ⟨k+1,by go_num,by omega,HN2⟩
  case measure=>simp [intOf];omega
theorem baresW {w:World} {S:Nat->Prop} {p:Nat} {out:List UInt8} (h:WrQ w S p out) (s:List UInt8) (hl:out.length+2*s.length+4<=10000000) (hrd:zbJ s=true) :
  Calls Tryz.prog 94 #[.pointer (some ⟨p,0,none⟩),.string (mkB s)] w fun e w'=>e=.returned (.tuple #[])/\zai w S p (out++zbD s) w':=by
 have HTX:=yb (show zbD s=40::(zbG s++[41]) by unfold zbD;rw [yg hrd])
 have HRD:=yb (fun W=>readableW s W (by omega))
 rw [hrd] at HRD
 have HA:=yb (zaE h 40 40 rfl (by omega))
 have hsz:(mkB s).size=s.length:=zar s
 have hszi:((mkB s).size:Int)=s.length:=by rw [hsz]
 have HSZ:=yb hsz
 have hm:(s.length:Int)<=10000000:=by omega
 clear hrd
 go_enter Tryz.func94,Tryz.ntmps94
 go_wp2_with (go_at_call 130;refine (HRD.out _).mono ?_;rintro e w' ⟨rfl,rfl⟩)
 refine HA.out.mono ?_
 rintro e w1 ⟨rfl,hN1⟩
 have HN1:=yb hN1
 clear hN1 HA HRD
 go_wp2
 go_loopw [34] (fun vk wr=>∃k:Nat,vk=.int .i64 k/\k<=s.length/\Hid (zai w S p ((out++[40])++zbG (s.take k)) wr)) (fun vk _=>s.length-(intOf vk).toNat)
 case atStart=>exact ⟨0,rfl,Nat.zero_le _,yb (by rw [List.take_zero];simpa [zbG] using HN1.out)⟩
 case round =>
  obtain ⟨k,rfl,hk,HN⟩:=hrel
  obtain ⟨S1,hq1,hk1',hs1⟩:=HN.out
  have HQ1:=yb hq1
  have HK1:=yb hk1'
  have HS1:=yb hs1
  have hlen:((out++[40])++zbG (s.take k)).length+2<=10000000\/k=s.length:=by
   have h1:=zcw (s.take k)
   rw [List.length_take] at h1
   simp
   omega
  have hlen1:((out++[40])++zbG (s.take k)).length<=10000000:=by
   have h1:=zcw (s.take k)
   rw [List.length_take] at h1
   simp
   omega
  have HOL:=yb hlen
  have HOL1:=yb hlen1
  clear hq1 hk1' hs1 HN HN1 hlen hlen1
  by_cases q1:k<s.length
  case neg =>
   have hd1:decide (k<s.length)=false:=ye q1
   have hd2:decide ((k:Int)<(s.length:Int))=false:=ye (by omega)
   have hq2:¬(k:Int)<(s.length:Int):=by omega
   have HWB:=yb (zaE HQ1.out 41 41 rfl HOL1.out)
   have HTK:=yb (show s.take k=s from List.take_of_length_le (by omega))
   go_wp2_with fail
   refine HWB.out.mono ?_
   rintro e w2 ⟨rfl,hN2⟩
   have HE:=yb (show zai w S p (out++zbD s) w2 by
    have h3:=zai.trans HK1.out HS1.out hN2
    rw [HTK.out] at h3
    rw [HTX.out]
    simpa using h3)
   clear hN2
   go_wp2
   first
    | go_end0
    | refine yi (results_none rfl _ _ _) rfl ?_
   exact ⟨rfl,HE.out⟩
  have hd1:decide (k<s.length)=true:=yd q1
  have hd2:decide ((k:Int)<(s.length:Int))=true:=yd (by omega)
  have hk0:(0:Int)<=(k:Int):=by omega
  have hk1:(k:Int)<(s.length:Int):=by omega
  have hk2:k<(mkB s).size:=by omega
  obtain ⟨c,hc⟩:∃c,c=s[k]'q1:=⟨_,rfl⟩
  have hcs:s[k]?=some c:=by rw [hc];exact List.getElem?_eq_getElem q1
  have hT:=zdv hcs
  obtain ⟨n,hn⟩:∃n,n=c.toNat:=⟨_,rfl⟩
  have hat:((mkB s)[k]'hk2).toNat=n:=by rw [hn,hc];exact ze0 q1 hk2
  have hI:=fun W=>zdd ⟨#[40,41,92]⟩ (c.toNat:Int) W
  rw [u8_back] at hI
  have hix:decide (0<=Lib.indexByte [40,41,92] c)=decide (c∈[(40:UInt8),41,92]):=idx_memS _ _
  have hbr:brF c=if c∈[(40:UInt8),41,92] then [92,c] else [c]:=by unfold brF;simp
  have hl2:((out++[40])++zbG (s.take k)).length+2<=10000000:=by rcases HOL.out with h|h;exact h;omega
  have HWB:=yb (fun (S1:Nat->Prop) (W:World) (o:List UInt8) (hq:WrQ W S1 p o) (ho:o.length<=10000000)=>zaE hq c n (by rw [hn]) ho)
  have HW92:=yb (zaE HQ1.out 92 92 rfl HOL1.out)
  rw [<-hn] at hI
  have HI:=yb (show ∀W,Calls Tryz.prog 121 #[.string ⟨#[40,41,92]⟩,.int .u8 (n:Int)] W fun e w'=>e=.returned (.int .i64 (Lib.indexByte [40,41,92] c))/\W=w' from hI)
  have HT:=yb hT
  have HBR:=yb hbr
  have HL2:=yb hl2
  clear hT hn hc hcs hI hbr hl2
  generalize Lib.indexByte [40,41,92] c=ix at *
  by_cases hm92:c∈[(40:UInt8),41,92]
  ·rw [yd hm92] at hix
   have HCB:=yb (show brF c=[92,c] by rw [HBR.out,yg hm92])
   clear HBR hm92
   go_wp2_with (go_at_call 121;refine (HI.out _).mono ?_;rintro e w' ⟨rfl,rfl⟩)
   refine HW92.out.mono ?_
   rintro e w2 ⟨rfl,hN2⟩
   obtain ⟨S2,hq2,hk2',hs2⟩:=hN2
   have HW2:=yb (HWB.out S2 w2.drew _ (hq2.keep (Below.refl _ _).drew) (by have:=HL2.out;simp at this |-;omega))
   have HFIN:=yb (fun (w3:World) (hN3:zai w2.drew S2 p ((((out++[40])++zbG (s.take k))++[92])++[c]) w3)=>show zai w S p ((out++[40])++zbG (s.take (k+1))) w3 by
    rw [HT.out,HCB.out]
    have h3:=zai.trans HK1.out HS1.out (zai.trans hk2' hs2 (zai.above (Below.refl _ _).drew hN3))
    rw [List.append_assoc _ [92]] at h3
    rw [<-List.append_assoc (out++[40])]
    exact h3)
   clear hq2 hk2' hs2 HW92 HWB HCB HT
   go_wp2
   go_region_with ((go_at_call 96;refine HW2.out.mono ?_;rintro e w3 ⟨rfl,hN3⟩;have HN3:=yb (HFIN.out _ hN3);clear hN3))
   go_wp2
   go_roundw
   case rel=>exact ⟨k+1,by go_num,by omega,HN3⟩
   case measure=>simp [intOf];omega
  ·rw [ye hm92] at hix
   have HCB:=yb (show brF c=[c] by rw [HBR.out,yh hm92])
   have HW2:=yb (HWB.out S1 wr.drew _ (HQ1.out.keep (Below.refl _ _).drew) (by have:=HL2.out;omega))
   have HFIN:=yb (fun (w3:World) (hN3:zai wr.drew S1 p (((out++[40])++zbG (s.take k))++[c]) w3)=>show zai w S p ((out++[40])++zbG (s.take (k+1))) w3 by
    rw [HT.out,HCB.out]
    have h3:=zai.trans HK1.out HS1.out (zai.above (Below.refl _ _).drew hN3)
    rw [<-List.append_assoc (out++[40])]
    exact h3)
   clear HBR hm92 HW92 HWB HCB HT
   go_wp2_with (go_at_call 121;refine (HI.out _).mono ?_;rintro e w' ⟨rfl,rfl⟩)
   go_region_with ((go_at_call 96;refine HW2.out.mono ?_;rintro e w3 ⟨rfl,hN3⟩;have HN3:=yb (HFIN.out _ hN3);clear hN3))
   go_wp2
   go_roundw
   case rel=>exact ⟨k+1,by go_num,by omega,HN3⟩
   case measure=>simp [intOf];omega
theorem textW {w:World} {S:Nat->Prop} {p:Nat} {out:List UInt8} (h:WrQ w S p out) (s:List UInt8) (hl:out.length+2*s.length+4<=10000000) :
  Calls Tryz.prog 94 #[.pointer (some ⟨p,0,none⟩),.string (mkB s)] w fun e w'=>e=.returned (.tuple #[])/\zai w S p (out++zbD s) w':=by
 cases hrd:zbJ s
 ·exact hexsW h s hl hrd
 ·exact baresW h s hl hrd
theorem cellsByteW:Tryz.prog.cellsOf 5=1:=by kernel_rfl
theorem zfE {S:Nat->Prop} {w:World} {a:Addr} (h:S a.block) (n:Nat):zaf S w (w.freeze a n):=by
 unfold World.freeze
 split
 ·exact zaf.refl _ _
 ·exact ⟨rfl,rfl,rfl,by simp,fun b _ hn=>by
   simp only [Array.getElem?_modify]
   rw [yh (fun e:a.block=b=>hn (e▸h))]⟩
set_option maxRecDepth 100000 in
theorem stringW {w:World} {S:Nat->Prop} {p:Nat} {out:List UInt8} (h:WrQ w S p out) (h0:out≠[]) :
  Calls Tryz.prog 55 #[.pointer (some ⟨p,0,none⟩)] w fun e w'=>e=.returned (.string (mkB out))/\zaf S w w':=by
 obtain ⟨ad,v,h⟩:=h
 obtain ⟨-,c1⟩:=h.cells
 have hl0:out.length≠0:=by simpa using h0
 obtain ⟨g,cap,cur,rfl,hbg,hg,hnc,hcm,hcs,htake⟩:∃g cap cur,v=.slice (some ⟨g,0,none⟩) out.length cap/\p+1<=g/\w.heap[g]?=some (.cells cur 5 (0,0))/\out.length<=cap/\cap<=maxLen/\cur.size=cap*1/\cur.toList.take (out.length*1)=out.map u8W:=by
  rcases h.row.2 with ⟨_,hz⟩|⟨g,cap,cur,hv,r⟩
  ·exact absurd hz hl0
  ·exact ⟨g,cap,cur,hv,r⟩
 have c1':w.drew.cell? ⟨p,1,none⟩=some (.slice (some ⟨g,0,none⟩) out.length cap):=c1
 have hSD:(Builtin.unsafeSliceData_ #[28] 158 #[.slice (some ⟨g,0,none⟩) out.length cap]).run Tryz.prog w.drew=.ok (.pointer (some ⟨g,0,none⟩)) w.drew :=
  Lib.run_unsafeSliceData_row _ _ _ _ _ _ (by omega)
 have hUS:(Builtin.unsafeString_ #[158,3] 9 #[.pointer (some ⟨g,0,none⟩),.int .i64 out.length]).run Tryz.prog w.drew=.ok (.string ⟨out.toArray⟩) (w.drew.freeze ⟨g,0,none⟩ out.length):=by
  refine Lib.run_unsafeString_row w.drew 158 3 9 5 Tryz.underlying158 cellsByteW g cur.size (by have hg':w.drew.heap[g]?=some (.cells cur 5 (0,0)):=hg;simp [World.shape?,hg']) out h0 (by omega) (by unfold maxLen at hcm;omega) ?_
  intro j x hx
  exact h.row.cells (g:=g) rfl j (u8W x) (by simp [hx])
 have HK:=yb (show zaf S w (w.drew.freeze ⟨g,0,none⟩ out.length) from zaf.trans ((zaf.refl S w).drewN 1) (zfE (S:=S) (h.at_ g rfl) _) (fun _ hx=>.inl hx))
 clear h htake hcs hg
 go_enter Tryz.func55,Tryz.ntmps55
 go_wp2
 go_region
 all_goals
  go_wp2
  go_ret
  exact ⟨rfl,HK.out⟩
theorem zeU:∀(l m:List PV),zee (l++m)=zee l++zee m
 | [],m=>rfl
 | x::l,m=>by simp only [List.cons_append,zee,zeU l m,List.append_assoc]
theorem rowF_take {l:List PV} {k:Nat} {x:PV} (h:l[k]?=some x):rowF (l.take (k+1))=rowF (l.take k)++(if k=0 then zaz x else 32::zaz x):=by
 rw [List.take_add_one,h]
 cases l with
 | nil=>cases h
 | cons y l =>
  cases k with
  | zero =>
   have e:y=x:=by simpa using h
   subst e
   simp [rowF,zee]
  | succ k =>
   rw [List.take_succ_cons]
   simp only [Option.toList_some,List.cons_append,rowF,zeU,zee,List.append_nil,List.append_assoc]
   rw [yh (by omega)]
theorem rowF_le {l:List PV} {k:Nat}:(rowF (l.take k)).length<=(rowF l).length:=by
 cases l with
 | nil=>simp
 | cons y l =>
  cases k with
  | zero=>simp [rowF]
  | succ k =>
   rw [List.take_succ_cons]
   simp only [rowF,List.length_append]
   have:(zee (l.take k)).length<=(zee l).length:=by
    have h:=zeU (l.take k) (l.drop k)
    rw [List.take_append_drop] at h
    rw [h]
    simp
   omega
theorem WrQ.lt {w:World} {S:Nat->Prop} {p:Nat} {out:List UInt8} (h:WrQ w S p out) {b:Nat} (hb:S b):p<=b/\b<w.heap.size:=by obtain ⟨_,_,h⟩:=h;exact h.lt b hb
theorem IsV.wr {w w':World} {S:Nat->Prop} {p:Nat} {out:List UInt8} {v:PV} {sl:Value} (h:IsV w (fun b=>b<p) v sl) (hq:WrQ w S p out) (hk:zaf S w w'):IsV w' (fun b=>b<p) v sl :=
 IsV.keep ⟨hk.size,fun b hb hF=>hk.block b hb (fun hS=>by have:=(hq.lt hS).1;omega)⟩ (fun _ h=>h) v h
def ValW (p:Nat) (x:PV):Prop:=∀(sx:Value) (W:World) (S:Nat->Prop) (o:List UInt8),IsV W (fun b=>b<p) x sx->WrQ W S p o->o.length+(zaz x).length<=1000000 ->
 Calls Tryz.prog 54 #[.pointer (some ⟨p,0,none⟩),pvA x sx] W fun e w'=>e=.returned (.tuple #[])/\zai W S p (o++zaz x) w'
theorem rowW {w:World} {S:Nat->Prop} {p:Nat} {out:List UInt8} {v:PV} {a:Option Addr} {cap:Nat} (h:WrQ w S p out) (hv:IsV w (fun b=>b<p) v (.slice a v.l.length cap)) (HX:∀(k:Nat) (x:PV),v.l[k]?=some x->ValW p x) (hl:out.length+(rowF v.l).length<=1000000) :
  Calls Tryz.prog 97 #[.pointer (some ⟨p,0,none⟩),.slice a v.l.length cap] w fun e w'=>e=.returned (.tuple #[])/\zai w S p (out++rowF v.l) w':=by
 have m1:(v.l.length:Int)<=9223372036854775807:=by obtain ⟨_,_,e,_,g2,_⟩:=hv.len;cases e;unfold maxLen at g2;omega
 have HV:=yb hv
 have HQ:=yb h
 have HXX:=yb HX
 have HL:=yb hl
 clear hv h HX hl
 obtain ⟨la,hla⟩:∃la,la=v.l:=⟨_,rfl⟩
 have HLA:=yb hla
 rw [<-hla] at m1 HV HXX HL |-
 clear hla
 go_enter Tryz.func97,Tryz.ntmps97
 go_wp2
 go_loopw [8] (fun vk wr=>∃k:Nat,vk=.int .i64 k/\k<=la.length/\Hid (zai w S p (out++rowF (la.take k)) wr)) (fun vk _=>la.length-(intOf vk).toNat)
 case atStart=>exact ⟨0,rfl,Nat.zero_le _,yb (by rw [List.take_zero];simpa [rowF] using zai.refl HQ.out)⟩
 case round =>
  obtain ⟨k,rfl,hk,HN⟩:=hrel
  by_cases q1:k<la.length
  case neg =>
   have hd1:decide (k<la.length)=false:=ye q1
   have hd2:decide ((k:Int)<(la.length:Int))=false:=ye (by omega)
   have hq2:¬(k:Int)<(la.length:Int):=by omega
   have HE:=yb (show zai w S p (out++rowF la) wr by
    have h2:=HN.out
    rwa [List.take_of_length_le (by omega)] at h2)
   clear HN HV HXX HL
   go_wp2
   go_end0
   exact ⟨rfl,HE.out⟩
  obtain ⟨S1,hq1,hk1,hs1⟩:=HN.out
  obtain ⟨x,hx⟩:∃x,la[k]?=some x:=⟨_,List.getElem?_eq_getElem q1⟩
  obtain ⟨-,-,-,b1,o1,rfl,-,-,hax⟩:=(HV.out.wr HQ.out hk1).at (by omega)
  rw [<-HLA.out] at hax
  obtain ⟨sx,hsx,x0,x1,x2,x3⟩:=hax k x hx
  obtain ⟨sa',sc',rfl,-,-,-⟩:=hsx.len
  have hT:=rowF_take hx
  have hle:(rowF (la.take (k+1))).length<=(rowF la).length:=rowF_le
  have HVX:=yb (HXX.out k x hx)
  have HSX:=yb hsx
  have HQ1:=yb hq1
  have HK1:=yb hk1
  have HS1:=yb hs1
  have hkl:(0:Int)<=(k:Int):=by omega
  have hki:(k:Int)<(la.length:Int):=by omega
  have hd1:decide (k<la.length)=true:=yd q1
  have hd2:decide ((k:Int)<(la.length:Int))=true:=yd hki
  have HT:=yb hT
  have HLE:=yb hle
  clear hax hx hsx hq1 hk1 hs1 hT hle HN HV HXX
  have HB4:=yb (zae wr (.cells #[.int .i64 x.kind,.int .i64 x.n,.string (mkB x.s),.slice sa' x.l.length sc'] 25))
  have HK4:=yb (zab (w:=wr) (b:=wr.heap.size) (.cells #[.int .i64 x.kind,.int .i64 x.n,.string (mkB x.s),.slice sa' x.l.length sc'] 25) rfl)
  have HR4:=yb (show ¬S1 wr.heap.size from fun hS=>by have:=(HQ1.out.lt hS).2;omega)
  go_upto_region 3 with fail
  obtain ⟨r4,hr4⟩:∃r4,r4=wr.heap.size:=⟨_,rfl⟩
  rw [<-hr4] at HK4 HR4 |-
  clear hr4 x0 x1 x2 x3
  have HQ4:=yb (HQ1.out.keep HB4.out)
  have HS4:=yb (HSX.out.below HB4.out)
  have HFB:=yb HB4.out
  clear HB4
  generalize wr.alloc _=W4 at *
  by_cases hk0:k=0
  ·have hd3:decide ((0:Int)<(k:Int))=false:=ye (by omega)
   have hd4:decide (0<k)=false:=ye (by omega)
   have hk0':¬(0:Int)<(k:Int):=by omega
   have HCALL:=yb (HVX.out _ W4 S1 _ HS4.out HQ4.out (by
    have h1:=HT.out
    have h2:=HLE.out
    have h3:=HL.out
    rw [h1,yg hk0] at h2
    simp only [List.length_append] at h2 |-
    omega))
   have HFIN:=yb (fun (w3:World) (hN3:zai W4 S1 p ((out++rowF (la.take k))++zaz x) w3)=>show zai w S p (out++rowF (la.take (k+1))) w3 by
    rw [HT.out,yg hk0,<-List.append_assoc]
    exact zai.trans HK1.out HS1.out (zai.above HFB.out hN3))
   simp only [pvA] at HCALL
   obtain ⟨⟨t0,t1,t2,t3⟩,-⟩:=zah HK4.out
   clear hk0 HVX HQ4 HS4 HSX
   generalize x.kind=xk at *
   generalize x.n=xn at *
   generalize mkB x.s=xs at *
   generalize x.l.length=xl at *
   go_wp2_with fail
   refine HCALL.out.mono ?_
   rintro e w5 ⟨rfl,hN5⟩
   have HN5:=yb (HFIN.out _ hN5)
   clear hN5 HFIN HCALL t0 t1 t2 t3
   go_wp2
   go_roundw
   case rel=>exact ⟨k+1,by go_num,by omega,HN5⟩
   case measure=>simp [intOf];omega
  ·have hd3:decide ((0:Int)<(k:Int))=true:=yd (by omega)
   have hd4:decide (0<k)=true:=yd (by omega)
   have hk0':(0:Int)<(k:Int):=by omega
   have hbnd:(out++rowF (la.take k)).length+(zaz x).length+1<=1000000:=by
    have h1:=HT.out
    have h2:=HLE.out
    have h3:=HL.out
    rw [h1,yh hk0] at h2
    simp only [List.length_append,List.length_cons] at h2 |-
    omega
   have HBD:=yb hbnd
   have HWB:=yb (zaE HQ4.out 32 32 rfl (by omega))
   have HT2:=yb (show rowF (la.take (k+1))=rowF (la.take k)++32::zaz x by rw [HT.out,yh hk0])
   clear hk0 hbnd
   go_wp2_with fail
   refine HWB.out.mono ?_
   rintro e w5 ⟨rfl,hN5⟩
   obtain ⟨S2,hq2,hk2,hs2⟩:=hN5
   have HK5:=yb ((hk2.block r4 (zbq HK4.out) HR4.out).trans HK4.out)
   have HCALL:=yb (HVX.out _ w5 S2 _ (HS4.out.wr HQ4.out hk2) hq2 (by have:=HBD.out;simp only [List.length_append,List.length_cons,List.length_nil] at this |-;omega))
   have HFIN:=yb (fun (w3:World) (hN3:zai w5 S2 p (((out++rowF (la.take k))++[32])++zaz x) w3)=>show zai w S p (out++rowF (la.take (k+1))) w3 by
    rw [HT2.out,<-List.append_assoc]
    have h3:=zai.trans HK1.out HS1.out (zai.above HFB.out (zai.trans hk2 hs2 hN3))
    rw [List.append_assoc _ [32]] at h3
    exact h3)
   simp only [pvA] at HCALL
   obtain ⟨⟨t0,t1,t2,t3⟩,-⟩:=zah HK5.out
   clear HVX HQ4 HS4 HSX hq2 hk2 hs2 HWB HK4
   generalize x.kind=xk at *
   generalize x.n=xn at *
   generalize mkB x.s=xs at *
   generalize x.l.length=xl at *
   go_wp2_with fail
   refine HCALL.out.mono ?_
   rintro e w6 ⟨rfl,hN6⟩
   have HN6:=yb (HFIN.out _ hN6)
   clear hN6 HFIN HCALL t0 t1 t2 t3
   go_wp2
   go_roundw
   case rel=>exact ⟨k+1,by go_num,by omega,HN6⟩
   case measure=>simp [intOf];omega
theorem zcR {v:PV} (h:zaH v=0):ownC v=0:=by
 rw [zby] at h
 by_cases e:ownC v=0
 ·exact e
 ·rw [yg e] at h;exact h
theorem first_memS {v:PV} (h:zaH v=0) (hk:v.kind=6\/v.kind=7) {k:Nat} {x:PV} (hx:v.l[k]?=some x):zaH x=0:=by
 have ho:=zcR h
 rw [zby,yh (by simp [ho]),yg hk] at h
 have:∀(l:List PV) (k:Nat),za6 l=0->l[k]?=some x->zaH x=0:=by
  intro l
  induction l with
  | nil=>intro k _ hx;cases hx
  | cons y l ih =>
   intro k h hx
   simp only [za6] at h
   split at h
   ·rename_i e;exact absurd h e
   ·rename_i e
    cases k with
    | zero =>
     have:y=x:=by simpa using hx
     subst this;omega
    | succ k=>exact ih k h (by simpa using hx)
 exact this v.l k h hx
theorem textF_ge (s:List UInt8):s.length+2<=(zbD s).length:=by
 unfold zbD
 split
 ·have:∀l:List UInt8,l.length<=(zbG l).length:=fun l=>by
   induction l with
   | nil=>exact Nat.zero_le _
   | cons c l ih=>simp only [zbG,List.length_append,List.length_cons];split<;>(simp;omega)
  have:=this s
  simp;omega
 ·have:=zc9 s
  simp;omega
theorem nameF_ge:∀l:List UInt8,l.length<=(zbl l).length
 | []=>Nat.zero_le _
 | c::l=>by
  have:=nameF_ge l
  simp only [zbl,List.length_append,List.length_cons]
  split<;>(simp [hexB];omega)
theorem intOf_any (n:Int) (w:World):Calls Tryz.prog 53 #[.int .i64 n] w fun e w'=>e=.returned (.agg #[.int .i64 2,.int .i64 n,.string ⟨#[]⟩,.slice none 0 0])/\Below w.heap.size w w':=by
 go_enter Tryz.func53,Tryz.ntmps53
 go_wp2
 refine yi (results_cell_row rfl _ _ w.heap.size 25 _ (0,0) _ rfl (zab _ rfl) Tryz.underlying25 rfl (by kernel_rfl)) rfl ?_
 exact ⟨rfl,zae _ _⟩
section
variable {w : World} {S : Nat -> Prop} {p : Nat} {out : List UInt8} {a : Option Addr} {cap : Nat}
theorem value_w0 (h:WrQ w S p out) (hl:out.length+4<=1000000) :
  Calls Tryz.prog 54 #[.pointer (some ⟨p,0,none⟩),.agg #[.int .i64 0,.int .i64 0,.string ⟨#[]⟩,.slice a 0 cap]] w fun e w'=>e=.returned (.tuple #[])/\zai w S p (out++[110,117,108,108]) w':=by
 have hb:=zae w (.cells #[.int .i64 0,.int .i64 0,.string ⟨#[]⟩,.slice a 0 cap] 25)
 have HB:=yb hb
 have HW:=yb (zbO (h.keep hb) [110,117,108,108] (by simp;omega))
 rw [show mkB [110,117,108,108]=⟨#[110,117,108,108]⟩ from rfl] at HW
 clear h hb
 go_enter Tryz.func54,Tryz.ntmps54
 go_wp2_with (go_at_call 92;refine HW.out.mono ?_;rintro e w1 ⟨rfl,hN1⟩;have HN1:=yb (zai.above HB.out hN1);clear hN1)
 go_end0
 exact ⟨rfl,HN1.out⟩
theorem value_w4 (h:WrQ w S p out) (s:List UInt8) (hl:out.length+(zbD s).length<=1000000) :
  Calls Tryz.prog 54 #[.pointer (some ⟨p,0,none⟩),.agg #[.int .i64 4,.int .i64 0,.string (mkB s),.slice a 0 cap]] w fun e w'=>e=.returned (.tuple #[])/\zai w S p (out++zbD s) w':=by
 have hb:=zae w (.cells #[.int .i64 4,.int .i64 0,.string (mkB s),.slice a 0 cap] 25)
 have HB:=yb hb
 have hge:=textF_ge s
 have HW:=yb (textW (h.keep hb) s (by omega))
 generalize zbD s=t at *
 generalize mkB s=sb at *
 clear h hb hge
 go_enter Tryz.func54,Tryz.ntmps54
 go_wp2_with (go_at_call 94;refine HW.out.mono ?_;rintro e w1 ⟨rfl,hN1⟩;have HN1:=yb (zai.above HB.out hN1);clear hN1)
 go_end0
 exact ⟨rfl,HN1.out⟩
theorem value_w5 (h:WrQ w S p out) (s:List UInt8) (hl:out.length+(47::zbl s).length<=1000000) :
  Calls Tryz.prog 54 #[.pointer (some ⟨p,0,none⟩),.agg #[.int .i64 5,.int .i64 0,.string (mkB s),.slice a 0 cap]] w fun e w'=>e=.returned (.tuple #[])/\zai w S p (out++47::zbl s) w':=by
 have hb:=zae w (.cells #[.int .i64 5,.int .i64 0,.string (mkB s),.slice a 0 cap] 25)
 have HB:=yb hb
 have hge:=nameF_ge s
 have HW:=yb (nameW (h.keep hb) s (by simp at hl;omega))
 generalize 47::zbl s=t at *
 generalize mkB s=sb at *
 clear h hb hge
 go_enter Tryz.func54,Tryz.ntmps54
 go_wp2_with (go_at_call 95;refine HW.out.mono ?_;rintro e w1 ⟨rfl,hN1⟩;have HN1:=yb (zai.above HB.out hN1);clear hN1)
 go_end0
 exact ⟨rfl,HN1.out⟩
theorem value_wn (h:WrQ w S p out) (k n:Int) (hk:k=2\/k=3) (hl:out.length+(zaV k n true).1.length<=1000000) :
  Calls Tryz.prog 54 #[.pointer (some ⟨p,0,none⟩),.agg #[.int .i64 k,.int .i64 n,.string ⟨#[]⟩,.slice a 0 cap]] w fun e w'=>e=.returned (.tuple #[])/\zai w S p (out++(zaV k n true).1) w':=by
 have hb:=zae w (.cells #[.int .i64 k,.int .i64 n,.string ⟨#[]⟩,.slice a 0 cap] 25)
 have HB:=yb hb
 have HP:=yb (fun W=>print_any k n ⟨#[]⟩ a 0 cap W (by omega))
 rw [show za7 ⟨#[]⟩ 0=true from rfl] at HP
 unfold zbI at HP
 generalize zaV k n true=R at *
 obtain ⟨t,er⟩:=R
 simp only at HP hl |-
 have HQ:=yb (fun (W:World) (hW:Below w.heap.size w W)=>zbO (h.keep hW) t (by omega))
 rw [show mkS t=mkB t from rfl] at HP
 generalize mkB t=sb at *
 clear h hb
 rcases hk with rfl|rfl
 all_goals
  go_enter Tryz.func54,Tryz.ntmps54
  go_wp2_with (go_at_call 93;refine (HP.out _).mono ?_;rintro e w1 ⟨rfl,hb1⟩;have HB1:=yo HB hb1;clear hb1)
  refine (HQ.out _ HB1.out).mono ?_
  rintro e w2 ⟨rfl,hN2⟩
  have HN2:=yb (zai.above HB1.out hN2)
  clear hN2
  go_wp2
  go_end0
  exact ⟨rfl,HN2.out⟩
end
section
variable {w : World} {S : Nat -> Prop} {p : Nat} {out : List UInt8} {a : Option Addr} {cap : Nat}
theorem value_w8 (h:WrQ w S p out) (n:Int) (hl:out.length+((zaV 2 n true).1++[32,48,32,82]).length<=1000000) :
  Calls Tryz.prog 54 #[.pointer (some ⟨p,0,none⟩),.agg #[.int .i64 8,.int .i64 n,.string ⟨#[]⟩,.slice a 0 cap]] w fun e w'=>e=.returned (.tuple #[])/\zai w S p (out++((zaV 2 n true).1++[32,48,32,82])) w':=by
 have hb:=zae w (.cells #[.int .i64 8,.int .i64 n,.string ⟨#[]⟩,.slice a 0 cap] 25)
 have HB:=yb hb
 have HI:=yb (fun W=>intOf_any n W)
 have HP:=yb (fun W=>print_any 2 n ⟨#[]⟩ none 0 0 W (by omega))
 rw [show za7 ⟨#[]⟩ 0=true from rfl] at HP
 unfold zbI at HP
 generalize zaV 2 n true=R at *
 obtain ⟨t,er⟩:=R
 simp only at HP hl |-
 have HQ:=yb (fun (W:World) (hW:Below w.heap.size w W)=>zbO (h.keep hW) (t++[32,48,32,82]) (by omega))
 have hcat:mkS t++⟨#[32,48,32,82]⟩=mkB (t++[32,48,32,82]):=by
  apply ByteArray.ext
  rw [ByteArray.data_append]
  simp [mkS,mkB]
 have hst:(mkS t).size<=1000000:=by rw [zbb];simp at hl;omega
 generalize mkB (t++[32,48,32,82])=sb at *
 generalize mkS t=st at *
 clear h hb
 go_enter Tryz.func54,Tryz.ntmps54
 go_wp2_with (first|(go_at_call 53;refine (HI.out _).mono ?_;rintro e w0 ⟨rfl,hb0⟩;have HB0:=yo HB hb0;clear hb0)|(go_at_call 93;refine (HP.out _).mono ?_;rintro e w1 ⟨rfl,hb1⟩;have HB1:=yo HB0 hb1;clear hb1))
 refine (HQ.out _ HB1.out).mono ?_
 rintro e w2 ⟨rfl,hN2⟩
 have HN2:=yb (zai.above HB1.out hN2)
 clear hN2
 go_wp2
 go_end0
 exact ⟨rfl,HN2.out⟩
theorem value_w6 {v:PV} (h:WrQ w S p out) (hk:v.kind=6) (hn0:v.n=0) (hs0:v.s=[]) (hv:IsV w (fun b=>b<p) v (.slice a v.l.length cap)) (HX:∀(k:Nat) (x:PV),v.l[k]?=some x->ValW p x) (hl:out.length+(91::(rowF v.l++[93])).length<=1000000) :
  Calls Tryz.prog 54 #[.pointer (some ⟨p,0,none⟩),pvA v (.slice a v.l.length cap)] w fun e w'=>e=.returned (.tuple #[])/\zai w S p (out++91::(rowF v.l++[93])) w':=by
 unfold pvA
 rw [hk,hn0,hs0,show mkB []=⟨#[]⟩ from rfl]
 have hb:=zae w (.cells #[.int .i64 6,.int .i64 0,.string ⟨#[]⟩,.slice a v.l.length cap] 25)
 have HB:=yb hb
 have hl':out.length+(rowF v.l).length+2<=1000000:=by simp only [List.length_cons,List.length_append,List.length_nil] at hl;omega
 have HW:=yb (zaE (h.keep hb) 91 91 rfl (by omega))
 have HK:=yb (zab (w:=w) (b:=w.heap.size) (.cells #[.int .i64 6,.int .i64 0,.string ⟨#[]⟩,.slice a v.l.length cap] 25) rfl)
 have HVB:=yb (hv.below hb)
 have HQB:=yb (h.keep hb)
 have HNS:=yb (show ¬S w.heap.size from fun hS=>by have:=(h.lt hS).2;omega)
 have HR:=yb (fun (W:World) (S1:Nat->Prop) (o:List UInt8) (hq:WrQ W S1 p o) (hvv:IsV W (fun b=>b<p) v (.slice a v.l.length cap)) (ho:o.length+(rowF v.l).length<=1000000)=>rowW hq hvv HX ho)
 have HL:=yb hl'
 clear h hb hv HX hl hk hn0 hs0 hl'
 generalize hrf:rowF v.l=rf at *
 generalize hvl:v.l.length=m at *
 clear hrf hvl
 go_enter Tryz.func54,Tryz.ntmps54
 go_upto_region 1 with fail
 obtain ⟨B,hB⟩:∃B,B=w.heap.size:=⟨_,rfl⟩
 rw [<-hB] at HK HNS |-
 clear hB
 generalize w.alloc _=W1 at *
 obtain ⟨⟨c0,c1,c2,c3⟩,-⟩:=zah HK.out
 go_wp2_with fail
 refine HW.out.mono ?_
 rintro e w2 ⟨rfl,hN2⟩
 obtain ⟨S2,hq2,hk2,hs2⟩:=hN2
 have HK2:=yb ((hk2.block B (zbq HK.out) HNS.out).trans HK.out)
 have HR2:=yb (HR.out w2 S2 _ hq2 (HVB.out.wr HQB.out hk2) (by have:=HL.out;simp;omega))
 have HF2:=yb (⟨hk2,hs2⟩:_/\_)
 clear hq2 hk2 hs2 HR HW HK HVB HQB HNS c0 c1 c2 c3
 obtain ⟨⟨c0,c1,c2,c3⟩,-⟩:=zah HK2.out
 go_wp2_with fail
 refine HR2.out.mono ?_
 rintro e w3 ⟨rfl,hN3⟩
 obtain ⟨S3,hq3,hk3,hs3⟩:=hN3
 have HW3:=yb (zaE hq3 93 93 rfl (by have:=HL.out;simp;omega))
 have HF3:=yb (⟨hk3,hs3⟩:_/\_)
 clear hq3 hk3 hs3 HR2 HK2 c0 c1 c2 c3
 go_wp2_with fail
 refine HW3.out.mono ?_
 rintro e w4 ⟨rfl,hN4⟩
 have HN4:=yb (show zai w S p (out++91::(rf++[93])) w4 by
  have h5:=zai.above HB.out (zai.trans HF2.out.1 HF2.out.2 (zai.trans HF3.out.1 HF3.out.2 hN4))
  simpa using h5)
 clear hN4
 go_wp2
 go_end0
 exact ⟨rfl,HN4.out⟩
theorem value_w7 {v:PV} (h:WrQ w S p out) (hk:v.kind=7) (hn0:v.n=0) (hs0:v.s=[]) (hv:IsV w (fun b=>b<p) v (.slice a v.l.length cap)) (HX:∀(k:Nat) (x:PV),v.l[k]?=some x->ValW p x) (hl:out.length+(60::60::(rowF v.l++[62,62])).length<=1000000) :
  Calls Tryz.prog 54 #[.pointer (some ⟨p,0,none⟩),pvA v (.slice a v.l.length cap)] w fun e w'=>e=.returned (.tuple #[])/\zai w S p (out++60::60::(rowF v.l++[62,62])) w':=by
 unfold pvA
 rw [hk,hn0,hs0,show mkB []=⟨#[]⟩ from rfl]
 have hb:=zae w (.cells #[.int .i64 7,.int .i64 0,.string ⟨#[]⟩,.slice a v.l.length cap] 25)
 have HB:=yb hb
 have hl':out.length+(rowF v.l).length+4<=1000000:=by simp only [List.length_cons,List.length_append,List.length_nil] at hl;omega
 have HW:=yb (zbO (h.keep hb) [60,60] (by simp;omega))
 rw [show mkB [60,60]=⟨#[60,60]⟩ from rfl] at HW
 have HK:=yb (zab (w:=w) (b:=w.heap.size) (.cells #[.int .i64 7,.int .i64 0,.string ⟨#[]⟩,.slice a v.l.length cap] 25) rfl)
 have HVB:=yb (hv.below hb)
 have HQB:=yb (h.keep hb)
 have HNS:=yb (show ¬S w.heap.size from fun hS=>by have:=(h.lt hS).2;omega)
 have HR:=yb (fun (W:World) (S1:Nat->Prop) (o:List UInt8) (hq:WrQ W S1 p o) (hvv:IsV W (fun b=>b<p) v (.slice a v.l.length cap)) (ho:o.length+(rowF v.l).length<=1000000)=>rowW hq hvv HX ho)
 have HL:=yb hl'
 clear h hb hv HX hl hk hn0 hs0 hl'
 generalize hrf:rowF v.l=rf at *
 generalize hvl:v.l.length=m at *
 clear hrf hvl
 go_enter Tryz.func54,Tryz.ntmps54
 go_upto_region 1 with fail
 obtain ⟨B,hB⟩:∃B,B=w.heap.size:=⟨_,rfl⟩
 rw [<-hB] at HK HNS |-
 clear hB
 generalize w.alloc _=W1 at *
 obtain ⟨⟨c0,c1,c2,c3⟩,-⟩:=zah HK.out
 go_wp2_with fail
 refine HW.out.mono ?_
 rintro e w2 ⟨rfl,hN2⟩
 obtain ⟨S2,hq2,hk2,hs2⟩:=hN2
 have HK2:=yb ((hk2.block B (zbq HK.out) HNS.out).trans HK.out)
 have HR2:=yb (HR.out w2 S2 _ hq2 (HVB.out.wr HQB.out hk2) (by have:=HL.out;simp;omega))
 have HF2:=yb (⟨hk2,hs2⟩:_/\_)
 clear hq2 hk2 hs2 HR HW HK HVB HQB HNS c0 c1 c2 c3
 obtain ⟨⟨c0,c1,c2,c3⟩,-⟩:=zah HK2.out
 go_wp2_with fail
 refine HR2.out.mono ?_
 rintro e w3 ⟨rfl,hN3⟩
 obtain ⟨S3,hq3,hk3,hs3⟩:=hN3
 have HW3:=yb (zbO hq3 [62,62] (by have:=HL.out;simp;omega))
 rw [show mkB [62,62]=⟨#[62,62]⟩ from rfl] at HW3
 have HF3:=yb (⟨hk3,hs3⟩:_/\_)
 clear hq3 hk3 hs3 HR2 HK2 c0 c1 c2 c3
 go_wp2_with fail
 refine HW3.out.mono ?_
 rintro e w4 ⟨rfl,hN4⟩
 have HN4:=yb (show zai w S p (out++60::60::(rf++[62,62])) w4 by
  have h5:=zai.above HB.out (zai.trans HF2.out.1 HF2.out.2 (zai.trans HF3.out.1 HF3.out.2 hN4))
  simpa using h5)
 clear hN4
 go_wp2
 go_end0
 exact ⟨rfl,HN4.out⟩
theorem value_w1a (h:WrQ w S p out) (hl:out.length+5<=1000000) :
  Calls Tryz.prog 54 #[.pointer (some ⟨p,0,none⟩),.agg #[.int .i64 1,.int .i64 0,.string ⟨#[]⟩,.slice a 0 cap]] w fun e w'=>e=.returned (.tuple #[])/\zai w S p (out++[102,97,108,115,101]) w':=by
 have hb:=zae w (.cells #[.int .i64 1,.int .i64 0,.string ⟨#[]⟩,.slice a 0 cap] 25)
 have HB:=yb hb
 have HK:=yb (zab (w:=w) (b:=w.heap.size) (.cells #[.int .i64 1,.int .i64 0,.string ⟨#[]⟩,.slice a 0 cap] 25) rfl)
 have HQ:=yb (fun (W:World) (hW:Below w.heap.size w W)=>zbO (h.keep hW) [102,97,108,115,101] (by simp;omega))
 rw [show mkB [102,97,108,115,101]=⟨#[102,97,108,115,101]⟩ from rfl] at HQ
 have HNS:=yb (show ¬S w.heap.size from fun hS=>by have:=(h.lt hS).2;omega)
 clear h hb
 go_enter Tryz.func54,Tryz.ntmps54
 go_upto_region 1 with fail
 obtain ⟨B,hB⟩:∃B,B=w.heap.size:=⟨_,rfl⟩
 rw [<-hB] at HK HNS |-
 clear hB
 generalize w.alloc _=W1 at *
 obtain ⟨⟨c0,c1,c2,c3⟩,-⟩:=zah HK.out
 have HA:=yb (zae W1 (.cells #[.string ⟨#[102,97,108,115,101]⟩,.string ⟨#[116,114,117,101]⟩] 9))
 have HC:=yb (cell?_keep HA.out c1)
 have HKA:=yb (zak (.cells #[.string ⟨#[102,97,108,115,101]⟩,.string ⟨#[116,114,117,101]⟩] 9) HK.out)
 have HD:=yb (show Below w.heap.size w (W1.alloc (.cells #[.string ⟨#[102,97,108,115,101]⟩,.string ⟨#[116,114,117,101]⟩] 9)).drew from (HB.out.trans (HA.out.mono HB.out.size)).drew)
 have HF:=yb (fun (w3:World) (hN:zai (W1.alloc (.cells #[.string ⟨#[102,97,108,115,101]⟩,.string ⟨#[116,114,117,101]⟩] 9)).drew S p (out++[102,97,108,115,101]) w3)=>show zai w S p (out++[102,97,108,115,101]) w3/\w3.cell? ⟨B,1,none⟩=some (.int .i64 0) by
  obtain ⟨S3,q3,k3,s3⟩:=hN
  refine ⟨zai.above HD.out ⟨S3,q3,k3,s3⟩,?_⟩
  have h3:w3.heap[B]?=_:=(k3.block B (by show B<(W1.alloc _).heap.size;exact zbq HKA.out) HNS.out).trans HKA.out
  rw [cell_of_row w3 B 1 _ _ _ h3];rfl)
 have hc5:=HC.out
 have hs5:(W1.alloc (.cells #[.string ⟨#[102,97,108,115,101]⟩,.string ⟨#[116,114,117,101]⟩] 9)).cell? ⟨W1.heap.size,0,none⟩=some (.string ⟨#[102,97,108,115,101]⟩):=by
  rw [cell_of_row _ _ 0 _ _ _ (zab _ rfl)];rfl
 go_wp2
 go_region_with ((go_at_call 92;(with_reducible refine (HQ.out _ HD.out).mono ?_);rintro e w3 ⟨rfl,hN3⟩;have HN3:=yb (HF.out _ hN3).1;clear hN3))
 all_goals
  go_wp2
  go_end0
  exact ⟨rfl,HN3.out⟩
theorem value_w1b (h:WrQ w S p out) (hl:out.length+4<=1000000) :
  Calls Tryz.prog 54 #[.pointer (some ⟨p,0,none⟩),.agg #[.int .i64 1,.int .i64 1,.string ⟨#[]⟩,.slice a 0 cap]] w fun e w'=>e=.returned (.tuple #[])/\zai w S p (out++[116,114,117,101]) w':=by
 have hb:=zae w (.cells #[.int .i64 1,.int .i64 1,.string ⟨#[]⟩,.slice a 0 cap] 25)
 have HB:=yb hb
 have HK:=yb (zab (w:=w) (b:=w.heap.size) (.cells #[.int .i64 1,.int .i64 1,.string ⟨#[]⟩,.slice a 0 cap] 25) rfl)
 have HQ:=yb (fun (W:World) (hW:Below w.heap.size w W)=>zbO (h.keep hW) [116,114,117,101] (by simp;omega))
 rw [show mkB [116,114,117,101]=⟨#[116,114,117,101]⟩ from rfl] at HQ
 have HNS:=yb (show ¬S w.heap.size from fun hS=>by have:=(h.lt hS).2;omega)
 clear h hb
 go_enter Tryz.func54,Tryz.ntmps54
 go_upto_region 1 with fail
 obtain ⟨B,hB⟩:∃B,B=w.heap.size:=⟨_,rfl⟩
 rw [<-hB] at HK HNS |-
 clear hB
 generalize w.alloc _=W1 at *
 obtain ⟨⟨c0,c1,c2,c3⟩,-⟩:=zah HK.out
 have HA:=yb (zae W1 (.cells #[.string ⟨#[102,97,108,115,101]⟩,.string ⟨#[116,114,117,101]⟩] 9))
 have HC:=yb (cell?_keep HA.out c1)
 have HKA:=yb (zak (.cells #[.string ⟨#[102,97,108,115,101]⟩,.string ⟨#[116,114,117,101]⟩] 9) HK.out)
 have HD:=yb (show Below w.heap.size w (W1.alloc (.cells #[.string ⟨#[102,97,108,115,101]⟩,.string ⟨#[116,114,117,101]⟩] 9)).drew from (HB.out.trans (HA.out.mono HB.out.size)).drew)
 have HF:=yb (fun (w3:World) (hN:zai (W1.alloc (.cells #[.string ⟨#[102,97,108,115,101]⟩,.string ⟨#[116,114,117,101]⟩] 9)).drew S p (out++[116,114,117,101]) w3)=>show zai w S p (out++[116,114,117,101]) w3/\w3.cell? ⟨B,1,none⟩=some (.int .i64 1) by
  obtain ⟨S3,q3,k3,s3⟩:=hN
  refine ⟨zai.above HD.out ⟨S3,q3,k3,s3⟩,?_⟩
  have h3:w3.heap[B]?=_:=(k3.block B (by show B<(W1.alloc _).heap.size;exact zbq HKA.out) HNS.out).trans HKA.out
  rw [cell_of_row w3 B 1 _ _ _ h3];rfl)
 have hc5:=HC.out
 have hs5:(W1.alloc (.cells #[.string ⟨#[102,97,108,115,101]⟩,.string ⟨#[116,114,117,101]⟩] 9)).cell? ⟨W1.heap.size,1,none⟩=some (.string ⟨#[116,114,117,101]⟩):=by
  rw [cell_of_row _ _ 1 _ _ _ (zab _ rfl)];rfl
 go_wp2
 go_region_with ((go_at_call 92;(with_reducible refine (HQ.out _ HD.out).mono ?_);rintro e w3 ⟨rfl,hN3⟩;have HN3:=yb (HF.out _ hN3).1;clear hN3))
 all_goals
  go_wp2
  go_end0
  exact ⟨rfl,HN3.out⟩
end
theorem valueW (p:Nat):∀(N:Nat) (v:PV),SizeOf.sizeOf v<=N->zaH v=0->ValW p v:=by
 intro N
 induction N with
 | zero=>intro v h;obtain ⟨_,_,_,_⟩:=v;simp at h
 | succ N ih =>
 intro v hN hf sx W S o hv hq hl
 obtain ⟨a,cap,e1,-,-,-⟩:=hv.len
 subst e1
 have HX:(v.kind=6\/v.kind=7)->∀(k:Nat) (x:PV),v.l[k]?=some x->ValW p x:=fun hk k x hx=>ih x (by have:=zbh hx;omega) (first_memS hf hk hx)
 have ho:=zdL (zcR hf)
 rcases ho with ⟨h1,h2,h3,h4⟩|⟨h1,h2,h3,h4⟩|⟨h1,h2,h3,h4⟩|⟨h1,h2,h4⟩|⟨h1,-,h2,h4⟩|⟨h1,h2,h3⟩|⟨h1,h2,h3⟩|⟨h1,h2,h3,h4⟩
 ·obtain ⟨k,n,s,l⟩:=v
  simp only [PV.kind,PV.n,PV.s,PV.l] at h1 h2 h3 h4
  subst h1 h2 h3 h4
  have e:zaz (.mk 0 0 [] [])=[110,117,108,108]:=by simp [zaz]
  rw [e] at hl |-
  exact value_w0 hq (by simpa using hl)
 ·obtain ⟨k,n,s,l⟩:=v
  simp only [PV.kind,PV.n,PV.s,PV.l] at h1 h2 h3 h4
  subst h1 h3 h4
  rcases h2 with rfl|rfl
  ·have e:zaz (.mk 1 0 [] [])=[102,97,108,115,101]:=by simp [zaz]
   rw [e] at hl |-
   exact value_w1a hq (by simpa using hl)
  ·have e:zaz (.mk 1 1 [] [])=[116,114,117,101]:=by simp [zaz]
   rw [e] at hl |-
   exact value_w1b hq (by simpa using hl)
 ·obtain ⟨k,n,s,l⟩:=v
  simp only [PV.kind,PV.n,PV.s,PV.l] at h1 h2 h3 h4
  subst h3 h4
  have e:zaz (.mk k n [] [])=(zaV k n true).1:=by rcases h1 with rfl|rfl<;>simp [zaz]
  rw [e] at hl |-
  exact value_wn hq k n h1 hl
 ·obtain ⟨k,n,s,l⟩:=v
  simp only [PV.kind,PV.n,PV.l] at h1 h2 h4
  subst h1 h2 h4
  have e:zaz (.mk 4 0 s [])=zbD s:=by simp [zaz]
  rw [e] at hl |-
  exact value_w4 hq s hl
 ·obtain ⟨k,n,s,l⟩:=v
  simp only [PV.kind,PV.n,PV.l] at h1 h2 h4
  subst h1 h2 h4
  have e:zaz (.mk 5 0 s [])=47::zbl s:=by simp [zaz]
  rw [e] at hl |-
  exact value_w5 hq s hl
 ·have e:zaz v=91::(rowF v.l++[93]):=by
   obtain ⟨k,n,s,l⟩:=v
   simp only [PV.kind] at h1
   subst h1
   simp [zaz,PV.l]
  rw [e] at hl |-
  exact value_w6 hq h1 h2 h3 hv (HX (.inl h1)) hl
 ·have e:zaz v=60::60::(rowF v.l++[62,62]):=by
   obtain ⟨k,n,s,l⟩:=v
   simp only [PV.kind] at h1
   subst h1
   simp [zaz,PV.l]
  rw [e] at hl |-
  exact value_w7 hq h1 h2 h3 hv (HX (.inr h1)) hl
 ·obtain ⟨k,n,s,l⟩:=v
  simp only [PV.kind,PV.n,PV.s,PV.l] at h1 h2 h3 h4
  subst h1 h3 h4
  have e:zaz (.mk 8 n [] [])=(zaV 2 n true).1++[32,48,32,82]:=by simp [zaz]
  rw [e] at hl |-
  exact value_w8 hq n hl
theorem printNe {k:Int} (h1:k=2\/k=3) (n:Int):(zbF n++absL k n.natAbs,(0:Int)).1≠[]:=by
 intro e
 have hl:=congrArg List.length e
 have h2:=(zbA n.natAbs).2.2
 simp only [List.length_append,List.length_nil] at hl
 rcases h1 with rfl|rfl
 ·simp only [absL,yg] at hl
  omega
 ·simp [absL] at hl
theorem formV_ne {v:PV} (h:zaH v=0):zaz v≠[]:=by
 have ho:=zdL (zcR h)
 obtain ⟨k,n,s,l⟩:=v
 simp only [PV.kind,PV.n,PV.s,PV.l] at ho
 rcases ho with ⟨h1,-⟩|⟨h1,h2,-⟩|⟨h1,h2,-⟩|⟨h1,-⟩|⟨h1,-⟩|⟨h1,-⟩|⟨h1,-⟩|⟨h1,h2,-⟩
 ·subst h1;simp [zaz]
 ·subst h1;rcases h2 with rfl|rfl<;>simp [zaz]
 ·have e:zaz (.mk k n s l)=(zaV k n true).1:=by rcases h1 with rfl|rfl<;>simp [zaz]
  rw [e,zet h2]
  exact printNe h1 n
 ·subst h1
  have:=textF_ge s
  simp [zaz]
  intro e
  rw [e] at this
  simp at this
 ·subst h1;simp [zaz]
 ·subst h1;simp [zaz]
 ·subst h1;simp [zaz]
 ·subst h1;simp [zaz]
theorem wr_new (w:World) {p:Nat} (hp:p=w.heap.size):WrQ (w.alloc (.cells #[.pointer none,.slice none 0 0] 109)) (fun b=>b=p) p [] :=
 ⟨.pointer none,.slice none 0 0,zab _ hp,.inl rfl,World.ownsRow_nil _ _ _ _,fun b hb=>(by cases hb),rfl,fun b hb=>by rw [hb,zaq,hp];omega⟩
theorem keeps_bel {w w1 w2:World} {S:Nat->Prop} {p:Nat} (hb:Below w.heap.size w w1) (hk:zaf S w1 w2) (hS:∀b,S b->p<=b) (hp:w.heap.size<=p):Below w.heap.size w w2 :=
 hb.trans ⟨hk.os,hk.tape,hk.output,hk.size,fun b hb2=>hk.block b (Nat.lt_of_lt_of_le hb2 hb.size) (fun h=>by have:=hS b h;omega)⟩
theorem zc3 {v:PV} {sl:Value} {w:World} (hv:IsV w anyF v sl) (hd:zaT v<=1000) (hl:(zaz v).length<=1000000) :
  Calls Tryz.prog 25 #[pvA v sl] w fun e w'=>e=.returned (.tuple #[.string (mkB (zcx v).1),.int .i64 (zcx v).2])/\Below w.heap.size w w':=by
 have HC:=yb (fun (W:World) (h:Below w.heap.size w W)=>zfm (hv.below h) hd)
 have HVV:=yb (IsV.ltS v hv)
 obtain ⟨R,hR⟩:∃R,R=zcx v:=⟨_,rfl⟩
 rw [<-hR]
 unfold zcx at hR
 have HR:=yb hR
 have HW:=yb (fun (p:Nat) (hc:zbc v=0)=>valueW p _ v (yp _) (by unfold zbc at hc;split at hc;cases hc;exact hc))
 have HNE:=yb (fun (hc:zbc v=0)=>formV_ne (v:=v) (by unfold zbc at hc;split at hc;cases hc;exact hc))
 obtain ⟨a1,cap1,rfl,-,-,-⟩:=hv.len
 unfold pvA at HC |-
 unfold ValW pvA at HW
 clear hv hR
 generalize zbc v=cc at *
 generalize zaz v=fv at *
 generalize v.kind=k0 at *
 generalize v.n=n0 at *
 generalize mkB v.s=s0 at *
 generalize v.l.length=m at *
 go_enter Tryz.func25,Tryz.ntmps25
 obtain ⟨B,hB⟩:∃B,B=w.heap.size:=⟨_,rfl⟩
 have HX1:=yb (zab (w:=w) (b:=B) (.cells #[.int .i64 k0,.int .i64 n0,.string s0,.slice a1 m cap1] 25) hB)
 have HW1:=yb (zae w (.cells #[.int .i64 k0,.int .i64 n0,.string s0,.slice a1 m cap1] 25))
 go_upto_region 1 with fail
 rw [<-hB]
 clear hB
 generalize w.alloc _=W1 at *
 obtain ⟨⟨c0,c1,c2,c3⟩,-⟩:=zah HX1.out
 go_wp2_with fail
 refine (HC.out _ HW1.out).mono ?_
 rintro e w2 ⟨rfl,hb2⟩
 have HX2:=yb (zaa hb2 HX1.out)
 have HW2:=yo HW1 hb2
 clear hb2 c0 c1 c2 c3 HX1 HW1 HC
 have hR:=HR.out
 by_cases hc:cc=0
 case neg =>
  have e0:(cc==0)=false:=by rw [yf];exact hc
  have e1:(cc != 0)=true:=by simp only [bne,e0,yj]
  rw [yg hc] at hR
  subst hR
  clear HR HW HNE HVV hc
  go_wp2
  go_ret2
  exact ⟨rfl,HW2.out⟩
 rw [yh (by simpa using hc)] at hR
 subst hR
 have HWV:=yb (fun p=>HW.out p hc)
 have HNN:=yb (HNE.out hc)
 subst hc
 clear HR HW HNE
 have HP3:=yb (wr_new w2 (p:=w2.heap.size) rfl)
 have hb3:=zae w2 (.cells #[.pointer none,.slice none 0 0] 109)
 have HX3:=yb (zaa hb3 HX2.out)
 have HW3:=yo HW2 hb3
 have HPB:=yb (show B<w2.heap.size from zbq HX2.out)
 have HPW:=yb HW2.out.size
 clear hb3 HX2
 go_upto_region 5 with fail
 obtain ⟨p,hp⟩:∃p,p=w2.heap.size:=⟨_,rfl⟩
 rw [<-hp] at HP3 HPB HPW |-
 clear hp
 generalize w2.alloc _=W3 at *
 have HV3:=yb (IsV.keep (G:=fun b=>b<p) (zaJ.of_below HW3.out) (fun b hb=>by have:=hb.2;have:=HPW.out;omega) _ HVV.out)
 have HCALL:=yb (HWV.out p _ W3 _ [] HV3.out HP3.out (by simpa using hl))
 rw [List.nil_append] at HCALL
 obtain ⟨⟨c0,c1,c2,c3⟩,-⟩:=zah HX3.out
 clear HVV HV3 HWV
 go_wp2_with fail
 refine HCALL.out.mono ?_
 rintro e w4 ⟨rfl,hN4⟩
 obtain ⟨S4,q4,k4,s4⟩:=hN4
 have HW4:=yb (keeps_bel HW3.out k4 (p:=p) (fun b hb=>by rw [hb];exact yp _) HPW.out)
 have HSTR:=yb (stringW q4 HNN.out)
 have HS4:=yb (fun b hb=>(q4.lt (b:=b) hb).1)
 clear q4 k4 s4 HCALL c0 c1 c2 c3
 go_wp2_with fail
 refine HSTR.out.mono ?_
 rintro e w5 ⟨rfl,k5⟩
 have HW5:=yb (keeps_bel HW4.out k5 HS4.out HPW.out)
 clear k5
 go_wp2
 go_ret2
 exact ⟨rfl,HW5.out⟩
theorem showV_num {n:Int} (h0:0<=n) (h:n<=2147483647):zcx (.mk 2 n [] [])=(numF n,0):=by
 have hc:zaD 2 n true=0:=by unfold zaD;simp;omega
 have ho:ownC (.mk 2 n [] [])=0:=by simp [ownC,hc]
 have hf:zaH (.mk 2 n [] [])=0:=by rw [zby,ho];rfl
 have hcc:zbc (.mk 2 n [] [])=0:=by unfold zbc;rw [hf];rfl
 unfold zcx
 rw [hcc,yh (by decide)]
 rfl
theorem whole_any {n:Int} (w:World) (h0:0<=n) (h:n<=2147483647):Calls Tryz.prog 24 #[.int .i64 n] w fun e w'=>e=.returned (.string (mkB (numF n)))/\Below w.heap.size w w':=by
 have HI:=yb (fun W=>intOf_any n W)
 have HV:=yb (fun W=>zc3 (v:=.mk 2 n [] []) (sl:=.slice none 0 0) (w:=W) (IsV.leaf W anyF _ rfl) (by rw [zc5,yh (by simp [PV.kind])];decide) (by have:=zbK n;unfold numF at this;omega))
 rw [showV_num h0 h] at HV
 unfold pvA at HV
 simp only [PV.kind,PV.n,PV.s,show mkB []=⟨#[]⟩ from rfl] at HV
 clear h0 h
 generalize mkB (numF n)=T at *
 go_enter Tryz.func24,Tryz.ntmps24
 go_wp2_with fail
 refine (HI.out _).mono ?_
 rintro e w1 ⟨rfl,hb1⟩
 have HB1:=yb hb1
 clear hb1
 go_wp2_with fail
 refine (HV.out _).mono ?_
 rintro e w2 ⟨rfl,hb2⟩
 have HB2:=yo HB1 hb2
 clear hb2
 go_wp2
 go_ret
 exact ⟨rfl,HB2.out⟩
def prB (s:Sec):List UInt8:=if zbj s=0 then secL s else []
theorem EByteP:zeX Tryz.prog 28 5 (.int .u8 0) 1 1:=⟨Tryz.underlying28,by kernel_rfl,rfl,by omega⟩
theorem owns_base {w:World} {b b' e sz:Nat} {v:Value} {n:Nat} {xs:List Value} (h:w.ownsRow b e sz v n xs) (hb:b'<=b):w.ownsRow b' e sz v n xs:=by
 refine ⟨h.1,?_⟩
 rcases h.2 with h1|⟨g,cap,cur,h1,h2,h3⟩
 ·exact .inl h1
 ·exact .inr ⟨g,cap,cur,h1,Nat.le_trans hb h2,h3⟩
theorem headG_pos (g:Grp):0<(zb6 g).length:=by unfold zb6;simp only [List.length_append,List.length_cons,List.length_nil];omega
theorem preG_zero (gs:List Grp):preG gs 0=[120,114,101,102,10]:=by unfold preG;simp
theorem entL_pos (e:Ent):0<(entL e).length:=by unfold entL;simp
set_option maxHeartbeats 16000000 in
theorem xprint_any {s:Sec} {gv sl:Value} {w:World} (h:zbu w anyF s gv sl) (hd:zaT s.tr<=1000) (hz:zbj s=0->(∀g∈s.gs,g.es.length<=100)/\(zaz s.tr).length<=3000) :
  Calls Tryz.prog 7 #[secA s gv sl] w fun e w'=>∃v,e=.returned (.tuple #[v,.int .i64 (zbj s)])/\w'.ownsRow w.heap.size 5 1 v (prB s).length ((prB s).map u8W)/\Below w.heap.size w w':=by
 have HCK:=yb (fun (W:World) (hb:Below w.heap.size w W)=>zfj (h.below hb) hd)
 by_cases hck:zbj s=0
 case neg =>
  have hpb:prB s=[]:=by unfold prB;rw [yh hck]
  rw [hpb]
  obtain ⟨ga,gc,rfl,-,-,-⟩:=h.1.len
  obtain ⟨sa,sc,rfl,-,-,-⟩:=h.2.len
  unfold secA at HCK |-
  clear h hd hz hpb
  generalize zbj s=ck at *
  generalize s.gs.length=gl at *
  generalize s.tr.kind=xk at *
  generalize s.tr.n=xn at *
  generalize mkB s.tr.s=xb at *
  generalize s.tr.l.length=xl at *
  have e1:(ck==0)=false:=by rw [yf];exact hck
  have e2:(ck != 0)=true:=by simp only [bne,e1,yj]
  have HB1:=yb (zae w (.cells #[.slice ga gl gc,.int .i64 xk,.int .i64 xn,.string xb,.slice sa xl sc] 34))
  have HX1:=yb (zab (w:=w) (.cells #[.slice ga gl gc,.int .i64 xk,.int .i64 xn,.string xb,.slice sa xl sc] 34) rfl)
  clear hck
  go_enter Tryz.func7,Tryz.ntmps7
  go_wp2_with (go_at_call 17;first|(refine (HCK.out _ HB1.out).mono ?_;rintro e w2 ⟨rfl,hb2⟩;have HB2:=yo HB1 hb2))
  go_ret2
  exact ⟨_,rfl,World.ownsRow_nil _ _ _ _,HB2.out⟩
 have hpb:prB s=secL s:=by unfold prB;rw [yg hck]
 rw [hpb,hck]
 rw [hck] at HCK
 obtain ⟨hes,hfl⟩:=hz hck
 have hend:=preG_end s
 obtain ⟨hc64,hcall,hcc,-⟩:=zb1 hck
 obtain ⟨gs,x⟩:=s
 simp only at hend hc64 hcall hcc hfl hes hd
 have HPL:=yb (fun c=>preG_len hcall hes hc64 c)
 have HES:=yb (fun (g:Grp) (hg:g∈gs) (j:Nat)=>entsT_len (zc6 (List.all_eq_true.1 hcall g hg)) (hes g hg) j)
 have HEO:=yb (fun (g:Grp) (hg:g∈gs) (e:Ent) (hm:e∈g.es)=>List.all_eq_true.1 (zc6 (List.all_eq_true.1 hcall g hg)) e hm)
 have HFT:=yb (fun (g:Grp) (hg:g∈gs)=>show 0<=g.first/\g.first<=2147483647/\(g.es.length:Int)<=2147483647 by
  have h2:=List.all_eq_true.1 hcall g hg
  unfold zci at h2
  simp only [Bool.and_eq_true,decide_eq_true_eq] at h2
  omega)
 obtain ⟨ga,gc,rfl,hgc,hgm,-⟩:=h.1.len
 simp only at hgc
 have HSV:=yb (fun (W:World) (hW:Below w.heap.size w W)=>zc3 (h.2.below hW) hd (by simp only;omega))
 simp only at HSV
 rw [show zcx x=(zaz x,0) by unfold zcx;rw [yh (by rw [hcc];decide)]] at HSV
 have HG0:=yb h.1
 simp only at HG0
 rw [<-hend]
 obtain ⟨OL,hOL⟩:∃OL,OL=preG gs gs.length++([116,114,97,105,108,101,114,10]++zaz x++[10]):=⟨_,rfl⟩
 rw [<-hOL]
 have HOL:=yb hOL
 clear hOL
 have HEQ:=yb (show ⟨#[116,114,97,105,108,101,114,10]⟩++mkB (zaz x)++⟨#[10]⟩=mkB ([116,114,97,105,108,101,114,10]++zaz x++[10]) by
  rw [show (⟨#[116,114,97,105,108,101,114,10]⟩:ByteArray)=mkB [116,114,97,105,108,101,114,10] from rfl,show (⟨#[10]⟩:ByteArray)=mkB [10] from rfl,zbw,zbw])
 have HTL:=yb (show ([116,114,97,105,108,101,114,10]++zaz x++[10]).length<=4000 by simp;omega)
 have HTP:=yb (show 0<([116,114,97,105,108,101,114,10]++zaz x++[10]).length by simp)
 have hfz:(mkB (zaz x)).size<=3000:=by rw [zar];exact hfl
 generalize [116,114,97,105,108,101,114,10]++zaz x++[10]=TL at *
 unfold secA at HCK |-
 simp only at HCK |-
 obtain ⟨sa,sc,rfl,-,-,-⟩:=h.2.len
 simp only at HSV HCK |-
 unfold pvA at HSV
 clear h hend hcall hcc hfl hd hes hck hpb hz
 have hg63:(gs.length:Int)<=9223372036854775807:=by unfold maxLen at hgm;omega
 generalize mkB (zaz x)=fx at *
 generalize x.kind=xk at *
 generalize x.n=xn at *
 generalize mkB x.s=xb at *
 generalize x.l.length=xl at *
 obtain ⟨iB,hiB,hzB,hsB,hbB⟩:=info_parts EByteP.info
 have HI:=yb (⟨hiB,hzB,hsB,hbB⟩:_/\_/\_/\_)
 clear hiB hzB hsB hbB
 obtain ⟨B,hB⟩:∃B,B=w.heap.size:=⟨_,rfl⟩
 have HB1:=yb (zae w (.cells #[.slice ga gs.length gc,.int .i64 xk,.int .i64 xn,.string xb,.slice sa xl sc] 34))
 have HX1:=yb (zab (w:=w) (b:=B) (.cells #[.slice ga gs.length gc,.int .i64 xk,.int .i64 xn,.string xb,.slice sa xl sc] 34) hB)
 have hcv:=fun (W:World) (C:Array Value) (n c:Nat)=>Lib.run_convert_bytes_const (P:=Tryz.prog) W 28 5 C n c Tryz.underlying28 Tryz.underlying5
 go_enter Tryz.func7,Tryz.ntmps7
 go_upto_region 1 with fail
 try rw [<-hB]
 clear hB
 generalize World.alloc _ _=W1 at *
 obtain ⟨⟨x0,x1,x2,x3,x4⟩,-⟩:=zaL HX1.out
 have HC1:=yb (HCK.out W1 HB1.out)
 go_wp2_with fail
 refine HC1.out.mono ?_
 rintro e w2 ⟨rfl,hb⟩
 have HB2:=yo HB1 hb
 have HX2:=yb (zaa hb HX1.out)
 clear hb HCK HC1 HX1 HB1 x0 x1 x2 x3 x4
 go_upto_region 5 with fail
 obtain ⟨v5,hv5⟩:∃v5,v5=Value.slice (some ⟨w2.heap.size,0,none⟩) 5 5:=⟨_,rfl⟩
 have HQ3:=yb (show OutQ 5 w2.heap.size (w2.alloc (.cells #[.int .u8 120,.int .u8 114,.int .u8 101,.int .u8 102,.int .u8 10] 5 (5,6))) v5 (preG gs 0) from
  .inr ⟨w2.heap.size,hv5,by rw [preG_zero];decide,yp _,by rw [zaq];omega,fun j u hj=>by
   rw [cell_of_row _ _ _ _ _ _ (zab _ rfl)]
   rw [preG_zero] at hj
   show ((List.map u8W [120,114,101,102,10]).toArray)[j]?=some u
   rw [List.getElem?_toArray]
   exact hj⟩)
 have HX3:=yb (zak (.cells #[.int .u8 120,.int .u8 114,.int .u8 101,.int .u8 102,.int .u8 10] 5 (5,6)) HX2.out)
 have HB3:=yb (HB2.out.alloc HB2.out.size (.cells #[.int .u8 120,.int .u8 114,.int .u8 101,.int .u8 102,.int .u8 10] 5 (5,6)))
 have HW3:=yb (zae w2 (.cells #[.int .u8 120,.int .u8 114,.int .u8 101,.int .u8 102,.int .u8 10] 5 (5,6)))
 have HBL:=yb (show B<w2.heap.size from zal HX2.out)
 rw [<-hv5]
 clear hv5 hcv
 generalize World.alloc _ _=W3 at *
 obtain ⟨⟨x0,x1,x2,x3,x4⟩,-⟩:=zaL HX3.out
 go_wp2_with fail
 clear x0 x1 x2 x3 x4
 go_loopw [5,24] (fun vo v wr=>∃(c:Nat) (ov:Value),v=.int .i64 c/\ov=vo/\c<=gs.length/\Hid (OutQ 5 w2.heap.size wr vo (preG gs c))/\Hid (Below w2.heap.size w2 wr)) (fun _ v _=>gs.length-(intOf v).toNat)
 case atStart=>exact ⟨0,_,rfl,rfl,Nat.zero_le _,HQ3,HW3⟩
 case round =>
  obtain ⟨c,ov,rfl,rfl,hc,HQ,HW⟩:=hrel
  have HB:=yb (HB2.out.trans (HW.out.mono HB2.out.size))
  have HXR:=yb (zaa HW.out HX2.out)
  by_cases hlt:c<gs.length
  case neg =>
   have hce:c=gs.length:=by omega
   subst hce
   have hcd:decide ((gs.length:Int)<(gs.length:Int))=false:=ye (by omega)
   have hcd2:decide (gs.length<gs.length)=false:=ye (by omega)
   have HC:=yb (HSV.out wr HB.out)
   obtain ⟨⟨x0,x1,x2,x3,x4⟩,-⟩:=zaL HXR.out
   have HPC:=yb (HPL.out gs.length)
   have hz1:8+fx.size+1<=9223372036854775807:=by omega
   have hz2:8+fx.size<=9223372036854775807:=by omega
   clear HPL HES HEO HFT HG0 HSV
   go_wp2_with fail
   refine HC.out.mono ?_
   rintro e w3 ⟨rfl,hb⟩
   have HB3:=yo HB hb
   have HQ4:=yb (HQ.out.keep hb)
   have HS4:=yb (Nat.le_trans HW.out.size hb.size)
   clear hb HC x0 x1 x2 x3 x4 HXR HQ HW
   go_wp2_with (at_builtin;refine zeT _ rfl (.tmp 63) (.tmp 66) 28 9 rfl w2.heap.size 5 iB Tryz.underlying28 Tryz.underlying9 HI.out.1 HI.out.2.1 HI.out.2.2.1 HI.out.2.2.2 _ (preG gs gs.length) rfl HQ4.out TL (by rw [<-HEQ.out];rfl) HTP.out (by have:=HPC.out;have:=HTL.out;omega) HS4.out ?_;intro v' w9 hO9 hg9;rw [<-HOL.out] at hO9;obtain ⟨ua,uc,rfl,-,-⟩:=zaG hO9;have HO9:=yb (owns_base hO9 HB2.out.size);have HB9:=yb (HB3.out.grown hg9 (by have:=HB3.out.size;omega) (fun b hb=>Nat.le_trans HB2.out.size (HQ4.out.lt b hb).1));clear hO9 hg9)
   go_ret2
   exact ⟨.slice ua OL.length uc,rfl,HO9.out,HB9.out⟩
  have hcd:decide ((c:Int)<(gs.length:Int))=true:=yd (by omega)
  have hcd2:decide (c<gs.length)=true:=yd (by omega)
  have hlj:(c:Int)<(gs.length:Int):=by omega
  obtain ⟨-,-,-,b,off,ha,-,-,hat⟩:=HG0.out.at (by omega)
  subst ha
  obtain ⟨g,hg⟩:∃g,gs[c]?=some g:=⟨_,List.getElem?_eq_getElem hlt⟩
  obtain ⟨v,hv,g0,g1⟩:=hat c g hg
  obtain ⟨ea,ec,rfl,hel,hec,-⟩:=hv.len
  have g0:=cell?_keep HB.out g0
  have g1:=cell?_keep HB.out g1
  have HNX:=yb (preG_next hg)
  have HEL:=yb (fun j=>HES.out g (List.mem_of_getElem? hg) j)
  have HEOK:=yb (fun e hm=>HEO.out g (List.mem_of_getElem? hg) e hm)
  have HFG:=yb (HFT.out g (List.mem_of_getElem? hg))
  have HHD:=yb (headG_len g)
  have HHP:=yb (headG_pos g)
  have HPC0:=yb (HPL.out c)
  have HIE:=yb hv
  have HHE:=yb (show mkB (numF g.first)++⟨#[32]⟩++mkB (numF (g.es.length:Int))++⟨#[10]⟩=mkB (zb6 g) by
   rw [show (⟨#[32]⟩:ByteArray)=mkB [32] from rfl,show (⟨#[10]⟩:ByteArray)=mkB [10] from rfl,zbw,zbw,zbw]
   rfl)
  have hn1:(mkB (numF g.first)).size<=40:=by rw [zar];exact zbK _
  have hn2:(mkB (numF (g.es.length:Int))).size<=40:=by rw [zar];exact zbK _
  have he63:(g.es.length:Int)<=9223372036854775807:=by unfold maxLen at hec;omega
  clear hat hv hg
  obtain ⟨gf,ge⟩:=g
  simp only at *
  have HN1:=yb (fun W=>whole_any (n:=gf) W HFG.out.1 HFG.out.2.1)
  have HN2:=yb (fun W=>whole_any (n:=(ge.length:Int)) W (by omega) HFG.out.2.2)
  have HBA:=yb (HW.out.alloc HW.out.size (.cells #[.int .i64 gf,.slice ea ge.length ec] 58))
  have HGB:=yb (zab (w:=wr) (.cells #[.int .i64 gf,.slice ea ge.length ec] 58) rfl)
  have HQ2:=yb (HQ.out.keep (zae wr (.cells #[.int .i64 gf,.slice ea ge.length ec] 58)))
  have HQL:=yb (fun b hb=>(HQ.out.lt b hb).2)
  go_upto_region 8 with fail
  clear HQ g0 g1 HXR
  generalize wr.heap.size=G at *
  generalize World.alloc _ _=W4 at *
  obtain ⟨⟨y0,y1⟩,-⟩:=za5 HGB.out
  obtain ⟨nf1,hnf1⟩:∃t,t=mkB (numF gf):=⟨_,rfl⟩
  obtain ⟨nf2,hnf2⟩:∃t,t=mkB (numF (ge.length:Int)):=⟨_,rfl⟩
  rw [<-hnf1] at HN1 HHE hn1
  rw [<-hnf2] at HN2 HHE hn2
  clear hnf1 hnf2
  have hz1:nf1.size+1+nf2.size+1<=9223372036854775807:=by omega
  have hz2:nf1.size+1+nf2.size<=9223372036854775807:=by omega
  have hz3:nf1.size+1<=9223372036854775807:=by omega
  have hm1:¬9223372036854775807<nf1.size+1+nf2.size+1:=by omega
  have hm2:¬9223372036854775807<nf1.size+1+nf2.size:=by omega
  have hm3:¬9223372036854775807<nf1.size+1:=by omega
  go_cut [5] from 25 to 56 (fun vx wx=>∃(v7:Value) (w7:World),v7=vx/\w7=wx/\Hid (w7.ownsRow w2.heap.size 5 1 v7 (preG gs c++zb6 ⟨gf,ge⟩).length ((preG gs c++zb6 ⟨gf,ge⟩).map u8W))/\Hid (Below w2.heap.size w2 w7)/\Hid (w7.heap[G]?=some (.cells #[.int .i64 gf,.slice ea ge.length ec] 58 (0,0))))
  case first =>
   go_region_law
    (first
     |(go_simp;go_at_call_of 24 (Value.int .i64 gf);refine (HN1.out _).mono ?_;rintro e w5 ⟨rfl,hb5⟩;have HB5:=yb ((Below.refl _ W4).drew.trans hb5);obtain ⟨⟨u0,u1⟩,-⟩:=za5 (zaa HB5.out HGB.out))
     |(go_simp;go_at_call 24;refine (HN2.out _).mono ?_;rintro e w6 ⟨rfl,hb6⟩;have HB6:=yb (HB5.out.trans (hb6.mono HB5.out.size));have HQ6:=yb (HQ2.out.keep HB6.out);have HG6:=yb (zaa HB6.out HGB.out);have HW6:=yb (HBA.out.trans (HB6.out.mono HBA.out.size)))
     |(refine zed _ (by rfl) _ _ 28 9 (by rfl) w2.heap.size 5 iB Tryz.underlying28 Tryz.underlying9 HI.out.1 HI.out.2.1 HI.out.2.2.1 HI.out.2.2.2 ov (preG gs c) (by rfl) HQ6.out (zb6 ⟨gf,ge⟩) (by rw [<-HHE.out];rfl) HHP.out (by have:=HPC0.out;have:=HHD.out;omega) HW6.out.size ?_;intro v7 w7 hO7 hg7;have HO7:=yb hO7;have HW7:=yb (HW6.out.grown hg7 HW6.out.size (fun b hb=>(HQ6.out.lt b hb).1));have HG7:=yb ((hg7.block G (zal HG6.out) (fun e=>by have:=HQL.out G e.symm;omega)).trans HG6.out);clear hO7 hg7))
   all_goals (try go_wp2_with fail)
   all_goals go_meet
   all_goals exact ⟨_,_,rfl,rfl,HO7,HW7,HG7⟩
  case rest =>
  obtain ⟨v7,w7,rfl,rfl,HO7,HW7,HG7⟩:=hcut
  obtain ⟨⟨t0,t1⟩,-⟩:=za5 HG7.out
  go_wp2_with fail
  have HQ7:=yb (show OutQ 5 w2.heap.size w7 v7 (preG gs c++zb6 ⟨gf,ge⟩++(ge.take 0).flatMap entL) from by
   rw [List.take_zero,List.flatMap_nil,List.append_nil];exact .inl HO7.out)
  clear HO7 t0 t1 HG7 HN1 HN2 HHE HHP hn1 hn2 hz1 hz2 hz3 hm1 hm2 hm3 HQ2 HBA HGB HQL y0 y1
  go_loopw [5,43] (fun vo v wq=>∃(j:Nat) (ow:Value),v=.int .i64 j/\ow=vo/\j<=ge.length/\Hid (OutQ 5 w2.heap.size wq ow (preG gs c++zb6 ⟨gf,ge⟩++(ge.take j).flatMap entL))/\Hid (Below w2.heap.size w2 wq)) (fun _ v _=>ge.length-(intOf v).toNat)
  case atStart=>exact ⟨0,_,rfl,rfl,Nat.zero_le _,HQ7,HW7⟩
  case round =>
   obtain ⟨j,ow,rfl,rfl,hj,HQQ,HWQ⟩:=hrel
   by_cases hjl:j<ge.length
   case neg =>
    have hje:j=ge.length:=by omega
    subst hje
    have hjd:decide ((ge.length:Int)<(ge.length:Int))=false:=ye (by omega)
    have hjd2:decide (ge.length<ge.length)=false:=ye (by omega)
    have HQN:=yb (show OutQ 5 w2.heap.size wr ow (preG gs (c+1)) from by have h1:=HQQ.out;rw [HNX.out] at h1;exact h1)
    clear HQQ HNX HEOK HEL
    go_wp2
    go_roundw
    case rel=>exact ⟨c+1,_,by go_num,rfl,by omega,HQN,HWQ⟩
    case measure=>simp [intOf];omega
   have hjd:decide ((j:Int)<(ge.length:Int))=true:=yd (by omega)
   have hjd2:decide (j<ge.length)=true:=yd (by omega)
   have hjj:(j:Int)<(ge.length:Int):=by omega
   have HBQ:=yb (HB2.out.trans (HWQ.out.mono HB2.out.size))
   obtain ⟨-,-,-,be,oe,hae,-,-,hae2⟩:=(HIE.out.below HBQ.out).at (by omega)
   subst hae
   obtain ⟨ee,hee⟩:∃ee,ge[j]?=some ee:=⟨_,List.getElem?_eq_getElem hjl⟩
   obtain ⟨z0,z1,z2⟩:=hae2 j ee hee
   have hok:=HEOK.out ee (List.mem_of_getElem? hee)
   have HEN:=yb (fun W=>zfA ee W)
   rw [show entR ee=(entL ee,0) by unfold entR;rw [yg hok]] at HEN
   have HNE:=yb (show preG gs c++zb6 ⟨gf,ge⟩++(ge.take j).flatMap entL++entL ee=preG gs c++zb6 ⟨gf,ge⟩++(ge.take (j+1)).flatMap entL by
    rw [zdq hee,<-List.append_assoc])
   have HLE:=yb (show (preG gs c++zb6 ⟨gf,ge⟩++(ge.take j).flatMap entL).length+(entL ee).length<=10000000 by
    rw [List.length_append,List.length_append,zfI hok]
    have:=HPC0.out;have:=HHD.out;have:=HEL.out j;omega)
   have HLP:=yb (entL_pos ee)
   clear hae2 hee hok
   unfold entA at HEN
   simp only at HEN
   have hbx:=zae wr (.cells #[.int .i64 ee.at_,.int .i64 ee.gen,.bool ee.used] 45)
   have HGE:=yb (zab (w:=wr) (.cells #[.int .i64 ee.at_,.int .i64 ee.gen,.bool ee.used] 45) rfl)
   have HQE:=yb (HQQ.out.keep hbx)
   have HWE:=yo HWQ hbx
   clear hbx HQQ
   go_upto_region 12 with fail
   clear z0 z1 z2
   generalize wr.heap.size=E at *
   generalize World.alloc _ _=W8 at *
   obtain ⟨⟨u0,u1,u2⟩,-⟩:=zbC HGE.out
   generalize preG gs c++zb6 ⟨gf,ge⟩++(ge.take j).flatMap entL=OQ at *
   generalize entL ee=el at *
   go_wp2_with fail
   refine (HEN.out _).mono ?_
   rintro e w9 ⟨rfl,hb⟩
   have HQ9:=yb (HQE.out.keep hb)
   have HW9:=yo HWE hb
   clear hb HQE HWE u0 u1 u2 HGE HEN
   go_wp2_with (at_builtin;refine zeT _ rfl (.tmp 52) (.tmp 53) 28 9 rfl w2.heap.size 5 iB Tryz.underlying28 Tryz.underlying9 HI.out.1 HI.out.2.1 HI.out.2.2.1 HI.out.2.2.2 _ OQ rfl HQ9.out el rfl HLP.out HLE.out HW9.out.size ?_;intro v10 w10 hO10 hg10;rw [HNE.out] at hO10;have HQ10:=yb (show OutQ 5 w2.heap.size w10 v10 (preG gs c++zb6 ⟨gf,ge⟩++(ge.take (j+1)).flatMap entL) from .inl hO10);have HW10:=yb (HW9.out.grown hg10 HW9.out.size (fun b hb=>(HQ9.out.lt b hb).1));clear hO10 hg10)
   go_roundw
   case rel=>exact ⟨j+1,_,by go_num,rfl,by omega,HQ10,HW10⟩
   case measure=>simp [intOf];omega
theorem zd3 (e:Ent) (w:World):Calls Tryz.prog 16 #[entA e] w fun x w'=>x=.returned (.tuple #[.string (mkB (entR e).1),.int .i64 (entR e).2])/\Below w.heap.size w w':=by
 have HM:=yb (fun (W:World)=>rmay_any e W)
 have HPA:=yb (fun (W:World) (h:za4 e=true)=>rpad_any e.at_ 10 W (by have:=(zaB.1 h);omega) (by have:=(zaB.1 h);omega) (by decide) (by decide))
 have HPG:=yb (fun (W:World) (h:za4 e=true)=>rpad_any e.gen 5 W (by have:=(zaB.1 h);omega) (by have:=(zaB.1 h);omega) (by decide) (by decide))
 have HA:=yb (fun (h:za4 e=true)=>pad_is (n:=e.at_) (d:=10) (by have:=(zaB.1 h);omega) (by decide) (by decide) (by have:=(zaB.1 h);have:=zaM 9 e.at_.toNat (by omega);omega))
 have HG:=yb (fun (h:za4 e=true)=>pad_is (n:=e.gen) (d:=5) (by have:=(zaB.1 h);omega) (by decide) (by decide) (by have:=(zaB.1 h);have:=zaM 4 e.gen.toNat (by omega);omega))
 have HLA:=yb (fun (h:za4 e=true)=>show (padL e.at_.toNat 10).length<=20 by have:=(zaB.1 h);have:=zaM 9 e.at_.toNat (by omega);rw [zbH (by omega)];omega)
 have HLG:=yb (fun (h:za4 e=true)=>show (padL e.gen.toNat 5).length<=20 by have:=(zaB.1 h);have:=zaM 4 e.gen.toNat (by omega);rw [zbH (by omega)];omega)
 unfold zeD at HPA HPG
 unfold entR entL entB
 unfold entA at HM |-
 obtain ⟨ea,eg,eu⟩:=e
 simp only at HPA HPG HA HG HM HLA HLG |-
 have HB1:=yb (zae w (.cells #[.int .i64 ea,.int .i64 eg,.bool eu] 45))
 have HX1:=yb (zab (w:=w) (b:=w.heap.size) (.cells #[.int .i64 ea,.int .i64 eg,.bool eu] 45) rfl)
 cases hok:za4 ⟨ea,eg,eu⟩ with
 | false =>
  rw [hok] at HM
  simp only [Bool.false_eq_true,if_false]
  clear HPA HPG HA HG hok
  go_enter Tryz.func16,Tryz.ntmps16
  go_upto_region 1 with fail
  generalize w.alloc _=W1 at *
  obtain ⟨⟨x0,x1,x2⟩,-⟩:=zbC HX1.out
  go_wp2_with (go_at_call 26;refine (HM.out _).mono ?_;rintro e w2 ⟨rfl,hb2⟩;have HB2:=yo HB1 hb2)
  go_ret2
  exact ⟨rfl,HB2.out⟩
 | true =>
  rw [hok] at HM
  rw [yg rfl]
  have HPA2:=yb (fun W=>HPA.out W hok)
  have HPG2:=yb (fun W=>HPG.out W hok)
  replace HLA:=yb (HLA.out hok)
  replace HLG:=yb (HLG.out hok)
  rw [HA.out hok] at HPA2
  rw [HG.out hok] at HPG2
  clear HPA HPG HA HG hok
  simp only at HPA2 HPG2 |-
  have HPL:=yb (show ∀c:UInt8,mkB ((padL ea.toNat 10++(32::(padL eg.toNat 5++[32,c,32])))++[10])=mkB (padL ea.toNat 10)++mkB [32]++mkB (padL eg.toNat 5)++mkB [32]++mkB [c]++mkB [32,10] from fun c=>by rw [zbw,zbw,zbw,zbw,zbw];congr 1;simp)
  rw [HPL.out]
  rw [show (10:Int).toNat=10 from rfl] at HPA2
  rw [show (5:Int).toNat=5 from rfl] at HPG2
  unfold mkS at HPA2 HPG2
  rw [show (⟨(padL ea.toNat 10).toArray⟩:ByteArray)=mkB (padL ea.toNat 10) from rfl] at HPA2
  rw [show (⟨(padL eg.toNat 5).toArray⟩:ByteArray)=mkB (padL eg.toNat 5) from rfl] at HPG2
  have hpa:(mkB (padL ea.toNat 10)).size<=20:=by rw [zar];have:=HLA.out;omega
  have hpg:(mkB (padL eg.toNat 5)).size<=20:=by rw [zar];have:=HLG.out;omega
  generalize mkB (padL ea.toNat 10)=pa at *
  generalize mkB (padL eg.toNat 5)=pg at *
  clear HPL
  go_enter Tryz.func16,Tryz.ntmps16
  go_upto_region 1 with fail
  generalize w.alloc _=W1 at *
  obtain ⟨⟨x0,x1,x2⟩,-⟩:=zbC HX1.out
  go_wp2_with fail
  refine (HM.out _).mono ?_
  rintro e w2 ⟨rfl,hb2⟩
  have HB2:=yo HB1 hb2
  have HX2:=yb (zaa hb2 HX1.out)
  clear HX1 HB1 hb2 x0 x1 x2
  obtain ⟨⟨x0,x1,x2⟩,-⟩:=zbC HX2.out
  cases eu
  all_goals
   go_wp2_with (first
    |(go_at_call_of 40 (Value.int .i64 10);refine (HPA2.out _).mono ?_;rintro e w3 ⟨rfl,q3,rfl⟩)
    |(go_at_call 40;refine (HPG2.out _).mono ?_;rintro e w4 ⟨rfl,q4,rfl⟩))
   go_ret2
   exact ⟨rfl,zad HB2.out _⟩
theorem ext_one {s:List UInt8} {k:Nat} {c:UInt8} (h:s[k]?=some c):(mkB s).extract k (k+1)=mkB [c]:=by
 apply ByteArray.ext
 rw [ByteArray.data_extract]
 apply Array.ext'
 rw [Array.toList_extract]
 show ((s.drop k).take (k+1-k))=[c]
 rw [show k+1-k=1 by omega]
 have hk:=(List.getElem?_eq_some_iff.1 h)
 obtain ⟨hl,he⟩:=hk
 rw [List.drop_eq_getElem_cons hl,he]
 rfl
theorem zdu (s:List UInt8):zcx (.mk 5 0 s [])=if zdN s=true then (47::zbl s,0) else ([],17):=by
 have e:zaz (.mk 5 0 s [])=47::zbl s:=by simp [zaz]
 have ho:ownC (.mk 5 0 s [])=if 127<s.length\/(0:UInt8)∈s then 17 else 0:=by simp [ownC]
 have hf:zaH (.mk 5 0 s [])=if 127<s.length\/(0:UInt8)∈s then 17 else 0:=by
  rw [zby,ho]
  by_cases h:127<s.length\/(0:UInt8)∈s
  ·rw [yg h,yg (by decide)]
  ·rw [yh h,yh (by decide)];simp [PV.kind]
 have hc:zbc (.mk 5 0 s [])=if 127<s.length\/(0:UInt8)∈s then 17 else 0:=by
  unfold zbc
  rw [zc5,yh (by simp [PV.kind]),hf]
  all_goals (try rfl)
 unfold zcx
 rw [hc,e]
 unfold zdN
 by_cases h:127<s.length\/(0:UInt8)∈s
 ·rw [yg h,yg (by decide),yh (by rcases h with h|h<;>simp [h])]
 ·rw [yh h,yh (by decide),yg (by rw [not_or] at h;rw [ye h.1,ye h.2];rfl)]
theorem rname13 (s:List UInt8) (w:World) (hl:s.length<=288230376151711744) :
  Calls Tryz.prog 50 #[.string (mkB s)] w fun e w'=>e=.returned (.tuple #[.string (mkB (zcx (.mk 5 0 s [])).1),.int .i64 (zcx (.mk 5 0 s [])).2])/\Below w.heap.size w w':=by
 rw [zdu]
 have HT:=yb (fun W=>rtext11 s W (by omega))
 have hsz:(mkB s).size=s.length:=zar s
 have hszi:((mkB s).size:Int)=s.length:=by rw [hsz]
 by_cases hb:zdN s=true
 case neg =>
  have hb':zdN s=false:=by simpa using hb
  rw [hb'] at HT |-
  clear hb hb'
  go_enter Tryz.func50,Tryz.ntmps50
  go_wp2_with (go_at_call 81;refine (HT.out _).mono ?_;rintro e w' ⟨rfl,rfl⟩)
  go_ret2
  exact ⟨rfl,Below.refl _ _⟩
 rw [hb] at HT |-
 rw [yg rfl]
 have hm:(s.length:Int)<=288230376151711744:=by omega
 obtain ⟨R,hR⟩:∃R,R=mkB (47::zbl s):=⟨_,rfl⟩
 have HR:=yb hR
 simp only
 rw [<-hR]
 clear hb hR
 go_enter Tryz.func50,Tryz.ntmps50
 go_wp2_with (go_at_call 81;refine (HT.out _).mono ?_;rintro e w' ⟨rfl,rfl⟩)
 go_loopw [4,5] (fun vo vk wr=>∃(k:Nat) (O:ByteArray),vk=.int .i64 k/\vo=.string O/\k<=s.length/\O.size<=1152921504606846976/\Hid (O=mkB (47::zbl (s.take k)))/\Hid (Below w.heap.size w wr)) (fun _ vk _=>s.length-(intOf vk).toNat)
 case atStart=>exact ⟨0,_,rfl,rfl,Nat.zero_le _,by decide,yb rfl,Below.refl _ _⟩
 case round =>
  obtain ⟨k,O,rfl,rfl,hk,hO,HO,HB⟩:=hrel
  by_cases q1:k<s.length
  case neg =>
   have hd1:decide (k<s.length)=false:=ye q1
   have hd2:decide ((k:Int)<(s.length:Int))=false:=ye (by omega)
   have hq2:¬(k:Int)<(s.length:Int):=by omega
   obtain rfl:R=O:=by rw [HR.out,HO.out,List.take_of_length_le (by omega)]
   clear HR HO
   go_wp2
   go_ret2
   exact ⟨rfl,HB.out⟩
  have hd1:decide (k<s.length)=true:=yd q1
  have hd2:decide ((k:Int)<(s.length:Int))=true:=yd (by omega)
  have hk0:(0:Int)<=(k:Int):=by omega
  have hk1:(k:Int)<(s.length:Int):=by omega
  have hk2:k<(mkB s).size:=by omega
  have hk3:(k:Int)+1<=(s.length:Int):=by omega
  have hk4:k+1<=(mkB s).size:=by omega
  have hkw:IntKind.i64.wrap ((k:Int)+1)=(k:Int)+1:=IntWalk.i64_in _ (by omega)
  obtain ⟨c,hc⟩:∃c,c=s[k]'q1:=⟨_,rfl⟩
  have hcs:s[k]?=some c:=by rw [hc];exact List.getElem?_eq_getElem q1
  obtain ⟨n,hn⟩:∃n,n=c.toNat:=⟨_,rfl⟩
  have hat:((mkB s)[k]'hk2).toNat=n:=by rw [hn,hc];exact ze0 q1 hk2
  have hext:=ext_one hcs
  have HH:=yb (fun W=>rhex13 c W)
  rw [<-hn] at HH
  have HD:=yb (fun W=>rdelim_any (n:Int) W)
  have hT:=zdG hcs
  have hch:chF c=if n<33\/126<n\/n=35\/dlI (n:Int)=true then 35::hexB c else [c]:=by
   unfold chF;rw [hn,dlI_eq];simp only [eq35]
  have hbd:∀t:List UInt8,(mkB (47::zbl (s.take t.length))).size<=1152921504606846976\/288230376151711744<t.length:=fun t=>by
   by_cases h:288230376151711744<t.length
   ·exact .inr h
   ·left
    have h1:=zcu (s.take t.length)
    rw [List.length_take] at h1
    rw [zar]
    simp
    omega
  have hbn:(mkB (47::zbl (s.take (k+1)))).size<=1152921504606846976:=by
   have h1:=zcu (s.take (k+1))
   rw [List.length_take] at h1
   rw [zar]
   simp
   omega
  have HBN:=yb hbn
  have HC1:=yb (show chF c=[c]->O++mkB [c]=mkB (47::zbl (s.take (k+1))) from fun h=>by rw [hT,h,HO.out,zaQ];rfl)
  have HC2:=yb (show chF c=35::hexB c->O++⟨#[35]⟩++mkB (hexB c)=mkB (47::zbl (s.take (k+1))) from fun h=>by
   rw [hT,h,HO.out,show (⟨#[35]⟩:ByteArray)=mkB [35] from rfl,zaQ,zaQ]
   simp)
  have hos:O.size+1<=9223372036854775807:=by omega
  have HCH:=yb hch
  have HN:=yb hn
  have hhs:(mkB (hexB c)).size=2:=by rw [zar];rfl
  have hcz:(mkB [c]).size=1:=rfl
  clear hT hch hbd hbn hcs hc hn HO
  generalize mkB (hexB c)=HX at *
  generalize mkB [c]=CX at *
  generalize dlI (n:Int)=d at *
  by_cases h1:n<33
  ·have b1:decide (32<n)=false:=ye (by omega)
   have b1':decide ((32:Int)<(n:Int))=false:=ye (by omega)
   have HC2:=yb (HC2.out (by rw [HCH.out,yg (.inl h1)]))
   clear HCH h1 HC1
   go_wp2_with (first|(go_at_call 80;refine (HH.out _).mono ?_;rintro e w' ⟨rfl,q,rfl⟩))
   go_roundw
   case rel=>exact ⟨k+1,_,by go_num,rfl,by omega,by rw [HC2.out];exact HBN.out,HC2,yb (zad HB.out _)⟩
   case measure=>simp [intOf];omega
  have b1:decide (32<n)=true:=yd (by omega)
  have b1':decide ((32:Int)<(n:Int))=true:=yd (by omega)
  by_cases h2:126<n
  ·have b2:decide (n<127)=false:=ye (by omega)
   have b2':decide ((n:Int)<127)=false:=ye (by omega)
   have HC2:=yb (HC2.out (by rw [HCH.out,yg (.inr (.inl h2))]))
   clear HCH h1 h2 HC1
   go_wp2_with (first|(go_at_call 80;refine (HH.out _).mono ?_;rintro e w' ⟨rfl,q,rfl⟩))
   go_roundw
   case rel=>exact ⟨k+1,_,by go_num,rfl,by omega,by rw [HC2.out];exact HBN.out,HC2,yb (zad HB.out _)⟩
   case measure=>simp [intOf];omega
  have b2:decide (n<127)=true:=yd (by omega)
  have b2':decide ((n:Int)<127)=true:=yd (by omega)
  by_cases h3:n=35
  ·have b3:((n:Int)==35)=true:=by rw [h3];rfl
   have b3':((n:Int) != 35)=false:=by simp only [bne,b3,Bool.not_true]
   have b3n:(n==35)=true:=by rw [h3];rfl
   have HC2:=yb (HC2.out (by rw [HCH.out,yg (.inr (.inr (.inl h3)))]))
   have H3:=yb h3
   clear HCH h1 h2 h3 HC1
   go_wp2_with (first|(go_at_call 80;refine (HH.out _).mono ?_;rintro e w' ⟨rfl,q,rfl⟩))
   go_roundw
   case rel=>exact ⟨k+1,_,by go_num,rfl,by omega,by rw [HC2.out];exact HBN.out,HC2,yb (zad HB.out _)⟩
   case measure=>simp [intOf];omega
  have b3:((n:Int)==35)=false:=by rw [yf];omega
  have b3':((n:Int) != 35)=true:=by simp only [bne,b3,yj]
  have b3n:(n==35)=false:=by rw [yf];exact h3
  cases d with
  | true =>
   have HC2:=yb (HC2.out (by rw [HCH.out,yg (.inr (.inr (.inr rfl)))]))
   clear HCH h1 h2 h3 HC1
   go_wp2_with (first|(go_at_call 80;refine (HH.out _).mono ?_;rintro e w' ⟨rfl,q,rfl⟩)|(go_at_call 82;refine (HD.out _).mono ?_;rintro e w' ⟨rfl,rfl⟩))
   go_roundw
   case rel=>exact ⟨k+1,_,by go_num,rfl,by omega,by rw [HC2.out];exact HBN.out,HC2,yb (zad HB.out _)⟩
   case measure=>simp [intOf];omega
  | false =>
   have HC1:=yb (HC1.out (by rw [HCH.out,yh (by rintro (h|h|h|h);exact h1 h;exact h2 h;exact h3 h;cases h)]))
   clear HCH h1 h2 h3 HC2
   go_wp2_with (go_at_call 82;refine (HD.out _).mono ?_;rintro e w' ⟨rfl,rfl⟩)
   go_roundw
   case rel=>exact ⟨k+1,_,by go_num,rfl,by omega,by rw [HC1.out];exact HBN.out,HC1,HB⟩
   case measure=>simp [intOf];omega
theorem rtext13 (s:List UInt8) (w:World) (hl:s.length<=288230376151711744) :
  Calls Tryz.prog 49 #[.string (mkB s)] w fun e w'=>e=.returned (.string (mkB (zbD s)))/\Below w.heap.size w w':=by
 have hsz:(mkB s).size=s.length:=zar s
 have hszi:((mkB s).size:Int)=s.length:=by rw [hsz]
 have hm:(s.length:Int)<=288230376151711744:=by omega
 obtain ⟨R,hR⟩:∃R,R=mkB (zbD s):=⟨_,rfl⟩
 have HR:=yb hR
 rw [<-hR]
 clear hR
 go_enter Tryz.func49,Tryz.ntmps49
 go_wp2
 go_loopw [3,4,5,6] (fun va vb vf vk wr=>∃(k:Nat) (A B:ByteArray) (f:Bool),vk=.int .i64 k/\va=.string A/\vb=.string B/\vf=.bool f/\k<=s.length/\A.size<=1152921504606846976/\B.size<=1152921504606846976/\Hid (A=mkB (40::zbG (s.take k)))/\Hid (B=mkB (60::hexF (s.take k)))/\Hid (f=zbJ (s.take k))/\Hid (Below w.heap.size w wr)) (fun _ _ _ vk _=>s.length-(intOf vk).toNat)
 case atStart=>exact ⟨0,_,_,true,rfl,rfl,rfl,rfl,Nat.zero_le _,by decide,by decide,yb rfl,yb rfl,yb rfl,Below.refl _ _⟩
 case round =>
  obtain ⟨k,A,B,f,rfl,rfl,rfl,rfl,hk,hA,hB,HA,HBB,HF,HB⟩:=hrel
  by_cases q1:k<s.length
  case neg =>
   have hd1:decide (k<s.length)=false:=ye q1
   have hd2:decide ((k:Int)<(s.length:Int))=false:=ye (by omega)
   have hq2:¬(k:Int)<(s.length:Int):=by omega
   have hf:=HF.out
   have htk:s.take k=s:=List.take_of_length_le (by omega)
   rw [htk] at hf
   cases f with
   | true =>
    have HX:=yb (show A++⟨#[41]⟩=R by
     rw [HR.out,HA.out,htk]
     unfold zbD
     rw [yg hf.symm,show (⟨#[41]⟩:ByteArray)=mkB [41] from rfl,zaQ];rfl)
    clear HR HA HBB HF hf htk
    go_wp2
    go_ret
    exact ⟨by rw [<-HX.out];rfl,HB.out⟩
   | false =>
    have HX:=yb (show B++⟨#[62]⟩=R by
     rw [HR.out,HBB.out,htk]
     unfold zbD
     rw [yh (by rw [<-hf];decide),show (⟨#[62]⟩:ByteArray)=mkB [62] from rfl,zaQ];rfl)
    clear HR HA HBB HF hf htk
    go_wp2
    go_ret
    exact ⟨by rw [<-HX.out];rfl,HB.out⟩
  have hd1:decide (k<s.length)=true:=yd q1
  have hd2:decide ((k:Int)<(s.length:Int))=true:=yd (by omega)
  have hk0:(0:Int)<=(k:Int):=by omega
  have hk1:(k:Int)<(s.length:Int):=by omega
  have hk2:k<(mkB s).size:=by omega
  have hk3:(k:Int)+1<=(s.length:Int):=by omega
  have hk4:k+1<=(mkB s).size:=by omega
  have hkw:IntKind.i64.wrap ((k:Int)+1)=(k:Int)+1:=IntWalk.i64_in _ (by omega)
  obtain ⟨c,hc⟩:∃c,c=s[k]'q1:=⟨_,rfl⟩
  have hcs:s[k]?=some c:=by rw [hc];exact List.getElem?_eq_getElem q1
  obtain ⟨n,hn⟩:∃n,n=c.toNat:=⟨_,rfl⟩
  have hat:((mkB s)[k]'hk2).toNat=n:=by rw [hn,hc];exact ze0 q1 hk2
  have hext:=ext_one hcs
  have HH:=yb (fun W=>rhex13 c W)
  rw [<-hn] at HH
  have hT:=zdv hcs
  have hT2:=ze2 hcs
  have hT3:=zfd hcs
  have hbr:brF c=if n=40\/n=41\/n=92 then [92,c] else [c]:=by unfold brF;rw [hn];simp only [eqn 40,eqn 41,eqn 92];rfl
  have hbn:(mkB (40::zbG (s.take (k+1)))).size<=1152921504606846976:=by
   have h1:=zcw (s.take (k+1))
   rw [List.length_take] at h1
   rw [zar]
   simp
   omega
  have hbn2:(mkB (60::hexF (s.take (k+1)))).size<=1152921504606846976:=by
   have h1:=zc9 (s.take (k+1))
   rw [List.length_take] at h1
   rw [zar]
   simp
   omega
  have HBN:=yb hbn
  have HBN2:=yb hbn2
  have HC1:=yb (show brF c=[c]->A++mkB [c]=mkB (40::zbG (s.take (k+1))) from fun h=>by rw [hT,h,HA.out,zaQ];rfl)
  have HC2:=yb (show brF c=[92,c]->A++⟨#[92]⟩++mkB [c]=mkB (40::zbG (s.take (k+1))) from fun h=>by
   rw [hT,h,HA.out,show (⟨#[92]⟩:ByteArray)=mkB [92] from rfl,zaQ,zaQ]
   simp)
  have HC3:=yb (show B++mkB (hexB c)=mkB (60::hexF (s.take (k+1))) by rw [hT2,HBB.out,zaQ];rfl)
  have HF2:=yb (show zbJ (s.take (k+1))=(f&&(decide (32<=n)&&decide (n<=126))) by rw [hT3,<-HF.out,<-hn])
  have hos:A.size+2<=9223372036854775807:=by omega
  have HBR:=yb hbr
  have hhs:(mkB (hexB c)).size=2:=by rw [zar];rfl
  have hcz:(mkB [c]).size=1:=rfl
  clear hT hT2 hT3 hbr hbn hbn2 hcs hc hn HA HBB HF
  generalize mkB (hexB c)=HX at *
  generalize mkB [c]=CX at *
  by_cases h1:n=40
  ·subst h1
   have HCC:=yb (HC2.out (by rw [HBR.out,yg (.inl rfl)]))
   have HFF:=yb (show f=zbJ (s.take (k+1)) by rw [HF2.out];cases f<;>rfl)
   clear HBR HC1 HC2 HF2
   cases f
   all_goals
    go_wp2_with (go_at_call 80;refine (HH.out _).mono ?_;rintro e w' ⟨rfl,q,rfl⟩)
    go_roundw
    case rel=>exact ⟨k+1,_,_,_,by go_num,rfl,rfl,rfl,by omega,by rw [HCC.out];exact HBN.out,by rw [HC3.out];exact HBN2.out,HCC,HC3,HFF,yb (zad HB.out _)⟩
    case measure=>simp [intOf];omega
  have b40:((n:Int)==40)=false:=by rw [yf];omega
  have b40n:(n==40)=false:=by rw [yf];exact h1
  by_cases h2:n=41
  ·subst h2
   have HCC:=yb (HC2.out (by rw [HBR.out,yg (.inr (.inl rfl))]))
   have HFF:=yb (show f=zbJ (s.take (k+1)) by rw [HF2.out];cases f<;>rfl)
   clear HBR HC1 HC2 HF2
   cases f
   all_goals
    go_wp2_with (go_at_call 80;refine (HH.out _).mono ?_;rintro e w' ⟨rfl,q,rfl⟩)
    go_roundw
    case rel=>exact ⟨k+1,_,_,_,by go_num,rfl,rfl,rfl,by omega,by rw [HCC.out];exact HBN.out,by rw [HC3.out];exact HBN2.out,HCC,HC3,HFF,yb (zad HB.out _)⟩
    case measure=>simp [intOf];omega
  have b41:((n:Int)==41)=false:=by rw [yf];omega
  have b41n:(n==41)=false:=by rw [yf];exact h2
  by_cases h3:n=92
  ·subst h3
   have HCC:=yb (HC2.out (by rw [HBR.out,yg (.inr (.inr rfl))]))
   have HFF:=yb (show f=zbJ (s.take (k+1)) by rw [HF2.out];cases f<;>rfl)
   clear HBR HC1 HC2 HF2
   cases f
   all_goals
    go_wp2_with (go_at_call 80;refine (HH.out _).mono ?_;rintro e w' ⟨rfl,q,rfl⟩)
    go_roundw
    case rel=>exact ⟨k+1,_,_,_,by go_num,rfl,rfl,rfl,by omega,by rw [HCC.out];exact HBN.out,by rw [HC3.out];exact HBN2.out,HCC,HC3,HFF,yb (zad HB.out _)⟩
    case measure=>simp [intOf];omega
  have b92:((n:Int)==92)=false:=by rw [yf];omega
  have b92n:(n==92)=false:=by rw [yf];exact h3
  have HCC:=yb (HC1.out (by rw [HBR.out,yh (by omega)]))
  clear h1 h2 h3
  cases f with
  | false =>
   have HFF:=yb (show false=zbJ (s.take (k+1)) by rw [HF2.out,Bool.false_and])
   clear HBR HC1 HC2 HF2
   go_wp2_with (go_at_call 80;refine (HH.out _).mono ?_;rintro e w' ⟨rfl,q,rfl⟩)
   go_roundw
   case rel=>exact ⟨k+1,_,_,_,by go_num,rfl,rfl,rfl,by omega,by rw [HCC.out];exact HBN.out,by rw [HC3.out];exact HBN2.out,HCC,HC3,HFF,yb (zad HB.out _)⟩
   case measure=>simp [intOf];omega
  | true =>
   by_cases g1:n<32
   ·have d1:decide (32<=n)=false:=ye (by omega)
    have d1':decide ((32:Int)<=(n:Int))=false:=ye (by omega)
    have HFF:=yb (show false=zbJ (s.take (k+1)) by rw [HF2.out,d1];rfl)
    clear HBR HC1 HC2 HF2 g1
    go_wp2_with (go_at_call 80;refine (HH.out _).mono ?_;rintro e w' ⟨rfl,q,rfl⟩)
    go_roundw
    case rel=>exact ⟨k+1,_,_,_,by go_num,rfl,rfl,rfl,by omega,by rw [HCC.out];exact HBN.out,by rw [HC3.out];exact HBN2.out,HCC,HC3,HFF,yb (zad HB.out _)⟩
    case measure=>simp [intOf];omega
   have d1:decide (32<=n)=true:=yd (by omega)
   have d1':decide ((32:Int)<=(n:Int))=true:=yd (by omega)
   by_cases g2:126<n
   ·have d2:decide (n<=126)=false:=ye (by omega)
    have d2':decide ((n:Int)<=126)=false:=ye (by omega)
    have HFF:=yb (show false=zbJ (s.take (k+1)) by rw [HF2.out,d2,Bool.and_false,Bool.and_false])
    clear HBR HC1 HC2 HF2 g1 g2
    go_wp2_with (go_at_call 80;refine (HH.out _).mono ?_;rintro e w' ⟨rfl,q,rfl⟩)
    go_roundw
    case rel=>exact ⟨k+1,_,_,_,by go_num,rfl,rfl,rfl,by omega,by rw [HCC.out];exact HBN.out,by rw [HC3.out];exact HBN2.out,HCC,HC3,HFF,yb (zad HB.out _)⟩
    case measure=>simp [intOf];omega
   have d2:decide (n<=126)=true:=yd (by omega)
   have d2':decide ((n:Int)<=126)=true:=yd (by omega)
   have HFF:=yb (show true=zbJ (s.take (k+1)) by rw [HF2.out,d1,d2];rfl)
   clear HBR HC1 HC2 HF2 g1 g2
   go_wp2_with (go_at_call 80;refine (HH.out _).mono ?_;rintro e w' ⟨rfl,q,rfl⟩)
   go_roundw
   case rel=>exact ⟨k+1,_,_,_,by go_num,rfl,rfl,rfl,by omega,by rw [HCC.out];exact HBN.out,by rw [HC3.out];exact HBN2.out,HCC,HC3,HFF,yb (zad HB.out _)⟩
   case measure=>simp [intOf];omega
mutual
def zbg:PV->List UInt8
 | .mk k n s l =>
  if k=0 then [110,117,108,108]
  else if k=1 then (if n=1 then [116,114,117,101] else [102,97,108,115,101])
  else if k=2\/k=3 then (zaV k n (za7 (mkB s) l.length)).1
  else if k=4 then zbD s
  else if k=5 then (zcx (.mk 5 0 s [])).1
  else if k=8 then (zaV 2 n true).1++[32,48,32,82]
  else if k=6 then 91::(rowX l++[93])
  else 60::60::(rowX l++[62,62])
def rowX:List PV->List UInt8
 | []=>[]
 | x::l=>zbg x++zds l
def zds:List PV->List UInt8
 | []=>[]
 | x::l=>32::(zbg x++zds l)
end
theorem moreX_app:∀(l m:List PV),zds (l++m)=zds l++zds m
 | [],m=>rfl
 | x::l,m=>by simp only [List.cons_append,zds,moreX_app l m,List.append_assoc]
theorem rowX_take {l:List PV} {k:Nat} {x:PV} (h:l[k]?=some x):rowX (l.take (k+1))=rowX (l.take k)++(if k=0 then zbg x else 32::zbg x):=by
 rw [List.take_add_one,h]
 cases l with
 | nil=>cases h
 | cons y l =>
  cases k with
  | zero =>
   have e:y=x:=by simpa using h
   subst e
   simp [rowX,zds]
  | succ k =>
   rw [List.take_succ_cons]
   simp only [Option.toList_some,List.cons_append,rowX,moreX_app,zds,List.append_nil,List.append_assoc]
   rw [yh (by omega)]
mutual
theorem formX_len:∀v:PV,(zbg v).length<=bndV v
 | .mk k n s l=>by
  have h1:=rowX_len l
  have h2:=zcF k n (za7 (mkB s) l.length)
  have h3:=zcF 2 n true
  have h4:=zcw s
  have h5:=zc9 s
  have h6:=zcu s
  have h7:(zbD s).length<=4*s.length+10:=by unfold zbD;split<;>(simp;omega)
  have h8:(zcx (.mk 5 0 s [])).1.length<=4*s.length+10:=by rw [zdu];split<;>(simp;try omega)
  unfold zbg bndV
  split
  ·simp;omega
  split
  ·split<;>(simp;omega)
  split
  ·omega
  split
  ·omega
  split
  ·omega
  split
  ·simp;omega
  split
  ·simp;omega
  ·simp;omega
theorem rowX_len:∀l:List PV,(rowX l).length<=bndL l
 | []=>by simp [rowX]
 | x::l=>by
  have h1:=formX_len x
  have h2:=moreX_len l
  simp only [rowX,bndL,List.length_append]
  omega
theorem moreX_len:∀l:List PV,(zds l).length<=bndL l
 | []=>by simp [zds]
 | x::l=>by
  have h1:=formX_len x
  have h2:=moreX_len l
  simp only [zds,bndL,List.length_append,List.length_cons]
  omega
end
mutual
theorem zcZ:∀v:PV,zaH v=0->zbg v=zaz v
 | .mk k n s l,h=>by
  have ho:ownC (.mk k n s l)=0:=by
   rw [zby] at h
   by_cases h1:ownC (.mk k n s l)=0
   ·exact h1
   ·rw [yg h1] at h;exact absurd h h1
  have hl:k=6\/k=7->rowX l=rowF l:=fun hk=>rowX_ok l (by
   rw [zby,ho,yh (by decide),yg (by simpa [PV.kind] using hk)] at h
   simpa [PV.l] using h)
  have hc:=zdL ho
  simp only [PV.kind,PV.n,PV.s,PV.l] at hc
  rcases hc with ⟨rfl,rfl,rfl,rfl⟩|⟨rfl,hn,rfl,rfl⟩|⟨hk2,hn,rfl,rfl⟩|⟨rfl,rfl,rfl⟩|⟨rfl,hs,rfl,rfl⟩|⟨rfl,rfl,rfl⟩|⟨rfl,rfl,rfl⟩|⟨rfl,⟨hn1,hn2⟩,rfl,rfl⟩
  ·rfl
  ·rcases hn with rfl|rfl<;>rfl
  ·unfold zbg zaz
   rw [yh (by omega),yh (by omega),yg hk2,yh (by omega),yh (by omega),yg hk2]
   rfl
  ·rfl
  ·have hnc:zdN s=true:=by unfold zdN;simp [hs.2];omega
   have e:zbg (.mk 5 0 s [])=(zcx (.mk 5 0 s [])).1:=rfl
   rw [e,zdu,yg hnc]
   rfl
  ·have:=hl (.inl rfl)
   simp only [zbg,zaz,this];rfl
  ·have:=hl (.inr rfl)
   simp only [zbg,zaz,this];rfl
  ·rfl
theorem rowX_ok:∀l:List PV,za6 l=0->rowX l=rowF l
 | [],_=>rfl
 | x::l,h=>by
  have h1:zaH x=0:=by
   simp only [za6] at h
   by_cases h1:zaH x=0
   ·exact h1
   ·rw [yg h1] at h;exact absurd h h1
  have h2:za6 l=0:=by simp only [za6] at h;rw [h1,yh (by decide)] at h;exact h
  rw [rowX,rowF,zcZ x h1,moreX_ok l h2]
theorem moreX_ok:∀l:List PV,za6 l=0->zds l=zee l
 | [],_=>rfl
 | x::l,h=>by
  have h1:zaH x=0:=by
   simp only [za6] at h
   by_cases h1:zaH x=0
   ·exact h1
   ·rw [yg h1] at h;exact absurd h h1
  have h2:za6 l=0:=by simp only [za6] at h;rw [h1,yh (by decide)] at h;exact h
  rw [zds,zee,zcZ x h1,moreX_ok l h2]
end
def FormX (v:PV):Prop:=∀(sl:Value) (w:World),IsV w anyF v sl->Calls Tryz.prog 20 #[pvA v sl] w fun e w'=>e=.returned (.string (mkB (zbg v)))/\Below w.heap.size w w'
theorem rform_rowX {k n:Int} {s:List UInt8} {l:List PV} (hk:k≠0/\k≠1/\k≠2/\k≠3/\k≠4/\k≠5/\k≠8) (hx:∀(j:Nat) (x:PV),l[j]?=some x->FormX x) (hl:bndV (.mk k n s l)<=1152921504606846976):FormX (.mk k n s l):=by
 intro sl w hv
 obtain ⟨a1,cap1,e1,g1,g2,g3⟩:=hv.len
 subst e1
 have HA:=yb hv
 have HX:=yb hx
 have m1:(l.length:Int)<=9223372036854775807:=by have g1':l.length<=cap1:=g1;unfold maxLen at g2;omega
 obtain ⟨R,hR⟩:∃R,R=mkB (zbg (.mk k n s l)):=⟨_,rfl⟩
 rw [<-hR]
 have hr2:bndL l<=1152921504606846976:=by rw [bndV_is] at hl;simp only [PV.l] at hl;omega
 have HLE:=yb (fun (j:Nat)=>Nat.le_trans (rowX_len (l.take j)) (Nat.le_trans (bndL_le l j) hr2))
 have h6:k=6->R=⟨#[91]⟩++mkB (rowX l)++⟨#[93]⟩:=by
  rintro rfl
  rw [hR,show (⟨#[91]⟩:ByteArray)=mkB [91] from rfl,show (⟨#[93]⟩:ByteArray)=mkB [93] from rfl,zaQ,zaQ]
  simp [zbg]
 have h7:k≠6->R=⟨#[60,60]⟩++mkB (rowX l)++⟨#[62,62]⟩:=by
  intro hk6
  rw [hR,show (⟨#[60,60]⟩:ByteArray)=mkB [60,60] from rfl,show (⟨#[62,62]⟩:ByteArray)=mkB [62,62] from rfl,zaQ,zaQ]
  unfold zbg
  rw [yh hk.1,yh hk.2.1,yh (by omega),yh hk.2.2.2.2.1,yh hk.2.2.2.2.2.1,yh hk.2.2.2.2.2.2,yh hk6]
  simp
 have H6:=yb h6
 have H7:=yb h7
 simp only [PV.l] at g1
 simp only [pvA,PV.kind,PV.n,PV.s,PV.l]
 obtain ⟨hk0,hk1,hk2,hk3,hk4,hk5,hk8⟩:=hk
 have e0:(k==0)=false:=by rw [yf];exact hk0
 have e1:(k==1)=false:=by rw [yf];exact hk1
 have e2:(k==2)=false:=by rw [yf];exact hk2
 have e3:(k==3)=false:=by rw [yf];exact hk3
 have e4:(k==4)=false:=by rw [yf];exact hk4
 have e5:(k==5)=false:=by rw [yf];exact hk5
 have e8:(k==8)=false:=by rw [yf];exact hk8
 clear hv hx hR hl g2 g3 hk0 hk1 hk2 hk3 hk4 hk5 hk8 hr2 h6 h7
 generalize mkB s=S at *
 go_enter Tryz.func20,Tryz.ntmps20
 obtain ⟨B,hB⟩:∃B,B=w.heap.size:=⟨_,rfl⟩
 have HX1:=yb (zab (w:=w) (b:=B) (.cells #[.int .i64 k,.int .i64 n,.string S,.slice a1 l.length cap1] 25) hB)
 have HW:=yb (zae w (.cells #[.int .i64 k,.int .i64 n,.string S,.slice a1 l.length cap1] 25))
 go_upto_region 1 with fail
 rw [<-hB]
 clear hB
 generalize w.alloc _=W1 at *
 obtain ⟨⟨c0,c1,c2,c3⟩,-⟩:=zah HX1.out
 go_wp2
 clear c0 c1 c2 c3
 go_loopw [9,10] (fun vo vj wr=>∃(j:Nat) (O:ByteArray),vj=.int .i64 j/\vo=.string O/\j<=l.length/\O.size<=1152921504606846976/\Hid (O=mkB (rowX (l.take j)))/\Hid (Below W1.heap.size W1 wr)) (fun _ vj _=>l.length-(intOf vj).toNat)
 case atStart=>exact ⟨0,_,rfl,rfl,Nat.zero_le _,by decide,yb rfl,Below.refl _ _⟩
 case round =>
  obtain ⟨j,O,rfl,rfl,hj,hO,HO,HWR1⟩:=hrel
  have HWR:=yb (HW.out.trans (HWR1.out.mono HW.out.size))
  obtain ⟨⟨c0,c1,c2,c3⟩,-⟩:=zah (zaa HWR1.out HX1.out)
  by_cases q1:j<l.length
  case neg =>
   have hd1:decide (j<l.length)=false:=ye q1
   have hd2:decide ((j:Int)<(l.length:Int))=false:=ye (by omega)
   have hq2:¬(j:Int)<(l.length:Int):=by omega
   have hoo:O=mkB (rowX l):=by rw [HO.out,List.take_of_length_le (by omega)]
   have hO2:2+O.size<=9223372036854775807:=by omega
   by_cases hk:k=6
   ·have HE:=yb ((H6.out hk).trans (by rw [<-hoo]))
    have e6:(k==6)=true:=by rw [beq_iff_eq];exact hk
    clear H6 H7 HA HX HO hoo HLE hk
    go_wp2
    go_ret
    exact ⟨by rw [HE.out];rfl,HWR.out⟩
   ·have HE:=yb ((H7.out hk).trans (by rw [<-hoo]))
    have e6:(k==6)=false:=by rw [yf];exact hk
    clear H6 H7 HA HX HO hoo HLE hk
    go_wp2
    go_ret
    exact ⟨by rw [HE.out];rfl,HWR.out⟩
  have hd1:decide (j<l.length)=true:=yd q1
  have hd2:decide ((j:Int)<(l.length:Int))=true:=yd (by omega)
  obtain ⟨x,hx⟩:∃x,l[j]?=some x:=⟨_,List.getElem?_eq_getElem q1⟩
  obtain ⟨-,-,-,b1,o1,rfl,-,-,hax⟩:=(HA.out.below HWR.out).at (by simp only [PV.l];omega)
  simp only [PV.l] at hax
  obtain ⟨sx,hsx,x0,x1,x2,x3⟩:=hax j x hx
  obtain ⟨sa',sc',rfl,-,-,-⟩:=hsx.len
  have HCALL:=yb (HX.out j x hx _ wr hsx)
  simp only [pvA] at HCALL
  have hT:=rowX_take hx
  have HL2:=yb (HLE.out (j+1))
  have hfx:(mkB (zbg x)).size<=1152921504606846976:=by
   rw [zar]
   have:=HL2.out
   rw [hT,List.length_append] at this
   split at this
   ·omega
   ·simp at this;omega
  have HT:=yb hT
  clear hsx hax hx HA HX HLE hT
  have hjl:(0:Int)<=(j:Int):=by omega
  have hji:(j:Int)<(l.length:Int):=by omega
  have hjw:IntKind.i64.wrap ((j:Int)+1)=(j:Int)+1:=IntWalk.i64_in _ (by omega)
  obtain ⟨fx,hfxe⟩:∃fx,fx=mkB (zbg x):=⟨_,rfl⟩
  rw [<-hfxe] at HCALL hfx
  have HFX:=yb hfxe
  clear hfxe
  have hos:O.size+1+fx.size<=9223372036854775807:=by omega
  generalize x.kind=xk at *
  generalize x.n=xn at *
  generalize mkB x.s=xs at *
  generalize x.l.length=xl at *
  by_cases j0:j=0
  ·have hn:=HT.out
   rw [yg j0] at hn
   have hj3:decide (0<j)=false:=ye (by omega)
   have hj4:decide ((0:Int)<(j:Int))=false:=ye (by omega)
   have HN:=yb (show O++fx=mkB (rowX (l.take (j+1))) by rw [hn,HO.out,HFX.out,zaQ])
   have HNL:=yb (show (O++fx).size<=1152921504606846976 by rw [HN.out,zar];exact HL2.out)
   clear HT HO HFX HL2 hn H6 H7 j0
   go_wp2_with fail
   refine HCALL.out.mono ?_
   rintro e w5 ⟨rfl,hb5⟩
   have HW5:=yo HWR1 hb5
   clear hb5 x0 x1 x2 x3 HCALL c0 c1 c2 c3
   go_wp2
   go_roundw
   case rel=>exact ⟨j+1,_,by go_num,rfl,by omega,HNL.out,HN,HW5⟩
   case measure=>simp [intOf];omega
  ·have hn:=HT.out
   rw [yh j0] at hn
   have HN:=yb (show O++⟨#[32]⟩++fx=mkB (rowX (l.take (j+1))) by
    rw [hn,HO.out,HFX.out,show (⟨#[32]⟩:ByteArray)=mkB [32] from rfl,zaQ,zaQ];simp)
   have HNL:=yb (show (O++⟨#[32]⟩++fx).size<=1152921504606846976 by rw [HN.out,zar];exact HL2.out)
   have hj3:decide (0<j)=true:=yd (by omega)
   have hj4:decide ((0:Int)<(j:Int))=true:=yd (by omega)
   clear HT HO HFX HL2 hn H6 H7
   go_wp2_with fail
   refine HCALL.out.mono ?_
   rintro e w5 ⟨rfl,hb5⟩
   have HW5:=yo HWR1 hb5
   clear hb5 x0 x1 x2 x3 HCALL c0 c1 c2 c3
   go_wp2
   go_roundw
   case rel=>exact ⟨j+1,_,by go_num,rfl,by omega,HNL.out,HN,HW5⟩
   case measure=>simp [intOf];omega
theorem rform_leafX {v:PV} (hk:v.kind=0\/v.kind=1\/v.kind=2\/v.kind=3\/v.kind=4\/v.kind=5\/v.kind=8) (ht:bndV v<=1152921504606846976):FormX v:=by
 intro sl w hv
 obtain ⟨a1,cap1,e1,g1,g2,g3⟩:=hv.len
 subst e1
 have m1:(v.l.length:Int)<=9223372036854775807:=by unfold maxLen at g2;omega
 have HB:=yb (zae w (.cells #[.int .i64 v.kind,.int .i64 v.n,.string (mkB v.s),.slice a1 v.l.length cap1] 25))
 have HX1:=yb (zab (w:=w) (.cells #[.int .i64 v.kind,.int .i64 v.n,.string (mkB v.s),.slice a1 v.l.length cap1] 25) rfl)
 have hs:4*v.s.length+100<=bndV v:=by rw [bndV_is];omega
 clear hv g1 g2 g3
 generalize bndV v=R at *
 obtain ⟨k,n,s,l⟩:=v
 simp only [PV.kind,PV.n,PV.s,PV.l,pvA] at m1 HB HX1 hs hk |-
 rcases hk with rfl|rfl|hk2|hk2|rfl|rfl|rfl
 ·rw [show mkB (zbg (.mk 0 n s l))=⟨#[110,117,108,108]⟩ from rfl]
  clear hs ht
  generalize mkB s=S at *
  generalize l.length=ll at *
  go_enter Tryz.func20,Tryz.ntmps20
  go_wp2
  go_ret
  exact ⟨rfl,HB.out⟩
 ·by_cases h1:n=1
  ·have e1:(n==1)=true:=by rw [beq_iff_eq];exact h1
   rw [show mkB (zbg (.mk 1 n s l))=⟨#[116,114,117,101]⟩ by simp [zbg,mkB,h1]]
   clear h1 hs ht
   generalize mkB s=S at *
   generalize l.length=ll at *
   go_enter Tryz.func20,Tryz.ntmps20
   go_wp2
   go_ret
   exact ⟨rfl,HB.out⟩
  ·have e1:(n==1)=false:=by rw [yf];exact h1
   rw [show mkB (zbg (.mk 1 n s l))=⟨#[102,97,108,115,101]⟩ by simp [zbg,mkB,h1]]
   clear h1 hs ht
   generalize mkB s=S at *
   generalize l.length=ll at *
   go_enter Tryz.func20,Tryz.ntmps20
   go_wp2
   go_ret
   exact ⟨rfl,HB.out⟩
 ·have HP:=yb (fun W=>zdU 2 n (mkB s) a1 l.length cap1 W m1)
  subst hk2
  unfold zbI at HP
  rw [show mkB (zbg (.mk 2 n s l))=mkS (zaV 2 n (za7 (mkB s) l.length)).1 from rfl]
  clear hs ht
  generalize zaV 2 n (za7 (mkB s) l.length)=p at *
  generalize l.length=ll at *
  obtain ⟨t,er⟩:=p
  generalize mkB s=S at *
  simp only at HP |-
  generalize mkS t=T at *
  go_enter Tryz.func20,Tryz.ntmps20
  go_wp2_with (go_at_call 48;refine (HP.out _).mono ?_;rintro e w1 ⟨rfl,hb1⟩)
  go_ret
  exact ⟨rfl,HB.out.trans (hb1.mono HB.out.size)⟩
 ·have HP:=yb (fun W=>zdU 3 n (mkB s) a1 l.length cap1 W m1)
  subst hk2
  unfold zbI at HP
  rw [show mkB (zbg (.mk 3 n s l))=mkS (zaV 3 n (za7 (mkB s) l.length)).1 from rfl]
  clear hs ht
  generalize zaV 3 n (za7 (mkB s) l.length)=p at *
  generalize l.length=ll at *
  obtain ⟨t,er⟩:=p
  generalize mkB s=S at *
  simp only at HP |-
  generalize mkS t=T at *
  go_enter Tryz.func20,Tryz.ntmps20
  go_wp2_with (go_at_call 48;refine (HP.out _).mono ?_;rintro e w1 ⟨rfl,hb1⟩)
  go_ret
  exact ⟨rfl,HB.out.trans (hb1.mono HB.out.size)⟩
 ·have HT:=yb (fun W=>rtext13 s W (by omega))
  rw [show mkB (zbg (.mk 4 n s l))=mkB (zbD s) from rfl]
  clear hs ht
  generalize mkB (zbD s)=T at *
  generalize mkB s=S at *
  generalize l.length=ll at *
  go_enter Tryz.func20,Tryz.ntmps20
  go_wp2_with (go_at_call 49;refine (HT.out _).mono ?_;rintro e w1 ⟨rfl,hb1⟩)
  go_ret
  exact ⟨rfl,HB.out.trans (hb1.mono HB.out.size)⟩
 ·have HT:=yb (fun W=>rname13 s W (by omega))
  rw [show mkB (zbg (.mk 5 n s l))=mkB (zcx (.mk 5 0 s [])).1 from rfl]
  clear hs ht
  generalize zcx (.mk 5 0 s [])=p at *
  obtain ⟨t,er⟩:=p
  simp only at HT |-
  generalize mkB t=T at *
  generalize mkB s=S at *
  generalize l.length=ll at *
  go_enter Tryz.func20,Tryz.ntmps20
  go_wp2_with (go_at_call 50;refine (HT.out _).mono ?_;rintro e w1 ⟨rfl,hb1⟩)
  go_ret
  exact ⟨rfl,HB.out.trans (hb1.mono HB.out.size)⟩
 ·have HP:=yb (fun W=>zdU 2 n ⟨#[]⟩ none 0 0 W (by decide))
  unfold zbI at HP
  rw [show za7 ⟨#[]⟩ 0=true from rfl] at HP
  have hpl:=zcF 2 n true
  rw [show mkB (zbg (.mk 8 n s l))=mkS (zaV 2 n true).1++⟨#[32,48,32,82]⟩ by
   rw [show (⟨#[32,48,32,82]⟩:ByteArray)=mkS [32,48,32,82] from rfl,zdA];rfl]
  generalize zaV 2 n true=p at *
  obtain ⟨t,er⟩:=p
  simp only at hpl HP |-
  have hsz:(mkS t).size<=40:=by rw [zbb];exact hpl
  clear hs ht hpl
  generalize mkB s=S at *
  generalize mkS t=T at *
  generalize l.length=ll at *
  go_enter Tryz.func20,Tryz.ntmps20
  go_wp2_with (go_at_call 48;refine (HP.out _).mono ?_;rintro e w1 ⟨rfl,hb1⟩)
  go_ret
  exact ⟨rfl,HB.out.trans (hb1.mono HB.out.size)⟩
theorem rform_x:∀(N:Nat) (v:PV),SizeOf.sizeOf v<=N->bndV v<=1152921504606846976->FormX v:=by
 intro N
 induction N with
 | zero=>intro v h;obtain ⟨_,_,_,_⟩:=v;simp at h
 | succ N ih =>
 intro v hN hl
 by_cases hk:v.kind=0\/v.kind=1\/v.kind=2\/v.kind=3\/v.kind=4\/v.kind=5\/v.kind=8
 ·exact rform_leafX hk hl
 ·have hx:∀(j:Nat) (x:PV),v.l[j]?=some x->FormX x:=fun j x hx =>
   ih x (by have:=zbh hx;omega) (by have:=bndL_mem hx;rw [bndV_is] at hl;omega)
  obtain ⟨k,n,s,l⟩:=v
  simp only [PV.kind,PV.l] at hk hx
  exact rform_rowX (by omega) hx hl
def FewX (s:Sec):Prop:=s.gs.length<=80/\0<=fewV s.tr 100/\(zbg s.tr).length<=3000/\∀g∈s.gs,g.es.length<=100
theorem few_uptoX {gs:List Grp} {c:Nat} {g:Grp} (hg:gs[c]?=some g) (h:∀x∈gs.take c,x.es.length<=100) (hx:g.es.length<=100):∀x∈gs.take (c+1),x.es.length<=100:=by
 intro x hm
 rw [List.take_add_one,hg] at hm
 rcases List.mem_append.1 hm with h1|h1
 ·exact h x h1
 ·simp at h1;subst h1;exact hx
theorem rfew15x {s:Sec} {gv sl:Value} {w:World} (h:zbu w anyF s gv sl) (ht:txM 140737488355328 s.tr) :
  Calls Tryz.prog 5 #[secA s gv sl] w fun e w'=>(∃b,e=.returned (.bool b)/\(b=true->FewX s))/\Below w.heap.size w w':=by
 obtain ⟨gs,x⟩:=s
 simp only at ht
 obtain ⟨ga,gc,rfl,hgc,hgm,-⟩:=h.1.len
 simp only at hgc
 have HF:=yb (fun (W:World) (hb:Below w.heap.size w W)=>few_any _ x sl W 100 (yp _) (by decide) (by decide) (h.2.below hb))
 have HFM:=yb (fun (h0:0<=fewV x 100) (W:World) (hb:Below w.heap.size w W)=>rform_x _ x (yp _) (bnd_few h0 ht) sl W (h.2.below hb))
 have HGA:=yb (fun (W:World) (hb:Below w.heap.size w W)=>(h.1.below hb))
 have HOK:=yb (show gs.length<=80->0<=fewV x 100->(mkB (zbg x)).size<=3000->(∀g∈gs.take gs.length,g.es.length<=100)->FewX ⟨gs,x⟩ from fun h1 h2 h4 h3=>⟨h1,h2,by rw [zar] at h4;exact h4,by rw [List.take_length] at h3;exact h3⟩)
 have hbd:=zeq x 100 (by decide)
 have hf1:-1<=fewV x 100:=hbd.1
 have hf2:fewV x 100<=100:=hbd.2.1
 unfold secA
 simp only at HGA |-
 obtain ⟨sa,sc,rfl,-,-,-⟩:=h.2.len
 simp only at HF HFM |-
 unfold pvA at HF HFM
 clear h ht hbd
 have hg63:(gs.length:Int)<=9223372036854775807:=by unfold maxLen at hgm;omega
 generalize FewX ⟨gs,x⟩=OK at *
 generalize mkB (zbg x)=fs at *
 generalize fewV x 100=m2 at *
 generalize x.kind=xk at *
 generalize x.n=xn at *
 generalize mkB x.s=xb at *
 generalize x.l.length=xl at *
 obtain ⟨B,hB⟩:∃B,B=w.heap.size:=⟨_,rfl⟩
 have HB1:=yb (zae w (.cells #[.slice ga gs.length gc,.int .i64 xk,.int .i64 xn,.string xb,.slice sa xl sc] 27))
 have HX1:=yb (zab (w:=w) (b:=B) (.cells #[.slice ga gs.length gc,.int .i64 xk,.int .i64 xn,.string xb,.slice sa xl sc] 27) hB)
 go_enter Tryz.func5,Tryz.ntmps5
 go_upto_region 1 with fail
 try rw [<-hB]
 clear hB
 generalize World.alloc _ _=W1 at *
 obtain ⟨⟨x0,x1,x2,x3,x4⟩,-⟩:=zaL HX1.out
 by_cases h80:gs.length<=80
 case neg =>
  have hd1:decide (80<gs.length)=true:=yd (by omega)
  have hd2:decide ((80:Int)<gs.length)=true:=yd (by omega)
  clear HF HFM HGA HOK
  go_wp2
  go_ret
  exact ⟨⟨false,rfl,fun h=>(by cases h)⟩,HB1.out⟩
 have hd1:decide (80<gs.length)=false:=ye (by omega)
 have hd2:decide ((80:Int)<gs.length)=false:=ye (by omega)
 have HC1:=yb (HF.out W1 HB1.out)
 go_wp2_with fail
 refine HC1.out.mono ?_
 rintro e w2 ⟨rfl,hb⟩
 have HB2:=yo HB1 hb
 have HX2:=yb (zaa hb HX1.out)
 clear hb HF HC1 x0 x1 x2 x3 x4 HX1 HB1
 obtain ⟨⟨x0,x1,x2,x3,x4⟩,-⟩:=zaL HX2.out
 by_cases hm:0<=m2
 case neg =>
  have hd3:decide (m2<0)=true:=yd (by omega)
  clear HFM HGA HOK
  go_wp2
  go_ret
  exact ⟨⟨false,rfl,fun h=>(by cases h)⟩,HB2.out⟩
 have hd3:decide (m2<0)=false:=ye (by omega)
 have HC2:=yb (HFM.out hm w2 HB2.out)
 go_wp2_with fail
 refine HC2.out.mono ?_
 rintro e w3 ⟨rfl,hb⟩
 have HB3:=yo HB2 hb
 have HX3:=yb (zaa hb HX2.out)
 clear hb HFM HC2 x0 x1 x2 x3 x4 HX2 HB2
 obtain ⟨⟨x0,x1,x2,x3,x4⟩,-⟩:=zaL HX3.out
 by_cases h3:3000<fs.size
 ·have hd4:decide (3000<fs.size)=true:=yd h3
  have hd5:decide ((3000:Int)<fs.size)=true:=yd (by omega)
  clear HGA HOK
  go_wp2
  go_ret
  exact ⟨⟨false,rfl,fun h=>(by cases h)⟩,HB3.out⟩
 have hd4:decide (3000<fs.size)=false:=ye h3
 have hd5:decide ((3000:Int)<fs.size)=false:=ye (by omega)
 have HOK2:=yb (HOK.out h80 hm (by omega))
 clear HOK hm h80
 go_wp2_with fail
 clear x0 x1 x2 x3 x4
 go_loopw [3] (fun v wr=>∃c:Nat,v=.int .i64 c/\c<=gs.length/\Hid (Below w3.heap.size w3 wr)/\Hid (∀x∈gs.take c,x.es.length<=100)) (fun v _=>gs.length-(intOf v).toNat)
 case atStart=>exact ⟨0,rfl,Nat.zero_le _,yb (Below.refl _ _),yb (fun x hx=>by simp at hx)⟩
 case round =>
  obtain ⟨c,rfl,hc,HW,HA⟩:=hrel
  have HB:=yb (HB3.out.trans (HW.out.mono HB3.out.size))
  obtain ⟨⟨x0,x1,x2,x3,x4⟩,-⟩:=zaL (zaa HW.out HX3.out)
  by_cases hlt:c<gs.length
  case neg =>
   have hce:c=gs.length:=by omega
   subst hce
   have hcd:decide ((gs.length:Int)<(gs.length:Int))=false:=ye (by omega)
   have hcd2:decide (gs.length<gs.length)=false:=ye (by omega)
   go_wp2
   go_ret
   exact ⟨⟨true,rfl,fun _=>HOK2.out HA.out⟩,HB.out⟩
  have hcd:decide ((c:Int)<(gs.length:Int))=true:=yd (by omega)
  have hcd2:decide (c<gs.length)=true:=yd (by omega)
  have hlj:(c:Int)<(gs.length:Int):=by omega
  obtain ⟨-,-,-,b,off,ha,-,-,hat⟩:=(HGA.out wr HB.out).at (by omega)
  subst ha
  obtain ⟨g,hg⟩:∃g,gs[c]?=some g:=⟨_,List.getElem?_eq_getElem hlt⟩
  obtain ⟨v,hv,g0,g1⟩:=hat c g hg
  obtain ⟨ea,ec,rfl,hel,hec,-⟩:=hv.len
  have HA2:=yb (few_uptoX hg HA.out)
  have he63:(g.es.length:Int)<=9223372036854775807:=by unfold maxLen at hec;omega
  clear hat hv hg HA
  generalize g.es.length=el at *
  by_cases h100:100<el
  ·have hd6:decide (100<el)=true:=yd h100
   have hd7:decide ((100:Int)<el)=true:=yd (by omega)
   go_wp2
   go_ret
   exact ⟨⟨false,rfl,fun h=>(by cases h)⟩,HB.out⟩
  ·have hd6:decide (100<el)=false:=ye h100
   have hd7:decide ((100:Int)<el)=false:=ye (by omega)
   have HA3:=yb (HA2.out (by omega))
   clear HA2
   go_wp2
   go_roundw
   case rel=>exact ⟨c+1,by go_num,by omega,HW,HA3⟩
   case measure=>simp [intOf];omega
end Go.Proofs.YtcmoehknppjkiaaGreatDoor
