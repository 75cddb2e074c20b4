/-
  Our texts LexR to LexU, in one.
-/
import Derived.Test.YtfafdeemfeaedaaGreatPkW5
import Derived.PlainAid
set_option maxRecDepth 8000
set_option maxHeartbeats 8000000
namespace Go.Proofs.YtfafdeemfeaedaaGreat
open Go.RowKit
theorem zdJ {w:World} {a:Option Addr} {cap:Nat} {bs:List UInt8} (hr:Row w 1 a bs.length cap (bs.map u8C)) (hn:bs.length<=400000) (k:Nat) (hk:k<=bs.length) :
  Calls Tryz.prog 122 #[.slice a bs.length cap,.int .i64 k] w fun e w'=>e=.returned (.int .i64 ((k+runN (bs.drop k):Nat):Int))/\w=w':=by
 obtain ⟨R,hR⟩:∃R,R=k+runN (bs.drop k):=⟨_,rfl⟩
 rw [<-hR]
 have HR:=yb hR
 have HC:=yb (fun j (hj:j<bs.length)=>hr.at 0 j hj)
 have HK:=yb hk
 clear hR hr hk
 go_enter Tryz.func122,Tryz.ntmps122
 go_wp2
 go_loop [1] (fun i=>∃j:Nat,j<=bs.length/\i=.int .i64 j/\Hid (R=j+runN (bs.drop j))) (fun i=>bs.length-(intOf i).toNat)
 case atStart=>exact ⟨k,HK.out,rfl,HR⟩
 case round =>
  obtain ⟨j,hj,rfl,HJ⟩:=hrel
  by_cases hlt:j<bs.length
  ·obtain ⟨b,off,ha,-,hc⟩:=HC.out j hlt
   unfold u8C at hc
   have hcj:=hc j hlt
   have hg:=HJ.out
   rw [zay hlt] at hg
   have hji:decide ((j:Int)<bs.length)=true:=yd (by omega)
   have hjn:decide (j<bs.length)=true:=yd hlt
   have hjl:(j:Int)<bs.length:=by omega
   have HM:=yb (show bs.length-(j+1)<bs.length-j by omega)
   have HJL:=yb (show j+1<=bs.length from hlt)
   subst ha
   generalize bs.getD j 0=c at *
   have HSP:=yb (fun W=>zdm c.toNat W)
   have HDL:=yb (fun W=>zaS c.toNat W)
   rw [<-zeI] at HSP
   rw [<-zbV] at HDL
   have hreg:isRg c=(!isSp c&&!isDl c):=rfl
   generalize c.toNat=x at *
   generalize isSp c=sp at *
   generalize isDl c=dl at *
   clear hc HC
   cases sp
   ·cases dl
    ·have HG:=yb (show R=(j+1)+runN (bs.drop (j+1)) by rw [hg,ze2 _ hreg];omega)
     clear hg hreg hlt
     go_wp2_with (first
      |(go_at_call 85;refine (HSP.out _).mono ?_;rintro e w' ⟨rfl,rfl⟩)
      |(go_at_call 126;refine (HDL.out _).mono ?_;rintro e w' ⟨rfl,rfl⟩))
     go_round
     case rel=>exact ⟨j+1,HJL.out,by go_num,HG⟩
     case measure=>have:=HM.out;simp only [intOf];omega
    ·have HG:=yb (show R=j by rw [hg,runN_no _ hreg];omega)
     clear hg hreg hlt
     go_wp2_with (first
      |(go_at_call 85;refine (HSP.out _).mono ?_;rintro e w' ⟨rfl,rfl⟩)
      |(go_at_call 126;refine (HDL.out _).mono ?_;rintro e w' ⟨rfl,rfl⟩))
     go_ret
     exact ⟨by rw [HG.out];rfl,rfl⟩
   ·have HG:=yb (show R=j by rw [hg,runN_no _ hreg];omega)
    clear hg hreg hlt
    go_wp2_with (first
     |(go_at_call 85;refine (HSP.out _).mono ?_;rintro e w' ⟨rfl,rfl⟩)
     |(go_at_call 126;refine (HDL.out _).mono ?_;rintro e w' ⟨rfl,rfl⟩))
    go_ret
    exact ⟨by rw [HG.out];rfl,rfl⟩
  ·obtain rfl:j=bs.length:=by omega
   have hg:=HJ.out
   rw [List.drop_length] at hg
   have HG:=yb (show R=bs.length from hg)
   clear hg
   go_wp2
   go_ret
   exact ⟨by rw [HG.out];rfl,rfl⟩
theorem zfl {w:World} {a:Option Addr} {cap:Nat} {bs:List UInt8} (hr:Row w 1 a bs.length cap (bs.map u8C)) (hn:bs.length<=400000) :
  Calls Tryz.prog 125 #[.slice a bs.length cap] w (zdA w (zdz bs)):=by
 obtain ⟨V,hV⟩:∃V,V=zdz bs:=⟨_,rfl⟩
 rw [<-hV]
 rw [nameV_fin] at hV
 have HV:=yb hV
 obtain ⟨r,hrr⟩:∃r,r=w.heap.size:=⟨_,rfl⟩
 have HBX:=yb (show (w.alloc (.cells #[.int .i64 0,.int .i64 0,.string ⟨#[]⟩,.slice none 0 0] 27)).heap[r]?=some (.cells #[.int .i64 0,.int .i64 0,.string ⟨#[]⟩,.slice none 0 0] 27 (0,0)) from zac _ hrr)
 have HB0:=yb (zam w (.cells #[.int .i64 0,.int .i64 0,.string ⟨#[]⟩,.slice none 0 0] 27))
 have HRR:=yb hrr
 have HC:=yb (fun (W:World) (h:Below w.heap.size w W) j (hj:j<bs.length)=>(hr.mono h).at 0 j hj)
 have HCB:=yb (fun j (hj:j<bs.length)=>hr.at 0 j hj)
 clear hV hrr hr
 go_enter Tryz.func125,Tryz.ntmps125
 go_wp2
 rw [<-HRR.out]
 generalize w.alloc (.cells #[.int .i64 0,.int .i64 0,.string ⟨#[]⟩,.slice none 0 0] 27)=W0 at *
 have hr0:=(Array.getElem?_eq_some_iff.1 HBX.out).1
 go_loopw [4,5] (fun v i wr=>∃(k:Nat) (o:List UInt8),k<=bs.length/\i=.int .i64 k/\o.length<=k/\Hid (wr.ownsRow W0.heap.size 5 1 v o.length (o.map u8C))/\Hid (Below W0.heap.size W0 wr)/\Hid (V=finN (zch o (bs.drop k)))) (fun _ i _=>bs.length-(intOf i).toNat)
 case atStart=>exact ⟨0,[],by omega,by go_num,by simp,yb (World.ownsRow_nil _ _ _ _),yb (Below.refl _ _),HV⟩
 case round =>
  obtain ⟨k,o,hk,rfl,hok,HO,HB,HG⟩:=hrel
  have HBR:=yb (zab HB.out HBX.out)
  have HBW:=yb (HB0.out.trans (HB.out.mono HB0.out.size))
  have hsz:=HB.out.size
  by_cases hlt:k<bs.length
  ·have hg:=HG.out
   rw [zay hlt] at hg
   obtain ⟨b,off,ha,-,hc⟩:=HC.out wr HBW.out k hlt
   have hbW:b<w.heap.size:=by
    obtain ⟨b',off',ha',hb',-⟩:=HCB.out k hlt
    rw [ha] at ha';cases ha';exact hb'
   unfold u8C at hc
   have hcj:=hc k hlt
   have hki:decide ((k:Int)<bs.length)=true:=yd (by omega)
   have hkn:decide (k<bs.length)=true:=yd hlt
   have hkl:(k:Int)<bs.length:=by omega
   subst ha
   obtain ⟨c,hcc⟩:∃c,bs.getD k 0=c:=⟨_,rfl⟩
   rw [hcc] at hcj hg
   clear hcc
   by_cases h35:c=35
   ·subst h35
    rw [show ((35:UInt8).toNat:Int)=35 from rfl] at hcj
    by_cases h2:bs.length<=k+2
    ·have HNONE:=yb (show V=none by rw [hg,zeO _ _ (by rw [ym];omega)];rfl)
     have h2d:decide ((bs.length:Int)<=(k:Int)+2)=true:=yd (by omega)
     clear hg hc
     obtain ⟨⟨k0,k1,k2,k3⟩,f0,f1,f2,f3⟩:=zaf HBR.out
     go_wp2
     refine yi (zaa rfl _ _ r 27 _ (0,0) _ rfl (set4 HBR.out _ _ _ _) Tryz.underlying27 rfl zao _ rfl) rfl ?_
     exact zbA HNONE.out (zad HBW.out (by have:=HRR.out;omega) _ _ _ _)
    ·have h2d:decide ((bs.length:Int)<=(k:Int)+2)=false:=ye (by omega)
     have h1':k+1<bs.length:=by omega
     have h2':k+1+1<bs.length:=by omega
     rw [zay h1',zay h2',zgw] at hg
     have c1:=hc (k+1) h1'
     have c2:=hc (k+2) h2'
     have l1:(k:Int)+1<bs.length:=by omega
     have l2:(k:Int)+2<bs.length:=by omega
     have hA:=zgW (bs.getD (k+1) 0)
     have hB:=zgW (bs.getD (k+1+1) 0)
     have HHA:=yb (fun W=>zhg (bs.getD (k+1) 0) W)
     have HHB:=yb (fun W=>zhg (bs.getD (k+1+1) 0) W)
     rw [show k+2=k+1+1 from rfl] at c2
     generalize hexD (bs.getD (k+1) 0)=A at *
     generalize hexD (bs.getD (k+1+1) 0)=B at *
     generalize (bs.getD (k+1) 0).toNat=x at *
     generalize (bs.getD (k+1+1) 0).toNat=y at *
     rw [show k+1+1=k+2 from rfl] at c2
     clear hc
     by_cases hAn:A<0
     ·have HNONE:=yb (show V=none by rw [hg,yg (.inl hAn)];rfl)
      have hAd:decide (A<0)=true:=yd hAn
      clear hg
      obtain ⟨⟨k0,k1,k2,k3⟩,f0,f1,f2,f3⟩:=zaf HBR.out
      go_wp2_with fail
      refine (HHA.out _).mono ?_
      rintro e w9 ⟨rfl,rfl⟩
      go_wp2
      refine yi (zaa rfl _ _ r 27 _ (0,0) _ rfl (set4 HBR.out _ _ _ _) Tryz.underlying27 rfl zao _ rfl) rfl ?_
      exact zbA HNONE.out (zad HBW.out (by have:=HRR.out;omega) _ _ _ _)
     ·have hAd:decide (A<0)=false:=ye hAn
      by_cases hBn:B<0
      ·have HNONE:=yb (show V=none by rw [hg,yg (.inr hBn)];rfl)
       have hBd:decide (B<0)=true:=yd hBn
       clear hg hAn
       obtain ⟨⟨k0,k1,k2,k3⟩,f0,f1,f2,f3⟩:=zaf HBR.out
       go_wp2_with fail
       refine (HHA.out _).mono ?_
       rintro e w9 ⟨rfl,rfl⟩
       go_wp2_with fail
       refine (HHB.out _).mono ?_
       rintro e w9 ⟨rfl,rfl⟩
       go_wp2
       refine yi (zaa rfl _ _ r 27 _ (0,0) _ rfl (set4 HBR.out _ _ _ _) Tryz.underlying27 rfl zao _ rfl) rfl ?_
       exact zbA HNONE.out (zad HBW.out (by have:=HRR.out;omega) _ _ _ _)
      ·have hBd:decide (B<0)=false:=ye hBn
       rw [yh (by rintro (h|h)<;>contradiction)] at hg
       have HG2:=yb hg
       have HBY:=yb (zeW (16*A+B) (by omega) (by omega))
       have hA0:0<=A:=by omega
       have hB0:0<=B:=by omega
       obtain ⟨hA1,hA2⟩:=hA
       obtain ⟨hB1,hB2⟩:=hB
       have ak:u4.ownBlock≠some b:=fun e=>by have h1:=(HO.out.lt b e).1;have:=HB0.out.size;omega
       have hb1w:b<wr.heap.size:=by have:=HBW.out.size;omega
       have HKK:=yb (show k+3<=bs.length/\bs.length-(k+3)<bs.length-k by omega)
       have i1:IntKind.i64.wrap ((k:Int)+1)=(k:Int)+1:=IntWalk.i64_in _ (by omega)
       have i2:IntKind.i64.wrap ((k:Int)+2)=(k:Int)+2:=IntWalk.i64_in _ (by omega)
       have i3:IntKind.i64.wrap (16*A)=16*A:=IntWalk.i64_in _ (by omega)
       have i4:IntKind.i64.wrap (16*A+B)=16*A+B:=IntWalk.i64_in _ (by omega)
       have i5:IntKind.u8.wrap (16*A+B)=16*A+B:=by rw [IntKind.wrap_u8];omega
       have i6:((k:Int)+1).toNat=k+1:=by omega
       have i7:((k:Int)+2).toNat=k+2:=by omega
       have i8:(0:Int)<=(k:Int)+1:=by omega
       have i9:(0:Int)<=(k:Int)+2:=by omega
       clear hg hAn hBn
       go_wp2_with fail
       refine (HHA.out _).mono ?_
       rintro e w9 ⟨rfl,rfl⟩
       go_wp2_with fail
       refine (HHB.out _).mono ?_
       rintro e w9 ⟨rfl,rfl⟩
       go_wp2
       go_region_held3 (fun w'=>w'.cell? ⟨b,off+(k+1),none⟩=some (.int .u8 x)/\w'.cell? ⟨b,off+(k+2),none⟩=some (.int .u8 y))
        (first
         | go_keep
         |(go_split_ands
           refine ⟨?_,?_⟩
           ·(rw [hgrow.cell_far _ (by simp;omega) (Ne.symm ak)];assumption)
           ·(rw [hgrow.cell_far _ (by simp;omega) (Ne.symm ak)];assumption)))
        (first
         |(go_at_call 162;with_reducible refine (HHA.out _).mono ?_;rintro e w9 ⟨rfl,rfl⟩)
         |(go_at_call 162;with_reducible refine (HHB.out _).mono ?_;rintro e w9 ⟨rfl,rfl⟩)
         |(obtain ⟨iB,hiB,hzB,hsB,hbB⟩:=info_parts zcB.info;refine step_append_lies _ (by rfl) _ _ _ (by rfl) W0.heap.size 5 iB _ 1 1 zcB.und hiB hzB hsB hbB rfl (by omega) u4 o.length _ (by rfl) ((HO.out.alloc _).drew) ⟨wr.heap.size,0,none⟩ 1 1 [.int .u8 (16*A+B)] (by rfl) (by rfl) (World.news_of_block (cs:=#[.int .u8 (16*A+B)]) (t:=5) (fr:=(0,0)) (heap_alloc_new wr _)) (by simp [Value.oneCell']) (by omega) (by unfold maxLen;omega) (by omega) (by simp;omega) (wr.heap.size+1) (by simp) ?_;intro g cap7 w7 hO7 hgrow hat hlt))
       have HP7:=yb (show w7.ownsRow W0.heap.size 5 1 (.slice (some ⟨g,0,none⟩) (o.length+1) cap7) (o++[UInt8.ofNat (16*A+B).toNat]).length ((o++[UInt8.ofNat (16*A+B).toNat]).map u8C)/\Below W0.heap.size W0 w7 from
        zcf (UInt8.ofNat (16*A+B).toNat) (.cells #[.int .u8 (16*A+B)] 5) (zah HB.out 1) hsz (zaO HO.out (zah (Below.refl _ _) 1)) (show Value.int .u8 (16*A+B)=u8C (UInt8.ofNat (16*A+B).toNat) from congrArg (Value.int .u8) HBY.out) hO7 hgrow)
       clear hgrow hO7 hat hlt ak i1 i2 i3 i4 i5 i6 i7 i8 i9
       go_wp2
       go_roundw
       case rel=>exact ⟨k+3,o++[UInt8.ofNat (16*A+B).toNat],HKK.out.1,by go_num,by simp;omega,yb HP7.out.1,yb HP7.out.2,yb HG2.out⟩
       case measure=>have:=HKK.out.2;simp only [intOf];omega
   ·rw [zfJ _ _ _ h35] at hg
    have HG2:=yb hg
    have e35:=zau h35 35 rfl
    have e36:((c.toNat:Int) != 35)=true:=by simp only [bne,e35,yj]
    clear hg h35 hc
    obtain ⟨x,hx⟩:∃x,c.toNat=x:=⟨_,rfl⟩
    rw [hx] at hcj e35 e36
    have HX:=yb (show Value.int .u8 (x:Int)=u8C c by rw [<-hx];rfl)
    clear hx
    go_wp2_with (at_builtin;refine zav zcB rfl (.tmp 18) (.tmp 23) rfl W0.heap.size _ o.length _ rfl (HO.out.alloc _) _ 1 _ _ rfl (zbs _ _ _) (zbK rfl) (by unfold maxLen;omega) (by omega) (by rw [zan];omega) ?_;intro v' w5 hO5 hg5 hnil5;have HP5:=yb (zcf c _ HB.out hsz HO.out HX.out hO5 hg5);clear hO5 hg5 hnil5)
    go_roundw
    case rel=>exact ⟨k+1,o++[c],by omega,by go_num,by simp;omega,yb HP5.out.1,yb HP5.out.2,HG2⟩
    case measure=>simp [intOf];omega
  ·obtain rfl:k=bs.length:=by omega
   have hg:=HG.out
   rw [List.drop_length] at hg
   have hg2:V=if 127<o.length\/(0:UInt8)∈o then none else some o:=hg
   have HG2:=yb hg2
   have HCV:=yb (zdK HO.out)
   obtain ⟨a1,cap1,hv1,hrow,-⟩:=Row.of_owns HO.out
   have HROW:=yb hrow
   have hol:o.length<=400000:=by omega
   have hki:decide ((bs.length:Int)<bs.length)=false:=ye (by omega)
   subst hv1
   clear hg hg2 hrow
   go_wp2
   go_loop [6] (fun i=>∃m:Nat,m<=o.length/\i=.int .i64 m/\Hid (∀j,j<m->o.getD j 0≠0)) (fun i=>o.length-(intOf i).toNat)
   case atStart=>exact ⟨0,by omega,by go_num,yb (fun j hj=>by omega)⟩
   case round =>
    obtain ⟨m,hm,rfl,HZ⟩:=hrel
    by_cases hmo:m<o.length
    ·obtain ⟨b1,off1,he,-,hce⟩:=HROW.out.at 0 m hmo
     have cm:=hce m hmo
     unfold u8C at cm
     subst he
     have hmn:decide (m<o.length)=true:=yd hmo
     have hmi:(m:Int)<o.length:=by omega
     clear hce
     by_cases hz:o.getD m 0=0
     ·have hmem:(0:UInt8)∈o:=by
       rw [<-hz,List.getD_eq_getElem?_getD,List.getElem?_eq_getElem hmo];exact List.getElem_mem _
      have HNONE:=yb (show V=none by rw [HG2.out,yg (.inr hmem)])
      clear hmem
      rw [hz,show ((0:UInt8).toNat:Int)=0 from rfl] at cm
      clear hz
      obtain ⟨⟨k0,k1,k2,k3⟩,f0,f1,f2,f3⟩:=zaf HBR.out
      go_wp2
      refine yi (zaa rfl _ _ r 27 _ (0,0) _ rfl (set4 HBR.out _ _ _ _) Tryz.underlying27 rfl zao _ rfl) rfl ?_
      exact zbA HNONE.out (zad HBW.out (by have:=HRR.out;omega) _ _ _ _)
     ·have e0:=zau hz 0 rfl
      have HZ2:=yb (show ∀j,j<m+1->o.getD j 0≠0 from fun j hj=>by
       by_cases e:j=m
       ·subst e;exact hz
       ·exact HZ.out j (by omega))
      generalize (o.getD m 0).toNat=x at *
      clear hz
      go_wp2
      go_round
      case rel=>exact ⟨m+1,hmo,by go_num,HZ2⟩
      case measure=>simp [intOf];omega
    ·obtain rfl:m=o.length:=by omega
     have hn0:¬(0:UInt8)∈o:=fun hm=>by
      obtain ⟨j,hj,hje⟩:=List.getElem_of_mem hm
      refine HZ.out j hj ?_
      rw [List.getD_eq_getElem?_getD,List.getElem?_eq_getElem hj];exact hje
     by_cases h127:127<o.length
     ·have HNONE:=yb (show V=none by rw [HG2.out,yg (.inl h127)])
      have h127d:decide ((127:Int)<o.length)=true:=yd (by omega)
      have h127e:decide (127<o.length)=true:=yd h127
      clear hn0
      obtain ⟨⟨k0,k1,k2,k3⟩,f0,f1,f2,f3⟩:=zaf HBR.out
      go_wp2
      refine yi (zaa rfl _ _ r 27 _ (0,0) _ rfl (set4 HBR.out _ _ _ _) Tryz.underlying27 rfl zao _ rfl) rfl ?_
      exact zbA HNONE.out (zad HBW.out (by have:=HRR.out;omega) _ _ _ _)
     ·have HS:=yb (show V=some o by rw [HG2.out,yh (by rintro (h|h)<;>contradiction)])
      have h127d:decide ((127:Int)<o.length)=false:=ye (by omega)
      have h127e:decide (127<o.length)=false:=ye h127
      clear hn0 h127
      have hcv:=HCV.out
      obtain ⟨⟨k0,k1,k2,k3⟩,f0,f1,f2,f3⟩:=zaf HBR.out
      go_wp2
      refine yi (zaa rfl _ _ r 27 _ (0,0) _ rfl (set4 HBR.out _ _ _ _) Tryz.underlying27 rfl zao _ rfl) rfl ?_
      exact name_some HS.out (zad HBW.out (by have:=HRR.out;omega) _ _ _ _)
theorem zaq:(Tryz.prog.info? 111).map (·.size)=some 8:=by kernel_rfl
structure PA (p:List UInt8) (N:Int) (ov:Bool):Prop where
 dg:p.all isDg=true
 ov_:ov=decide (2147483647<valD p)
 n:ov=false->N=(valD p:Nat)
def PB (p:List UInt8) (i:Nat) (N P:Int) (ov:Bool):Prop:=∃w r,p=w++46::r/\w.length=i/\PA w N ov/\r.all isDg=true/\P=(mil r:Nat)
theorem PA.nil:PA [] 0 false:=⟨rfl,rfl,fun _=>rfl⟩
theorem PA.over {p:List UInt8} {N:Int} (h:PA p N true) {c:UInt8} (hc:isDg c=true):PA (p++[c]) N true :=
 ⟨zdj _ _ h.dg hc,by have:=h.ov_;rw [eq_comm,decide_eq_true_iff] at this;rw [eq_comm,decide_eq_true_iff,zcg];omega,fun h=>by cases h⟩
theorem PA.more {p:List UInt8} {N:Int} (h:PA p N false) {c:UInt8} (hc:isDg c=true) (M:Int) (hM:M=10*N+(dgV c:Nat)) (o:Bool) (ho:o=decide (2147483647<M)):PA (p++[c]) M o:=by
 have h1:=h.n rfl
 have hv:M=(valD (p++[c]):Nat):=by rw [zcg,hM,h1];omega
 refine ⟨zdj _ _ h.dg hc,?_,fun _=>hv⟩
 rw [ho,Bool.eq_iff_iff,decide_eq_true_iff,decide_eq_true_iff];omega
theorem PA.point {p:List UInt8} {N:Int} {ov:Bool} (h:PA p N ov):PB (p++[46]) p.length N 0 ov:=⟨p,[],rfl,rfl,h,rfl,rfl⟩
theorem mil_by (r:List UInt8) (c:UInt8) (b:Nat) (hb:b=100000 / 10 ^ (min (r.length+1) 7-1)):mil (r++[c])=mil r+b*dgV c:=by
 by_cases h:r.length<6
 ·rw [mil_snoc_lt r c h,hb,Nat.min_eq_left (by omega)]
  congr 2
  have:r.length=0\/r.length=1\/r.length=2\/r.length=3\/r.length=4\/r.length=5:=by omega
  rcases this with h|h|h|h|h|h<;>rw [h]
 ·rw [mil_snoc_ge r c (by omega),hb,Nat.min_eq_right (by omega)]
  simp
theorem PB.more {p:List UInt8} {i:Nat} {N P:Int} {ov:Bool} (h:PB p i N P ov) {c:UInt8} (hc:isDg c=true) (b:Nat) (hb:b=100000 / 10 ^ (min (p.length-i) 7-1)) (Q:Int) (hQ:Q=P+(b:Int)*((c.toNat:Int)-48)):PB (p++[c]) i N Q ov:=by
 obtain ⟨w,r,e,hl,hA,hr,hP⟩:=h
 have hlen:=congrArg List.length e
 simp only [List.length_append,List.length_cons] at hlen
 refine ⟨w,r++[c],by rw [e];simp,hl,hA,zdj _ _ hr hc,?_⟩
 rw [mil_by r c b (by rw [hb];congr 3;omega),hQ,hP,<-zdb hc]
 push_cast
 rfl
theorem PB.bad {p:List UInt8} {i:Nat} {N P:Int} {ov:Bool} (h:PB p i N P ov) (sg:Int) (c:UInt8) (t:List UInt8) (hc:isDg c=false):zbb sg (p++c::t)=(0,0,11):=by
 obtain ⟨w,r,e,hl,hA,hr,hP⟩:=h
 rw [e]
 have:w++46::r++c::t=w++46::(r++c::t):=by simp
 rw [this]
 exact parseB_bad2 sg w r t c hA.dg hc
theorem PB.bd {p:List UInt8} {i:Nat} {N P:Int} {ov:Bool} (h:PB p i N P ov):0<=P/\P<=999999:=by
 obtain ⟨w,r,e,hl,hA,hr,rfl⟩:=h
 have:=zgg r hr
 omega
theorem PA.fin {p:List UInt8} {N:Int} {ov:Bool} (h:PA p N ov) (sg:Int):zbb sg p=if p.length=0 then (0,0,11) else if ov=true then (0,0,5) else (2,sg*N,0):=by
 rw [parseB_int sg p h.dg]
 by_cases h0:p.length=0
 ·rw [yg h0,yg h0]
 ·rw [yh h0,yh h0]
  have h1:=h.ov_
  cases ov
  ·rw [eq_comm,decide_eq_false_iff_not] at h1
   rw [yh h1,yh (by decide),h.n rfl]
  ·rw [eq_comm,decide_eq_true_iff] at h1
   rw [yg h1,yg rfl]
theorem PB.fin {p:List UInt8} {i:Nat} {N P:Int} {ov:Bool} (h:PB p i N P ov) (sg:Int):zbb sg p=if p.length=1 then (0,0,11) else if ov=true\/(N=2147483647/\0<P) then (0,0,5) else (3,sg*(1000000*N+P),0):=by
 obtain ⟨w,r,e,hl,hA,hr,rfl⟩:=h
 have hlen:=congrArg List.length e
 simp only [List.length_append,List.length_cons] at hlen
 rw [e,parseB_real sg w r hA.dg hr,<-e]
 by_cases h0:p.length=1
 ·rw [yg h0,yg (by omega)]
 ·rw [yh h0,yh (by omega)]
  have h1:=hA.ov_
  cases ov
  ·rw [eq_comm,decide_eq_false_iff_not] at h1
   have h2:=hA.n rfl
   by_cases h3:N=2147483647/\0<((mil r:Nat):Int)
   ·rw [yg (.inr (by omega)),yg (.inr h3)]
   ·rw [yh (by rintro (h|h);exact h1 h;exact h3 (by omega)),yh (by rintro (h|h);cases h;exact h3 h),h2]
    rw [Int.natCast_add,Int.natCast_mul,Int.mul_comm 1000000];rfl
  ·rw [eq_comm,decide_eq_true_iff] at h1
   rw [yg (.inl h1),yg (.inl rfl)]
def St (b:List UInt8) (a K:Nat) (N P D T:Int) (ov:Bool):Prop :=
 (T=-1/\P=0/\D=(K:Int)-(a:Int)/\PA (b.take (K-a)) N ov)\/(∃i:Nat,T=(a:Int)+(i:Int)/\i<K-a/\D=(K:Int)-(a:Int)-1/\PB (b.take (K-a)) i N P ov)
theorem at_take (s:ByteArray) (a k:Nat) (h:k<s.size) (ha:a<=k):((bl s).drop a).take (k+1-a)=((bl s).drop a).take (k-a)++[s[k]]:=by
 rw [show k+1-a=(k-a)+1 from by omega,List.take_succ_eq_append_getElem (by rw [ym,zaG];omega),List.getElem_drop]
 congr 2
 rw [<-bl_get s k h]
 congr 1
 omega
theorem zhd (s:ByteArray) (a k:Nat) (h:k<s.size) (ha:a<=k):(bl s).drop a=((bl s).drop a).take (k-a)++s[k]::(bl s).drop (k+1):=by
 have h1:=List.take_append_drop (k-a) ((bl s).drop a)
 rw [List.drop_drop,show a+(k-a)=k from by omega,zez s k h] at h1
 exact h1.symm
set_option maxHeartbeats 16000000 in
theorem rparse_none (s:ByteArray) (w:World) (hs:s.size<=400000) (h0:0<s.size) (hn43:PlainAid.bt s 0≠43) (hn45:PlainAid.bt s 0≠45) :
  Calls Tryz.prog 127 #[.string s] w (zbr (zaP (bl s)) w):=by
 have hbx:(w.alloc (.cells #[.int .i64 0,.int .i64 0,.string ⟨#[]⟩,.slice none 0 0] 27)).heap[w.heap.size]?=some (.cells #[.int .i64 0,.int .i64 0,.string ⟨#[]⟩,.slice none 0 0] 27 (0,0)):=zac _ rfl
 have hB0:=zam w (.cells #[.int .i64 0,.int .i64 0,.string ⟨#[]⟩,.slice none 0 0] 27)
 have HBX:=yb hbx
 have HB0:=yb hB0
 obtain ⟨V,hV⟩:∃V,V=zaP (bl s):=⟨_,rfl⟩
 rw [<-hV]
 have HV:=yb hV
 clear hV hbx hB0
 ·have hgb:=PlainAid.get_bt s
  have hx:(s[0].toNat:Int)=PlainAid.bt s 0:=hgb 0 h0
  have h43:(PlainAid.bt s 0==43)=false:=by rw [yf];exact hn43
  have h45:(PlainAid.bt s 0==45)=false:=by rw [yf];exact hn45
  have HS:=yb (show V=zbb 1 ((bl s).drop 0) by
   have hb:=zez s 0 h0
   have a1:s[0]≠45:=fun e=>hn45 (by rw [<-hx,e];rfl)
   have a2:s[0]≠43:=fun e=>hn43 (by rw [<-hx,e];rfl)
   rw [List.drop_zero] at hb
   rw [HV.out,zaP,List.drop_zero]
   unfold zc7 zc6
   rw [hb,List.head?_cons,yh (by simpa using a1),yh (by simp;exact ⟨a1,a2⟩)])
  clear hx hn43 hn45
  go_enter Tryz.func127,Tryz.ntmps127
  go_wp2
  generalize w.alloc (.cells #[.int .i64 0,.int .i64 0,.string ⟨#[]⟩,.slice none 0 0] 27)=W at *
  go_loop [5,6,7,8,9,10] (fun n p d t o i=>∃(K:Nat) (N P D T:Int) (ov:Bool),0<=K/\K<=s.size/\n=.int .i64 N/\p=.int .i64 P/\d=.int .i64 D/\t=.int .i64 T/\o=.bool ov/\i=.int .i64 K/\0<=N/\N<=21474836479/\(ov=false->N<=2147483647)/\0<=P/\P<=999999/\0<=D/\D<=K/\Hid (St ((bl s).drop 0) 0 K N P D T ov))
   (fun _ _ _ _ _ i=>s.size-(intOf i).toNat)
  case atStart=>exact ⟨0,0,0,0,-1,false,yp _,by omega,rfl,rfl,rfl,rfl,rfl,rfl,by omega,by omega,fun _=>by omega,by omega,by omega,by omega,by omega,yb (.inl ⟨rfl,rfl,by omega,PA.nil⟩)⟩
  case round =>
   obtain ⟨K,N,P,D,T,ov,hK0,hK1,rfl,rfl,rfl,rfl,rfl,rfl,hN0,hN1,hNo,hP0,hP1,hD0,hD1,HST⟩:=hrel
   by_cases hlt:K<s.size
   ·have hgb:=PlainAid.get_bt s
    have hx:(s[K].toNat:Int)=PlainAid.bt s K:=hgb K hlt
    have HTK:=yb (at_take s 0 K hlt hK0)
    have HSP:=yb (zhd s 0 K hlt hK0)
    have hx0:=PlainAid.bt_nonneg s K
    have hx1:=PlainAid.bt_le s K
    have HX:=yb hx
    clear hx
    rcases HST.out with ⟨rfl,rfl,hD,hA⟩|⟨i,rfl,hi,hD,hB⟩
    ·have HA:=yb hA
     have HD:=yb hD
     clear hA hD HST
     by_cases h46:PlainAid.bt s K=46
     ·have HB:=yb (show PB (((bl s).drop 0).take (K+1-0)) (K-0) N 0 ov by
       rw [HTK.out,show s[K]=46 from UInt8.toNat_inj.1 (by have:=HX.out;rw [h46] at this;exact Int.ofNat_inj.1 this)]
       have:=HA.out.point
       rwa [show (((bl s).drop 0).take (K-0)).length=K-0 from by rw [List.length_take,ym,zaG];omega] at this)
      have h46d:(PlainAid.bt s K==46)=true:=by rw [beq_iff_eq];exact h46
      clear h46
      go_wp2
      go_round
      case rel=>exact ⟨K+1,N,0,D,K,ov,by omega,by omega,rfl,rfl,rfl,rfl,rfl,by go_num,hN0,hN1,hNo,by omega,by omega,hD0,by omega,yb (.inr ⟨K-0,by omega,by omega,by have:=HD.out;omega,HB.out⟩)⟩
      case measure=>simp [intOf];omega
     ·have h46d:(PlainAid.bt s K==46)=false:=by rw [yf];exact h46
      have HNE:=yb (show s[K]≠46 from fun e=>h46 (by rw [<-HX.out,e];rfl))
      clear h46
      by_cases h48:48<=PlainAid.bt s K
      ·by_cases h57:PlainAid.bt s K<=57
       ·have HDG:=yb (show isDg s[K]=true by rw [za9];have:=HX.out;omega)
        have HDV:=yb (show ((dgV s[K]:Nat):Int)=PlainAid.bt s K-48 by rw [zdb HDG.out,HX.out])
        have h48d:decide (48<=PlainAid.bt s K)=true:=by simpa using h48
        have h57d:decide (PlainAid.bt s K<=57)=true:=by simpa using h57
        cases ov
        ·have hN2:=hNo rfl
         by_cases hM:2147483647<10*N+PlainAid.bt s K-48
         ·have HA2:=yb (show PA (((bl s).drop 0).take (K+1-0)) (10*N+PlainAid.bt s K-48) true by
           rw [HTK.out];exact HA.out.more HDG.out _ (by have:=HDV.out;omega) _ (by rw [eq_comm,decide_eq_true_iff];exact hM))
          go_wp2
          go_round
          case rel=>exact ⟨K+1,10*N+PlainAid.bt s K-48,0,D+1,-1,true,by omega,by omega,rfl,rfl,rfl,rfl,rfl,by go_num,by omega,by omega,(fun h=>by cases h),by omega,by omega,by omega,by omega,yb (.inl ⟨rfl,rfl,by have:=HD.out;omega,HA2.out⟩)⟩
          case measure=>simp [intOf];omega
         ·have HA2:=yb (show PA (((bl s).drop 0).take (K+1-0)) (10*N+PlainAid.bt s K-48) false by
           rw [HTK.out];exact HA.out.more HDG.out _ (by have:=HDV.out;omega) _ (by rw [eq_comm,decide_eq_false_iff_not];exact hM))
          have hMd:decide (2147483647<10*N+PlainAid.bt s K-48)=false:=by simpa using hM
          have hM2:10*N+PlainAid.bt s K-48<=2147483647:=by omega
          clear hM
          go_wp2
          go_round
          case rel=>exact ⟨K+1,10*N+PlainAid.bt s K-48,0,D+1,-1,false,by omega,by omega,rfl,rfl,rfl,rfl,rfl,by go_num,by omega,by omega,(fun _=>hM2),by omega,by omega,by omega,by omega,yb (.inl ⟨rfl,rfl,by have:=HD.out;omega,HA2.out⟩)⟩
          case measure=>simp [intOf];omega
        ·have HA2:=yb (show PA (((bl s).drop 0).take (K+1-0)) N true by rw [HTK.out];exact HA.out.over HDG.out)
         go_wp2
         go_round
         case rel=>exact ⟨K+1,N,0,D+1,-1,true,by omega,by omega,rfl,rfl,rfl,rfl,rfl,by go_num,hN0,hN1,hNo,by omega,by omega,by omega,by omega,yb (.inl ⟨rfl,rfl,by have:=HD.out;omega,HA2.out⟩)⟩
         case measure=>simp [intOf];omega
       ·have HL:=yb (show V=(0,0,11) by
         rw [HS.out,HSP.out];exact zbS _ _ _ _ HA.out.dg HNE.out (by rw [zbB];have:=HX.out;omega))
        have h48d:decide (48<=PlainAid.bt s K)=true:=by simpa using h48
        have h57d:decide (PlainAid.bt s K<=57)=false:=by simpa using h57
        obtain ⟨⟨k0,k1,k2,k3⟩,f0,f1,f2,f3⟩:=zaf HBX.out
        go_wp2
        refine yi (zaa rfl _ _ w.heap.size 27 _ (0,0) _ rfl (set4 HBX.out _ _ _ _) Tryz.underlying27 rfl zao _ rfl) rfl ⟨?_,zad HB0.out (yp _) _ _ _ _⟩
        rw [HL.out]
        rfl
      ·have HL:=yb (show V=(0,0,11) by
        rw [HS.out,HSP.out];exact zbS _ _ _ _ HA.out.dg HNE.out (by rw [zbB];have:=HX.out;omega))
       have h48d:decide (48<=PlainAid.bt s K)=false:=by simpa using h48
       obtain ⟨⟨k0,k1,k2,k3⟩,f0,f1,f2,f3⟩:=zaf HBX.out
       go_wp2
       refine yi (zaa rfl _ _ w.heap.size 27 _ (0,0) _ rfl (set4 HBX.out _ _ _ _) Tryz.underlying27 rfl zao _ rfl) rfl ⟨?_,zad HB0.out (yp _) _ _ _ _⟩
       rw [HL.out]
       rfl
    ·have HB:=yb hB
     have HD:=yb hD
     clear hB hD HST
     have hpt:decide ((0:Int)+(i:Int)<0)=false:=ye (by omega)
     have hpt2:decide ((i:Int)<0)=false:=ye (by omega)
     have hpt3:0<=(0:Int)+(i:Int):=by omega
     by_cases h48:48<=PlainAid.bt s K
     ·have h48d:decide (48<=PlainAid.bt s K)=true:=by simpa using h48
      have h46d:(PlainAid.bt s K==46)=false:=by rw [yf];omega
      by_cases h57:PlainAid.bt s K<=57
      ·have h57d:decide (PlainAid.bt s K<=57)=true:=by simpa using h57
       have HDG:=yb (show isDg s[K]=true by rw [za9];have:=HX.out;omega)
       go_wp2
       go_loop [11,12] (fun b j=>∃(J:Nat) (B:Int),1<=J/\J<=7/\J<=K-0-i/\b=.int .i64 B/\j=.int .i64 J/\0<=B/\B<=100000/\Hid (B=(100000 / 10 ^ (J-1):Nat))) (fun _ j=>7-(intOf j).toNat)
       case atStart=>exact ⟨1,100000,by omega,by omega,by omega,rfl,rfl,by omega,by omega,yb rfl⟩
       case round =>
        obtain ⟨J,B,hJ1,hJ7,hJL,rfl,rfl,hB0,hB1,HBJ⟩:=hrel
        by_cases hJK:(J:Int)<(K:Int)-((i:Int))
        ·have hJKd:decide ((J:Int)<(K:Int)-((i:Int)))=true:=by simpa using hJK
         by_cases hJ7b:J<7
         ·have hJ7d:decide ((J:Int)<7)=true:=by simp;omega
          have HBN:=yb (show B / 10=((100000 / 10 ^ (J+1-1):Nat):Int) by
           rw [HBJ.out,show J+1-1=(J-1)+1 from by omega,Nat.pow_succ,<-Nat.div_div_eq_div_mul];omega)
          go_wp2
          go_round
          case rel=>exact ⟨J+1,B / 10,by omega,by omega,by omega,rfl,by go_num,by omega,by omega,HBN⟩
          case measure=>simp [intOf];omega
         ·have hJ7d:decide ((J:Int)<7)=false:=ye (by omega)
          have hz0:0<=B*(PlainAid.bt s K-48):=Int.mul_nonneg hB0 (by omega)
          have hz1:B*(PlainAid.bt s K-48)<=100000*9:=Int.mul_le_mul hB1 (by omega) (by omega) (by omega)
          have HQ:=yb (show PB (((bl s).drop 0).take (K+1-0)) i N (P+B*(PlainAid.bt s K-48)) ov by
           rw [HTK.out]
           refine HB.out.more HDG.out (100000 / 10 ^ (J-1)) ?_ _ (by rw [HBJ.out,HX.out])
           rw [List.length_take,ym,zaG]
           congr 3
           omega)
          have hq:=HQ.out.bd
          have hq0:=hq.1
          have hq1:=hq.2
          clear hq
          have hwr:IntKind.i64.wrap (B*(PlainAid.bt s K-48))=B*(PlainAid.bt s K-48):=IntWalk.i64_in _ (by omega)
          clear hz1
          go_wp2
          go_round
          case rel=>exact ⟨K+1,N,P+B*(PlainAid.bt s K-48),D+1,_,ov,by omega,by omega,rfl,rfl,rfl,by go_num,rfl,by go_num,hN0,hN1,hNo,hq0,hq1,by omega,by omega,yb (.inr ⟨i,rfl,by omega,by have:=HD.out;omega,HQ.out⟩)⟩
          case measure=>simp [intOf];omega
        ·have hJKd:decide ((J:Int)<(K:Int)-((i:Int)))=false:=by simpa using hJK
         have hz0:0<=B*(PlainAid.bt s K-48):=Int.mul_nonneg hB0 (by omega)
         have hz1:B*(PlainAid.bt s K-48)<=100000*9:=Int.mul_le_mul hB1 (by omega) (by omega) (by omega)
         have HQ:=yb (show PB (((bl s).drop 0).take (K+1-0)) i N (P+B*(PlainAid.bt s K-48)) ov by
          rw [HTK.out]
          refine HB.out.more HDG.out (100000 / 10 ^ (J-1)) ?_ _ (by rw [HBJ.out,HX.out])
          rw [List.length_take,ym,zaG]
          congr 3
          omega)
         have hq:=HQ.out.bd
         have hq0:=hq.1
         have hq1:=hq.2
         clear hq
         have hwr:IntKind.i64.wrap (B*(PlainAid.bt s K-48))=B*(PlainAid.bt s K-48):=IntWalk.i64_in _ (by omega)
         clear hz1
         go_wp2
         go_round
         case rel=>exact ⟨K+1,N,P+B*(PlainAid.bt s K-48),D+1,_,ov,by omega,by omega,rfl,rfl,rfl,by go_num,rfl,by go_num,hN0,hN1,hNo,hq0,hq1,by omega,by omega,yb (.inr ⟨i,rfl,by omega,by have:=HD.out;omega,HQ.out⟩)⟩
         case measure=>simp [intOf];omega
      ·have HL:=yb (show V=(0,0,11) by
        rw [HS.out,HSP.out];exact HB.out.bad _ _ _ (by rw [zbB];have:=HX.out;omega))
       have h57d:decide (PlainAid.bt s K<=57)=false:=by simpa using h57
       obtain ⟨⟨k0,k1,k2,k3⟩,f0,f1,f2,f3⟩:=zaf HBX.out
       go_wp2
       refine yi (zaa rfl _ _ w.heap.size 27 _ (0,0) _ rfl (set4 HBX.out _ _ _ _) Tryz.underlying27 rfl zao _ rfl) rfl ⟨?_,zad HB0.out (yp _) _ _ _ _⟩
       rw [HL.out]
       rfl
     ·have HL:=yb (show V=(0,0,11) by
       rw [HS.out,HSP.out];exact HB.out.bad _ _ _ (by rw [zbB];have:=HX.out;omega))
      have h48d:decide (48<=PlainAid.bt s K)=false:=by simpa using h48
      obtain ⟨⟨k0,k1,k2,k3⟩,f0,f1,f2,f3⟩:=zaf HBX.out
      by_cases h46:PlainAid.bt s K=46
      ·have h46d:(PlainAid.bt s K==46)=true:=by rw [beq_iff_eq];exact h46
       clear h46
       go_wp2
       refine yi (zaa rfl _ _ w.heap.size 27 _ (0,0) _ rfl (set4 HBX.out _ _ _ _) Tryz.underlying27 rfl zao _ rfl) rfl ⟨?_,zad HB0.out (yp _) _ _ _ _⟩
       rw [HL.out]
       rfl
      ·have h46d:(PlainAid.bt s K==46)=false:=by rw [yf];exact h46
       clear h46
       go_wp2
       refine yi (zaa rfl _ _ w.heap.size 27 _ (0,0) _ rfl (set4 HBX.out _ _ _ _) Tryz.underlying27 rfl zao _ rfl) rfl ⟨?_,zad HB0.out (yp _) _ _ _ _⟩
       rw [HL.out]
       rfl
   ·obtain rfl:K=s.size:=by omega
    have HTK:=yb (show ((bl s).drop 0).take (s.size-0)=(bl s).drop 0 by rw [List.take_of_length_le (by rw [ym,zaG];omega)])
    have HLEN:=yb (show ((bl s).drop 0).length=s.size-0 by rw [ym,zaG])
    have hwlt:=(Array.getElem?_eq_some_iff.1 HBX.out).1
    obtain ⟨⟨k0,k1,k2,k3⟩,f0,f1,f2,f3⟩:=zaf HBX.out
    rcases HST.out with ⟨rfl,rfl,hD,hA⟩|⟨i,rfl,hi,hD,hB⟩
    ·rw [HTK.out] at hA
     have HL:=yb (show V=if s.size-0=0 then (0,0,11) else if ov=true then (0,0,5) else (2,1*N,0) by rw [HS.out,hA.fin,HLEN.out])
     clear hA HST
     by_cases hz:s.size-0=0
     ·rw [yg hz] at HL
      have hDz:(D==0)=true:=by rw [beq_iff_eq];omega
      clear hD hz
      go_wp2
      refine yi (zaa rfl _ _ w.heap.size 27 _ (0,0) _ rfl (set4 HBX.out _ _ _ _) Tryz.underlying27 rfl zao _ rfl) rfl ⟨?_,zad HB0.out (yp _) _ _ _ _⟩
      rw [HL.out]
      rfl
     ·rw [yh hz] at HL
      have hDz:(D==0)=false:=by rw [yf];omega
      clear hD hz
      cases ov
      ·rw [yh (by decide)] at HL
       have hNo2:=hNo rfl
       go_wp2
       refine yi (zaa rfl _ _ w.heap.size 27 _ (0,0) _ rfl (zak _ (set4 HBX.out _ _ _ _)) Tryz.underlying27 rfl zao _ rfl) rfl ⟨?_,(zad HB0.out (yp _) _ _ _ _).alloc (by simpa using Nat.le_of_lt hwlt) _⟩
       rw [HL.out]
       simp [valC,zbe]
      ·rw [yg rfl] at HL
       go_wp2
       refine yi (zaa rfl _ _ w.heap.size 27 _ (0,0) _ rfl (set4 HBX.out _ _ _ _) Tryz.underlying27 rfl zao _ rfl) rfl ⟨?_,zad HB0.out (yp _) _ _ _ _⟩
       rw [HL.out]
       rfl
    ·rw [HTK.out] at hB
     have HL:=yb (show V=if s.size-0=1 then (0,0,11) else if ov=true\/(N=2147483647/\0<P) then (0,0,5) else (3,1*(1000000*N+P),0) by rw [HS.out,hB.fin,HLEN.out])
     clear hB HST
     have hpt:decide (0<=(0:Int)+(i:Int))=true:=yd (by omega)
     have hpt2:decide (0<=(i:Int))=true:=yd (by omega)
     have hpt3:0<=(0:Int)+(i:Int):=by omega
     by_cases hz:s.size-0=1
     ·rw [yg hz] at HL
      have hDz:(D==0)=true:=by rw [beq_iff_eq];omega
      clear hD hz hi
      go_wp2
      refine yi (zaa rfl _ _ w.heap.size 27 _ (0,0) _ rfl (set4 HBX.out _ _ _ _) Tryz.underlying27 rfl zao _ rfl) rfl ⟨?_,zad HB0.out (yp _) _ _ _ _⟩
      rw [HL.out]
      rfl
     ·rw [yh hz] at HL
      have hDz:(D==0)=false:=by rw [yf];omega
      clear hD hz hi
      cases ov
      ·have hNo2:=hNo rfl
       by_cases hNm:N=2147483647
       ·have hNmd:(N==2147483647)=true:=by rw [beq_iff_eq];exact hNm
        by_cases hPp:0<P
        ·have hPd:decide (0<P)=true:=by simpa using hPp
         rw [yg (.inr ⟨hNm,hPp⟩)] at HL
         clear hNm
         go_wp2
         refine yi (zaa rfl _ _ w.heap.size 27 _ (0,0) _ rfl (set4 HBX.out _ _ _ _) Tryz.underlying27 rfl zao _ rfl) rfl ⟨?_,zad HB0.out (yp _) _ _ _ _⟩
         rw [HL.out]
         rfl
        ·have hPd:decide (0<P)=false:=by simpa using hPp
         rw [yh (by rintro (h|h);cases h;exact hPp h.2)] at HL
         clear hNm
         go_wp2
         refine yi (zaa rfl _ _ w.heap.size 27 _ (0,0) _ rfl (zak _ (set4 HBX.out _ _ _ _)) Tryz.underlying27 rfl zao _ rfl) rfl ⟨?_,(zad HB0.out (yp _) _ _ _ _).alloc (by simpa using Nat.le_of_lt hwlt) _⟩
         rw [HL.out]
         simp [valC,zbe]
       ·have hNmd:(N==2147483647)=false:=by rw [yf];exact hNm
        rw [yh (by rintro (h|h);cases h;exact hNm h.1)] at HL
        clear hNm
        go_wp2
        refine yi (zaa rfl _ _ w.heap.size 27 _ (0,0) _ rfl (zak _ (set4 HBX.out _ _ _ _)) Tryz.underlying27 rfl zao _ rfl) rfl ⟨?_,(zad HB0.out (yp _) _ _ _ _).alloc (by simpa using Nat.le_of_lt hwlt) _⟩
        rw [HL.out]
        simp [valC,zbe]
      ·rw [yg (.inl rfl)] at HL
       go_wp2
       refine yi (zaa rfl _ _ w.heap.size 27 _ (0,0) _ rfl (set4 HBX.out _ _ _ _) Tryz.underlying27 rfl zao _ rfl) rfl ⟨?_,zad HB0.out (yp _) _ _ _ _⟩
       rw [HL.out]
       rfl
set_option maxHeartbeats 16000000 in
theorem rparse_plus (s:ByteArray) (w:World) (hs:s.size<=400000) (h0:0<s.size) (hc:PlainAid.bt s 0=43) :
  Calls Tryz.prog 127 #[.string s] w (zbr (zaP (bl s)) w):=by
 have hbx:(w.alloc (.cells #[.int .i64 0,.int .i64 0,.string ⟨#[]⟩,.slice none 0 0] 27)).heap[w.heap.size]?=some (.cells #[.int .i64 0,.int .i64 0,.string ⟨#[]⟩,.slice none 0 0] 27 (0,0)):=zac _ rfl
 have hB0:=zam w (.cells #[.int .i64 0,.int .i64 0,.string ⟨#[]⟩,.slice none 0 0] 27)
 have HBX:=yb hbx
 have HB0:=yb hB0
 obtain ⟨V,hV⟩:∃V,V=zaP (bl s):=⟨_,rfl⟩
 rw [<-hV]
 have HV:=yb hV
 clear hV hbx hB0
 ·have hgb:=PlainAid.get_bt s
  have hx:(s[0].toNat:Int)=PlainAid.bt s 0:=hgb 0 h0
  have HS:=yb (show V=zbb 1 ((bl s).drop 1) by
   have hb:=zez s 0 h0
   have a1:s[0]=43:=UInt8.toNat_inj.1 (Int.ofNat_inj.1 (hx.trans hc))
   rw [List.drop_zero] at hb
   rw [HV.out,zaP]
   unfold zc7 zc6
   rw [hb,a1];rfl)
  clear hx
  go_enter Tryz.func127,Tryz.ntmps127
  go_wp2
  generalize w.alloc (.cells #[.int .i64 0,.int .i64 0,.string ⟨#[]⟩,.slice none 0 0] 27)=W at *
  go_loop [5,6,7,8,9,10] (fun n p d t o i=>∃(K:Nat) (N P D T:Int) (ov:Bool),1<=K/\K<=s.size/\n=.int .i64 N/\p=.int .i64 P/\d=.int .i64 D/\t=.int .i64 T/\o=.bool ov/\i=.int .i64 K/\0<=N/\N<=21474836479/\(ov=false->N<=2147483647)/\0<=P/\P<=999999/\0<=D/\D<=K/\Hid (St ((bl s).drop 1) 1 K N P D T ov))
   (fun _ _ _ _ _ i=>s.size-(intOf i).toNat)
  case atStart=>exact ⟨1,0,0,0,-1,false,yp _,by omega,rfl,rfl,rfl,rfl,rfl,rfl,by omega,by omega,fun _=>by omega,by omega,by omega,by omega,by omega,yb (.inl ⟨rfl,rfl,by omega,PA.nil⟩)⟩
  case round =>
   obtain ⟨K,N,P,D,T,ov,hK0,hK1,rfl,rfl,rfl,rfl,rfl,rfl,hN0,hN1,hNo,hP0,hP1,hD0,hD1,HST⟩:=hrel
   by_cases hlt:K<s.size
   ·have hgb:=PlainAid.get_bt s
    have hx:(s[K].toNat:Int)=PlainAid.bt s K:=hgb K hlt
    have HTK:=yb (at_take s 1 K hlt hK0)
    have HSP:=yb (zhd s 1 K hlt hK0)
    have hx0:=PlainAid.bt_nonneg s K
    have hx1:=PlainAid.bt_le s K
    have HX:=yb hx
    clear hx
    rcases HST.out with ⟨rfl,rfl,hD,hA⟩|⟨i,rfl,hi,hD,hB⟩
    ·have HA:=yb hA
     have HD:=yb hD
     clear hA hD HST
     by_cases h46:PlainAid.bt s K=46
     ·have HB:=yb (show PB (((bl s).drop 1).take (K+1-1)) (K-1) N 0 ov by
       rw [HTK.out,show s[K]=46 from UInt8.toNat_inj.1 (by have:=HX.out;rw [h46] at this;exact Int.ofNat_inj.1 this)]
       have:=HA.out.point
       rwa [show (((bl s).drop 1).take (K-1)).length=K-1 from by rw [List.length_take,ym,zaG];omega] at this)
      have h46d:(PlainAid.bt s K==46)=true:=by rw [beq_iff_eq];exact h46
      clear h46
      go_wp2
      go_round
      case rel=>exact ⟨K+1,N,0,D,K,ov,by omega,by omega,rfl,rfl,rfl,rfl,rfl,by go_num,hN0,hN1,hNo,by omega,by omega,hD0,by omega,yb (.inr ⟨K-1,by omega,by omega,by have:=HD.out;omega,HB.out⟩)⟩
      case measure=>simp [intOf];omega
     ·have h46d:(PlainAid.bt s K==46)=false:=by rw [yf];exact h46
      have HNE:=yb (show s[K]≠46 from fun e=>h46 (by rw [<-HX.out,e];rfl))
      clear h46
      by_cases h48:48<=PlainAid.bt s K
      ·by_cases h57:PlainAid.bt s K<=57
       ·have HDG:=yb (show isDg s[K]=true by rw [za9];have:=HX.out;omega)
        have HDV:=yb (show ((dgV s[K]:Nat):Int)=PlainAid.bt s K-48 by rw [zdb HDG.out,HX.out])
        have h48d:decide (48<=PlainAid.bt s K)=true:=by simpa using h48
        have h57d:decide (PlainAid.bt s K<=57)=true:=by simpa using h57
        cases ov
        ·have hN2:=hNo rfl
         by_cases hM:2147483647<10*N+PlainAid.bt s K-48
         ·have HA2:=yb (show PA (((bl s).drop 1).take (K+1-1)) (10*N+PlainAid.bt s K-48) true by
           rw [HTK.out];exact HA.out.more HDG.out _ (by have:=HDV.out;omega) _ (by rw [eq_comm,decide_eq_true_iff];exact hM))
          go_wp2
          go_round
          case rel=>exact ⟨K+1,10*N+PlainAid.bt s K-48,0,D+1,-1,true,by omega,by omega,rfl,rfl,rfl,rfl,rfl,by go_num,by omega,by omega,(fun h=>by cases h),by omega,by omega,by omega,by omega,yb (.inl ⟨rfl,rfl,by have:=HD.out;omega,HA2.out⟩)⟩
          case measure=>simp [intOf];omega
         ·have HA2:=yb (show PA (((bl s).drop 1).take (K+1-1)) (10*N+PlainAid.bt s K-48) false by
           rw [HTK.out];exact HA.out.more HDG.out _ (by have:=HDV.out;omega) _ (by rw [eq_comm,decide_eq_false_iff_not];exact hM))
          have hMd:decide (2147483647<10*N+PlainAid.bt s K-48)=false:=by simpa using hM
          have hM2:10*N+PlainAid.bt s K-48<=2147483647:=by omega
          clear hM
          go_wp2
          go_round
          case rel=>exact ⟨K+1,10*N+PlainAid.bt s K-48,0,D+1,-1,false,by omega,by omega,rfl,rfl,rfl,rfl,rfl,by go_num,by omega,by omega,(fun _=>hM2),by omega,by omega,by omega,by omega,yb (.inl ⟨rfl,rfl,by have:=HD.out;omega,HA2.out⟩)⟩
          case measure=>simp [intOf];omega
        ·have HA2:=yb (show PA (((bl s).drop 1).take (K+1-1)) N true by rw [HTK.out];exact HA.out.over HDG.out)
         go_wp2
         go_round
         case rel=>exact ⟨K+1,N,0,D+1,-1,true,by omega,by omega,rfl,rfl,rfl,rfl,rfl,by go_num,hN0,hN1,hNo,by omega,by omega,by omega,by omega,yb (.inl ⟨rfl,rfl,by have:=HD.out;omega,HA2.out⟩)⟩
         case measure=>simp [intOf];omega
       ·have HL:=yb (show V=(0,0,11) by
         rw [HS.out,HSP.out];exact zbS _ _ _ _ HA.out.dg HNE.out (by rw [zbB];have:=HX.out;omega))
        have h48d:decide (48<=PlainAid.bt s K)=true:=by simpa using h48
        have h57d:decide (PlainAid.bt s K<=57)=false:=by simpa using h57
        obtain ⟨⟨k0,k1,k2,k3⟩,f0,f1,f2,f3⟩:=zaf HBX.out
        go_wp2
        refine yi (zaa rfl _ _ w.heap.size 27 _ (0,0) _ rfl (set4 HBX.out _ _ _ _) Tryz.underlying27 rfl zao _ rfl) rfl ⟨?_,zad HB0.out (yp _) _ _ _ _⟩
        rw [HL.out]
        rfl
      ·have HL:=yb (show V=(0,0,11) by
        rw [HS.out,HSP.out];exact zbS _ _ _ _ HA.out.dg HNE.out (by rw [zbB];have:=HX.out;omega))
       have h48d:decide (48<=PlainAid.bt s K)=false:=by simpa using h48
       obtain ⟨⟨k0,k1,k2,k3⟩,f0,f1,f2,f3⟩:=zaf HBX.out
       go_wp2
       refine yi (zaa rfl _ _ w.heap.size 27 _ (0,0) _ rfl (set4 HBX.out _ _ _ _) Tryz.underlying27 rfl zao _ rfl) rfl ⟨?_,zad HB0.out (yp _) _ _ _ _⟩
       rw [HL.out]
       rfl
    ·have HB:=yb hB
     have HD:=yb hD
     clear hB hD HST
     have hpt:decide ((1:Int)+(i:Int)<0)=false:=ye (by omega)
     have hpt2:decide ((i:Int)<0)=false:=ye (by omega)
     have hpt3:0<=(1:Int)+(i:Int):=by omega
     by_cases h48:48<=PlainAid.bt s K
     ·have h48d:decide (48<=PlainAid.bt s K)=true:=by simpa using h48
      have h46d:(PlainAid.bt s K==46)=false:=by rw [yf];omega
      by_cases h57:PlainAid.bt s K<=57
      ·have h57d:decide (PlainAid.bt s K<=57)=true:=by simpa using h57
       have HDG:=yb (show isDg s[K]=true by rw [za9];have:=HX.out;omega)
       go_wp2
       go_loop [11,12] (fun b j=>∃(J:Nat) (B:Int),1<=J/\J<=7/\J<=K-1-i/\b=.int .i64 B/\j=.int .i64 J/\0<=B/\B<=100000/\Hid (B=(100000 / 10 ^ (J-1):Nat))) (fun _ j=>7-(intOf j).toNat)
       case atStart=>exact ⟨1,100000,by omega,by omega,by omega,rfl,rfl,by omega,by omega,yb rfl⟩
       case round =>
        obtain ⟨J,B,hJ1,hJ7,hJL,rfl,rfl,hB0,hB1,HBJ⟩:=hrel
        by_cases hJK:(J:Int)<(K:Int)-(1+(i:Int))
        ·have hJKd:decide ((J:Int)<(K:Int)-(1+(i:Int)))=true:=by simpa using hJK
         by_cases hJ7b:J<7
         ·have hJ7d:decide ((J:Int)<7)=true:=by simp;omega
          have HBN:=yb (show B / 10=((100000 / 10 ^ (J+1-1):Nat):Int) by
           rw [HBJ.out,show J+1-1=(J-1)+1 from by omega,Nat.pow_succ,<-Nat.div_div_eq_div_mul];omega)
          go_wp2
          go_round
          case rel=>exact ⟨J+1,B / 10,by omega,by omega,by omega,rfl,by go_num,by omega,by omega,HBN⟩
          case measure=>simp [intOf];omega
         ·have hJ7d:decide ((J:Int)<7)=false:=ye (by omega)
          have hz0:0<=B*(PlainAid.bt s K-48):=Int.mul_nonneg hB0 (by omega)
          have hz1:B*(PlainAid.bt s K-48)<=100000*9:=Int.mul_le_mul hB1 (by omega) (by omega) (by omega)
          have HQ:=yb (show PB (((bl s).drop 1).take (K+1-1)) i N (P+B*(PlainAid.bt s K-48)) ov by
           rw [HTK.out]
           refine HB.out.more HDG.out (100000 / 10 ^ (J-1)) ?_ _ (by rw [HBJ.out,HX.out])
           rw [List.length_take,ym,zaG]
           congr 3
           omega)
          have hq:=HQ.out.bd
          have hq0:=hq.1
          have hq1:=hq.2
          clear hq
          have hwr:IntKind.i64.wrap (B*(PlainAid.bt s K-48))=B*(PlainAid.bt s K-48):=IntWalk.i64_in _ (by omega)
          clear hz1
          go_wp2
          go_round
          case rel=>exact ⟨K+1,N,P+B*(PlainAid.bt s K-48),D+1,_,ov,by omega,by omega,rfl,rfl,rfl,rfl,rfl,by go_num,hN0,hN1,hNo,hq0,hq1,by omega,by omega,yb (.inr ⟨i,rfl,by omega,by have:=HD.out;omega,HQ.out⟩)⟩
          case measure=>simp [intOf];omega
        ·have hJKd:decide ((J:Int)<(K:Int)-(1+(i:Int)))=false:=by simpa using hJK
         have hz0:0<=B*(PlainAid.bt s K-48):=Int.mul_nonneg hB0 (by omega)
         have hz1:B*(PlainAid.bt s K-48)<=100000*9:=Int.mul_le_mul hB1 (by omega) (by omega) (by omega)
         have HQ:=yb (show PB (((bl s).drop 1).take (K+1-1)) i N (P+B*(PlainAid.bt s K-48)) ov by
          rw [HTK.out]
          refine HB.out.more HDG.out (100000 / 10 ^ (J-1)) ?_ _ (by rw [HBJ.out,HX.out])
          rw [List.length_take,ym,zaG]
          congr 3
          omega)
         have hq:=HQ.out.bd
         have hq0:=hq.1
         have hq1:=hq.2
         clear hq
         have hwr:IntKind.i64.wrap (B*(PlainAid.bt s K-48))=B*(PlainAid.bt s K-48):=IntWalk.i64_in _ (by omega)
         clear hz1
         go_wp2
         go_round
         case rel=>exact ⟨K+1,N,P+B*(PlainAid.bt s K-48),D+1,_,ov,by omega,by omega,rfl,rfl,rfl,rfl,rfl,by go_num,hN0,hN1,hNo,hq0,hq1,by omega,by omega,yb (.inr ⟨i,rfl,by omega,by have:=HD.out;omega,HQ.out⟩)⟩
         case measure=>simp [intOf];omega
      ·have HL:=yb (show V=(0,0,11) by
        rw [HS.out,HSP.out];exact HB.out.bad _ _ _ (by rw [zbB];have:=HX.out;omega))
       have h57d:decide (PlainAid.bt s K<=57)=false:=by simpa using h57
       obtain ⟨⟨k0,k1,k2,k3⟩,f0,f1,f2,f3⟩:=zaf HBX.out
       go_wp2
       refine yi (zaa rfl _ _ w.heap.size 27 _ (0,0) _ rfl (set4 HBX.out _ _ _ _) Tryz.underlying27 rfl zao _ rfl) rfl ⟨?_,zad HB0.out (yp _) _ _ _ _⟩
       rw [HL.out]
       rfl
     ·have HL:=yb (show V=(0,0,11) by
       rw [HS.out,HSP.out];exact HB.out.bad _ _ _ (by rw [zbB];have:=HX.out;omega))
      have h48d:decide (48<=PlainAid.bt s K)=false:=by simpa using h48
      obtain ⟨⟨k0,k1,k2,k3⟩,f0,f1,f2,f3⟩:=zaf HBX.out
      by_cases h46:PlainAid.bt s K=46
      ·have h46d:(PlainAid.bt s K==46)=true:=by rw [beq_iff_eq];exact h46
       clear h46
       go_wp2
       refine yi (zaa rfl _ _ w.heap.size 27 _ (0,0) _ rfl (set4 HBX.out _ _ _ _) Tryz.underlying27 rfl zao _ rfl) rfl ⟨?_,zad HB0.out (yp _) _ _ _ _⟩
       rw [HL.out]
       rfl
      ·have h46d:(PlainAid.bt s K==46)=false:=by rw [yf];exact h46
       clear h46
       go_wp2
       refine yi (zaa rfl _ _ w.heap.size 27 _ (0,0) _ rfl (set4 HBX.out _ _ _ _) Tryz.underlying27 rfl zao _ rfl) rfl ⟨?_,zad HB0.out (yp _) _ _ _ _⟩
       rw [HL.out]
       rfl
   ·obtain rfl:K=s.size:=by omega
    have HTK:=yb (show ((bl s).drop 1).take (s.size-1)=(bl s).drop 1 by rw [List.take_of_length_le (by rw [ym,zaG];omega)])
    have HLEN:=yb (show ((bl s).drop 1).length=s.size-1 by rw [ym,zaG])
    have hwlt:=(Array.getElem?_eq_some_iff.1 HBX.out).1
    obtain ⟨⟨k0,k1,k2,k3⟩,f0,f1,f2,f3⟩:=zaf HBX.out
    rcases HST.out with ⟨rfl,rfl,hD,hA⟩|⟨i,rfl,hi,hD,hB⟩
    ·rw [HTK.out] at hA
     have HL:=yb (show V=if s.size-1=0 then (0,0,11) else if ov=true then (0,0,5) else (2,1*N,0) by rw [HS.out,hA.fin,HLEN.out])
     clear hA HST
     by_cases hz:s.size-1=0
     ·rw [yg hz] at HL
      have hDz:(D==0)=true:=by rw [beq_iff_eq];omega
      clear hD hz
      go_wp2
      refine yi (zaa rfl _ _ w.heap.size 27 _ (0,0) _ rfl (set4 HBX.out _ _ _ _) Tryz.underlying27 rfl zao _ rfl) rfl ⟨?_,zad HB0.out (yp _) _ _ _ _⟩
      rw [HL.out]
      rfl
     ·rw [yh hz] at HL
      have hDz:(D==0)=false:=by rw [yf];omega
      clear hD hz
      cases ov
      ·rw [yh (by decide)] at HL
       have hNo2:=hNo rfl
       go_wp2
       refine yi (zaa rfl _ _ w.heap.size 27 _ (0,0) _ rfl (zak _ (set4 HBX.out _ _ _ _)) Tryz.underlying27 rfl zao _ rfl) rfl ⟨?_,(zad HB0.out (yp _) _ _ _ _).alloc (by simpa using Nat.le_of_lt hwlt) _⟩
       rw [HL.out]
       simp [valC,zbe]
      ·rw [yg rfl] at HL
       go_wp2
       refine yi (zaa rfl _ _ w.heap.size 27 _ (0,0) _ rfl (set4 HBX.out _ _ _ _) Tryz.underlying27 rfl zao _ rfl) rfl ⟨?_,zad HB0.out (yp _) _ _ _ _⟩
       rw [HL.out]
       rfl
    ·rw [HTK.out] at hB
     have HL:=yb (show V=if s.size-1=1 then (0,0,11) else if ov=true\/(N=2147483647/\0<P) then (0,0,5) else (3,1*(1000000*N+P),0) by rw [HS.out,hB.fin,HLEN.out])
     clear hB HST
     have hpt:decide (0<=(1:Int)+(i:Int))=true:=yd (by omega)
     have hpt2:decide (0<=(i:Int))=true:=yd (by omega)
     have hpt3:0<=(1:Int)+(i:Int):=by omega
     by_cases hz:s.size-1=1
     ·rw [yg hz] at HL
      have hDz:(D==0)=true:=by rw [beq_iff_eq];omega
      clear hD hz hi
      go_wp2
      refine yi (zaa rfl _ _ w.heap.size 27 _ (0,0) _ rfl (set4 HBX.out _ _ _ _) Tryz.underlying27 rfl zao _ rfl) rfl ⟨?_,zad HB0.out (yp _) _ _ _ _⟩
      rw [HL.out]
      rfl
     ·rw [yh hz] at HL
      have hDz:(D==0)=false:=by rw [yf];omega
      clear hD hz hi
      cases ov
      ·have hNo2:=hNo rfl
       by_cases hNm:N=2147483647
       ·have hNmd:(N==2147483647)=true:=by rw [beq_iff_eq];exact hNm
        by_cases hPp:0<P
        ·have hPd:decide (0<P)=true:=by simpa using hPp
         rw [yg (.inr ⟨hNm,hPp⟩)] at HL
         clear hNm
         go_wp2
         refine yi (zaa rfl _ _ w.heap.size 27 _ (0,0) _ rfl (set4 HBX.out _ _ _ _) Tryz.underlying27 rfl zao _ rfl) rfl ⟨?_,zad HB0.out (yp _) _ _ _ _⟩
         rw [HL.out]
         rfl
        ·have hPd:decide (0<P)=false:=by simpa using hPp
         rw [yh (by rintro (h|h);cases h;exact hPp h.2)] at HL
         clear hNm
         go_wp2
         refine yi (zaa rfl _ _ w.heap.size 27 _ (0,0) _ rfl (zak _ (set4 HBX.out _ _ _ _)) Tryz.underlying27 rfl zao _ rfl) rfl ⟨?_,(zad HB0.out (yp _) _ _ _ _).alloc (by simpa using Nat.le_of_lt hwlt) _⟩
         rw [HL.out]
         simp [valC,zbe]
       ·have hNmd:(N==2147483647)=false:=by rw [yf];exact hNm
        rw [yh (by rintro (h|h);cases h;exact hNm h.1)] at HL
        clear hNm
        go_wp2
        refine yi (zaa rfl _ _ w.heap.size 27 _ (0,0) _ rfl (zak _ (set4 HBX.out _ _ _ _)) Tryz.underlying27 rfl zao _ rfl) rfl ⟨?_,(zad HB0.out (yp _) _ _ _ _).alloc (by simpa using Nat.le_of_lt hwlt) _⟩
        rw [HL.out]
        simp [valC,zbe]
      ·rw [yg (.inl rfl)] at HL
       go_wp2
       refine yi (zaa rfl _ _ w.heap.size 27 _ (0,0) _ rfl (set4 HBX.out _ _ _ _) Tryz.underlying27 rfl zao _ rfl) rfl ⟨?_,zad HB0.out (yp _) _ _ _ _⟩
       rw [HL.out]
       rfl
set_option maxHeartbeats 16000000 in
theorem rparse_minus (s:ByteArray) (w:World) (hs:s.size<=400000) (h0:0<s.size) (hc:PlainAid.bt s 0=45) :
  Calls Tryz.prog 127 #[.string s] w (zbr (zaP (bl s)) w):=by
 have hbx:(w.alloc (.cells #[.int .i64 0,.int .i64 0,.string ⟨#[]⟩,.slice none 0 0] 27)).heap[w.heap.size]?=some (.cells #[.int .i64 0,.int .i64 0,.string ⟨#[]⟩,.slice none 0 0] 27 (0,0)):=zac _ rfl
 have hB0:=zam w (.cells #[.int .i64 0,.int .i64 0,.string ⟨#[]⟩,.slice none 0 0] 27)
 have HBX:=yb hbx
 have HB0:=yb hB0
 obtain ⟨V,hV⟩:∃V,V=zaP (bl s):=⟨_,rfl⟩
 rw [<-hV]
 have HV:=yb hV
 clear hV hbx hB0
 ·have hgb:=PlainAid.get_bt s
  have hx:(s[0].toNat:Int)=PlainAid.bt s 0:=hgb 0 h0
  have HS:=yb (show V=zbb (-1) ((bl s).drop 1) by
   have hb:=zez s 0 h0
   have a1:s[0]=45:=UInt8.toNat_inj.1 (Int.ofNat_inj.1 (hx.trans hc))
   rw [List.drop_zero] at hb
   rw [HV.out,zaP]
   unfold zc7 zc6
   rw [hb,a1];rfl)
  clear hx
  go_enter Tryz.func127,Tryz.ntmps127
  go_wp2
  generalize w.alloc (.cells #[.int .i64 0,.int .i64 0,.string ⟨#[]⟩,.slice none 0 0] 27)=W at *
  go_loop [5,6,7,8,9,10] (fun n p d t o i=>∃(K:Nat) (N P D T:Int) (ov:Bool),1<=K/\K<=s.size/\n=.int .i64 N/\p=.int .i64 P/\d=.int .i64 D/\t=.int .i64 T/\o=.bool ov/\i=.int .i64 K/\0<=N/\N<=21474836479/\(ov=false->N<=2147483647)/\0<=P/\P<=999999/\0<=D/\D<=K/\Hid (St ((bl s).drop 1) 1 K N P D T ov))
   (fun _ _ _ _ _ i=>s.size-(intOf i).toNat)
  case atStart=>exact ⟨1,0,0,0,-1,false,yp _,by omega,rfl,rfl,rfl,rfl,rfl,rfl,by omega,by omega,fun _=>by omega,by omega,by omega,by omega,by omega,yb (.inl ⟨rfl,rfl,by omega,PA.nil⟩)⟩
  case round =>
   obtain ⟨K,N,P,D,T,ov,hK0,hK1,rfl,rfl,rfl,rfl,rfl,rfl,hN0,hN1,hNo,hP0,hP1,hD0,hD1,HST⟩:=hrel
   by_cases hlt:K<s.size
   ·have hgb:=PlainAid.get_bt s
    have hx:(s[K].toNat:Int)=PlainAid.bt s K:=hgb K hlt
    have HTK:=yb (at_take s 1 K hlt hK0)
    have HSP:=yb (zhd s 1 K hlt hK0)
    have hx0:=PlainAid.bt_nonneg s K
    have hx1:=PlainAid.bt_le s K
    have HX:=yb hx
    clear hx
    rcases HST.out with ⟨rfl,rfl,hD,hA⟩|⟨i,rfl,hi,hD,hB⟩
    ·have HA:=yb hA
     have HD:=yb hD
     clear hA hD HST
     by_cases h46:PlainAid.bt s K=46
     ·have HB:=yb (show PB (((bl s).drop 1).take (K+1-1)) (K-1) N 0 ov by
       rw [HTK.out,show s[K]=46 from UInt8.toNat_inj.1 (by have:=HX.out;rw [h46] at this;exact Int.ofNat_inj.1 this)]
       have:=HA.out.point
       rwa [show (((bl s).drop 1).take (K-1)).length=K-1 from by rw [List.length_take,ym,zaG];omega] at this)
      have h46d:(PlainAid.bt s K==46)=true:=by rw [beq_iff_eq];exact h46
      clear h46
      go_wp2
      go_round
      case rel=>exact ⟨K+1,N,0,D,K,ov,by omega,by omega,rfl,rfl,rfl,rfl,rfl,by go_num,hN0,hN1,hNo,by omega,by omega,hD0,by omega,yb (.inr ⟨K-1,by omega,by omega,by have:=HD.out;omega,HB.out⟩)⟩
      case measure=>simp [intOf];omega
     ·have h46d:(PlainAid.bt s K==46)=false:=by rw [yf];exact h46
      have HNE:=yb (show s[K]≠46 from fun e=>h46 (by rw [<-HX.out,e];rfl))
      clear h46
      by_cases h48:48<=PlainAid.bt s K
      ·by_cases h57:PlainAid.bt s K<=57
       ·have HDG:=yb (show isDg s[K]=true by rw [za9];have:=HX.out;omega)
        have HDV:=yb (show ((dgV s[K]:Nat):Int)=PlainAid.bt s K-48 by rw [zdb HDG.out,HX.out])
        have h48d:decide (48<=PlainAid.bt s K)=true:=by simpa using h48
        have h57d:decide (PlainAid.bt s K<=57)=true:=by simpa using h57
        cases ov
        ·have hN2:=hNo rfl
         by_cases hM:2147483647<10*N+PlainAid.bt s K-48
         ·have HA2:=yb (show PA (((bl s).drop 1).take (K+1-1)) (10*N+PlainAid.bt s K-48) true by
           rw [HTK.out];exact HA.out.more HDG.out _ (by have:=HDV.out;omega) _ (by rw [eq_comm,decide_eq_true_iff];exact hM))
          go_wp2
          go_round
          case rel=>exact ⟨K+1,10*N+PlainAid.bt s K-48,0,D+1,-1,true,by omega,by omega,rfl,rfl,rfl,rfl,rfl,by go_num,by omega,by omega,(fun h=>by cases h),by omega,by omega,by omega,by omega,yb (.inl ⟨rfl,rfl,by have:=HD.out;omega,HA2.out⟩)⟩
          case measure=>simp [intOf];omega
         ·have HA2:=yb (show PA (((bl s).drop 1).take (K+1-1)) (10*N+PlainAid.bt s K-48) false by
           rw [HTK.out];exact HA.out.more HDG.out _ (by have:=HDV.out;omega) _ (by rw [eq_comm,decide_eq_false_iff_not];exact hM))
          have hMd:decide (2147483647<10*N+PlainAid.bt s K-48)=false:=by simpa using hM
          have hM2:10*N+PlainAid.bt s K-48<=2147483647:=by omega
          clear hM
          go_wp2
          go_round
          case rel=>exact ⟨K+1,10*N+PlainAid.bt s K-48,0,D+1,-1,false,by omega,by omega,rfl,rfl,rfl,rfl,rfl,by go_num,by omega,by omega,(fun _=>hM2),by omega,by omega,by omega,by omega,yb (.inl ⟨rfl,rfl,by have:=HD.out;omega,HA2.out⟩)⟩
          case measure=>simp [intOf];omega
        ·have HA2:=yb (show PA (((bl s).drop 1).take (K+1-1)) N true by rw [HTK.out];exact HA.out.over HDG.out)
         go_wp2
         go_round
         case rel=>exact ⟨K+1,N,0,D+1,-1,true,by omega,by omega,rfl,rfl,rfl,rfl,rfl,by go_num,hN0,hN1,hNo,by omega,by omega,by omega,by omega,yb (.inl ⟨rfl,rfl,by have:=HD.out;omega,HA2.out⟩)⟩
         case measure=>simp [intOf];omega
       ·have HL:=yb (show V=(0,0,11) by
         rw [HS.out,HSP.out];exact zbS _ _ _ _ HA.out.dg HNE.out (by rw [zbB];have:=HX.out;omega))
        have h48d:decide (48<=PlainAid.bt s K)=true:=by simpa using h48
        have h57d:decide (PlainAid.bt s K<=57)=false:=by simpa using h57
        obtain ⟨⟨k0,k1,k2,k3⟩,f0,f1,f2,f3⟩:=zaf HBX.out
        go_wp2
        refine yi (zaa rfl _ _ w.heap.size 27 _ (0,0) _ rfl (set4 HBX.out _ _ _ _) Tryz.underlying27 rfl zao _ rfl) rfl ⟨?_,zad HB0.out (yp _) _ _ _ _⟩
        rw [HL.out]
        rfl
      ·have HL:=yb (show V=(0,0,11) by
        rw [HS.out,HSP.out];exact zbS _ _ _ _ HA.out.dg HNE.out (by rw [zbB];have:=HX.out;omega))
       have h48d:decide (48<=PlainAid.bt s K)=false:=by simpa using h48
       obtain ⟨⟨k0,k1,k2,k3⟩,f0,f1,f2,f3⟩:=zaf HBX.out
       go_wp2
       refine yi (zaa rfl _ _ w.heap.size 27 _ (0,0) _ rfl (set4 HBX.out _ _ _ _) Tryz.underlying27 rfl zao _ rfl) rfl ⟨?_,zad HB0.out (yp _) _ _ _ _⟩
       rw [HL.out]
       rfl
    ·have HB:=yb hB
     have HD:=yb hD
     clear hB hD HST
     have hpt:decide ((1:Int)+(i:Int)<0)=false:=ye (by omega)
     have hpt2:decide ((i:Int)<0)=false:=ye (by omega)
     have hpt3:0<=(1:Int)+(i:Int):=by omega
     by_cases h48:48<=PlainAid.bt s K
     ·have h48d:decide (48<=PlainAid.bt s K)=true:=by simpa using h48
      have h46d:(PlainAid.bt s K==46)=false:=by rw [yf];omega
      by_cases h57:PlainAid.bt s K<=57
      ·have h57d:decide (PlainAid.bt s K<=57)=true:=by simpa using h57
       have HDG:=yb (show isDg s[K]=true by rw [za9];have:=HX.out;omega)
       go_wp2
       go_loop [11,12] (fun b j=>∃(J:Nat) (B:Int),1<=J/\J<=7/\J<=K-1-i/\b=.int .i64 B/\j=.int .i64 J/\0<=B/\B<=100000/\Hid (B=(100000 / 10 ^ (J-1):Nat))) (fun _ j=>7-(intOf j).toNat)
       case atStart=>exact ⟨1,100000,by omega,by omega,by omega,rfl,rfl,by omega,by omega,yb rfl⟩
       case round =>
        obtain ⟨J,B,hJ1,hJ7,hJL,rfl,rfl,hB0,hB1,HBJ⟩:=hrel
        by_cases hJK:(J:Int)<(K:Int)-(1+(i:Int))
        ·have hJKd:decide ((J:Int)<(K:Int)-(1+(i:Int)))=true:=by simpa using hJK
         by_cases hJ7b:J<7
         ·have hJ7d:decide ((J:Int)<7)=true:=by simp;omega
          have HBN:=yb (show B / 10=((100000 / 10 ^ (J+1-1):Nat):Int) by
           rw [HBJ.out,show J+1-1=(J-1)+1 from by omega,Nat.pow_succ,<-Nat.div_div_eq_div_mul];omega)
          go_wp2
          go_round
          case rel=>exact ⟨J+1,B / 10,by omega,by omega,by omega,rfl,by go_num,by omega,by omega,HBN⟩
          case measure=>simp [intOf];omega
         ·have hJ7d:decide ((J:Int)<7)=false:=ye (by omega)
          have hz0:0<=B*(PlainAid.bt s K-48):=Int.mul_nonneg hB0 (by omega)
          have hz1:B*(PlainAid.bt s K-48)<=100000*9:=Int.mul_le_mul hB1 (by omega) (by omega) (by omega)
          have HQ:=yb (show PB (((bl s).drop 1).take (K+1-1)) i N (P+B*(PlainAid.bt s K-48)) ov by
           rw [HTK.out]
           refine HB.out.more HDG.out (100000 / 10 ^ (J-1)) ?_ _ (by rw [HBJ.out,HX.out])
           rw [List.length_take,ym,zaG]
           congr 3
           omega)
          have hq:=HQ.out.bd
          have hq0:=hq.1
          have hq1:=hq.2
          clear hq
          have hwr:IntKind.i64.wrap (B*(PlainAid.bt s K-48))=B*(PlainAid.bt s K-48):=IntWalk.i64_in _ (by omega)
          clear hz1
          go_wp2
          go_round
          case rel=>exact ⟨K+1,N,P+B*(PlainAid.bt s K-48),D+1,_,ov,by omega,by omega,rfl,rfl,rfl,rfl,rfl,by go_num,hN0,hN1,hNo,hq0,hq1,by omega,by omega,yb (.inr ⟨i,rfl,by omega,by have:=HD.out;omega,HQ.out⟩)⟩
          case measure=>simp [intOf];omega
        ·have hJKd:decide ((J:Int)<(K:Int)-(1+(i:Int)))=false:=by simpa using hJK
         have hz0:0<=B*(PlainAid.bt s K-48):=Int.mul_nonneg hB0 (by omega)
         have hz1:B*(PlainAid.bt s K-48)<=100000*9:=Int.mul_le_mul hB1 (by omega) (by omega) (by omega)
         have HQ:=yb (show PB (((bl s).drop 1).take (K+1-1)) i N (P+B*(PlainAid.bt s K-48)) ov by
          rw [HTK.out]
          refine HB.out.more HDG.out (100000 / 10 ^ (J-1)) ?_ _ (by rw [HBJ.out,HX.out])
          rw [List.length_take,ym,zaG]
          congr 3
          omega)
         have hq:=HQ.out.bd
         have hq0:=hq.1
         have hq1:=hq.2
         clear hq
         have hwr:IntKind.i64.wrap (B*(PlainAid.bt s K-48))=B*(PlainAid.bt s K-48):=IntWalk.i64_in _ (by omega)
         clear hz1
         go_wp2
         go_round
         case rel=>exact ⟨K+1,N,P+B*(PlainAid.bt s K-48),D+1,_,ov,by omega,by omega,rfl,rfl,rfl,rfl,rfl,by go_num,hN0,hN1,hNo,hq0,hq1,by omega,by omega,yb (.inr ⟨i,rfl,by omega,by have:=HD.out;omega,HQ.out⟩)⟩
         case measure=>simp [intOf];omega
      ·have HL:=yb (show V=(0,0,11) by
        rw [HS.out,HSP.out];exact HB.out.bad _ _ _ (by rw [zbB];have:=HX.out;omega))
       have h57d:decide (PlainAid.bt s K<=57)=false:=by simpa using h57
       obtain ⟨⟨k0,k1,k2,k3⟩,f0,f1,f2,f3⟩:=zaf HBX.out
       go_wp2
       refine yi (zaa rfl _ _ w.heap.size 27 _ (0,0) _ rfl (set4 HBX.out _ _ _ _) Tryz.underlying27 rfl zao _ rfl) rfl ⟨?_,zad HB0.out (yp _) _ _ _ _⟩
       rw [HL.out]
       rfl
     ·have HL:=yb (show V=(0,0,11) by
       rw [HS.out,HSP.out];exact HB.out.bad _ _ _ (by rw [zbB];have:=HX.out;omega))
      have h48d:decide (48<=PlainAid.bt s K)=false:=by simpa using h48
      obtain ⟨⟨k0,k1,k2,k3⟩,f0,f1,f2,f3⟩:=zaf HBX.out
      by_cases h46:PlainAid.bt s K=46
      ·have h46d:(PlainAid.bt s K==46)=true:=by rw [beq_iff_eq];exact h46
       clear h46
       go_wp2
       refine yi (zaa rfl _ _ w.heap.size 27 _ (0,0) _ rfl (set4 HBX.out _ _ _ _) Tryz.underlying27 rfl zao _ rfl) rfl ⟨?_,zad HB0.out (yp _) _ _ _ _⟩
       rw [HL.out]
       rfl
      ·have h46d:(PlainAid.bt s K==46)=false:=by rw [yf];exact h46
       clear h46
       go_wp2
       refine yi (zaa rfl _ _ w.heap.size 27 _ (0,0) _ rfl (set4 HBX.out _ _ _ _) Tryz.underlying27 rfl zao _ rfl) rfl ⟨?_,zad HB0.out (yp _) _ _ _ _⟩
       rw [HL.out]
       rfl
   ·obtain rfl:K=s.size:=by omega
    have HTK:=yb (show ((bl s).drop 1).take (s.size-1)=(bl s).drop 1 by rw [List.take_of_length_le (by rw [ym,zaG];omega)])
    have HLEN:=yb (show ((bl s).drop 1).length=s.size-1 by rw [ym,zaG])
    have hwlt:=(Array.getElem?_eq_some_iff.1 HBX.out).1
    obtain ⟨⟨k0,k1,k2,k3⟩,f0,f1,f2,f3⟩:=zaf HBX.out
    rcases HST.out with ⟨rfl,rfl,hD,hA⟩|⟨i,rfl,hi,hD,hB⟩
    ·rw [HTK.out] at hA
     have HL:=yb (show V=if s.size-1=0 then (0,0,11) else if ov=true then (0,0,5) else (2,(-1)*N,0) by rw [HS.out,hA.fin,HLEN.out])
     clear hA HST
     by_cases hz:s.size-1=0
     ·rw [yg hz] at HL
      have hDz:(D==0)=true:=by rw [beq_iff_eq];omega
      clear hD hz
      go_wp2
      refine yi (zaa rfl _ _ w.heap.size 27 _ (0,0) _ rfl (set4 HBX.out _ _ _ _) Tryz.underlying27 rfl zao _ rfl) rfl ⟨?_,zad HB0.out (yp _) _ _ _ _⟩
      rw [HL.out]
      rfl
     ·rw [yh hz] at HL
      have hDz:(D==0)=false:=by rw [yf];omega
      clear hD hz
      cases ov
      ·rw [yh (by decide)] at HL
       have hNo2:=hNo rfl
       go_wp2
       refine yi (zaa rfl _ _ w.heap.size 27 _ (0,0) _ rfl (zak _ (set4 HBX.out _ _ _ _)) Tryz.underlying27 rfl zao _ rfl) rfl ⟨?_,(zad HB0.out (yp _) _ _ _ _).alloc (by simpa using Nat.le_of_lt hwlt) _⟩
       rw [HL.out]
       simp [valC,zbe]
      ·rw [yg rfl] at HL
       go_wp2
       refine yi (zaa rfl _ _ w.heap.size 27 _ (0,0) _ rfl (set4 HBX.out _ _ _ _) Tryz.underlying27 rfl zao _ rfl) rfl ⟨?_,zad HB0.out (yp _) _ _ _ _⟩
       rw [HL.out]
       rfl
    ·rw [HTK.out] at hB
     have HL:=yb (show V=if s.size-1=1 then (0,0,11) else if ov=true\/(N=2147483647/\0<P) then (0,0,5) else (3,(-1)*(1000000*N+P),0) by rw [HS.out,hB.fin,HLEN.out])
     clear hB HST
     have hpt:decide (0<=(1:Int)+(i:Int))=true:=yd (by omega)
     have hpt2:decide (0<=(i:Int))=true:=yd (by omega)
     have hpt3:0<=(1:Int)+(i:Int):=by omega
     by_cases hz:s.size-1=1
     ·rw [yg hz] at HL
      have hDz:(D==0)=true:=by rw [beq_iff_eq];omega
      clear hD hz hi
      go_wp2
      refine yi (zaa rfl _ _ w.heap.size 27 _ (0,0) _ rfl (set4 HBX.out _ _ _ _) Tryz.underlying27 rfl zao _ rfl) rfl ⟨?_,zad HB0.out (yp _) _ _ _ _⟩
      rw [HL.out]
      rfl
     ·rw [yh hz] at HL
      have hDz:(D==0)=false:=by rw [yf];omega
      clear hD hz hi
      cases ov
      ·have hNo2:=hNo rfl
       by_cases hNm:N=2147483647
       ·have hNmd:(N==2147483647)=true:=by rw [beq_iff_eq];exact hNm
        by_cases hPp:0<P
        ·have hPd:decide (0<P)=true:=by simpa using hPp
         rw [yg (.inr ⟨hNm,hPp⟩)] at HL
         clear hNm
         go_wp2
         refine yi (zaa rfl _ _ w.heap.size 27 _ (0,0) _ rfl (set4 HBX.out _ _ _ _) Tryz.underlying27 rfl zao _ rfl) rfl ⟨?_,zad HB0.out (yp _) _ _ _ _⟩
         rw [HL.out]
         rfl
        ·have hPd:decide (0<P)=false:=by simpa using hPp
         rw [yh (by rintro (h|h);cases h;exact hPp h.2)] at HL
         clear hNm
         go_wp2
         refine yi (zaa rfl _ _ w.heap.size 27 _ (0,0) _ rfl (zak _ (set4 HBX.out _ _ _ _)) Tryz.underlying27 rfl zao _ rfl) rfl ⟨?_,(zad HB0.out (yp _) _ _ _ _).alloc (by simpa using Nat.le_of_lt hwlt) _⟩
         rw [HL.out]
         simp [valC,zbe]
       ·have hNmd:(N==2147483647)=false:=by rw [yf];exact hNm
        rw [yh (by rintro (h|h);cases h;exact hNm h.1)] at HL
        clear hNm
        go_wp2
        refine yi (zaa rfl _ _ w.heap.size 27 _ (0,0) _ rfl (zak _ (set4 HBX.out _ _ _ _)) Tryz.underlying27 rfl zao _ rfl) rfl ⟨?_,(zad HB0.out (yp _) _ _ _ _).alloc (by simpa using Nat.le_of_lt hwlt) _⟩
        rw [HL.out]
        simp [valC,zbe]
      ·rw [yg (.inl rfl)] at HL
       go_wp2
       refine yi (zaa rfl _ _ w.heap.size 27 _ (0,0) _ rfl (set4 HBX.out _ _ _ _) Tryz.underlying27 rfl zao _ rfl) rfl ⟨?_,zad HB0.out (yp _) _ _ _ _⟩
       rw [HL.out]
       rfl
theorem rparse_empty (s:ByteArray) (w:World) (h0:s.size=0) :
  Calls Tryz.prog 127 #[.string s] w (zbr (zaP (bl s)) w):=by
 have hbx:(w.alloc (.cells #[.int .i64 0,.int .i64 0,.string ⟨#[]⟩,.slice none 0 0] 27)).heap[w.heap.size]?=some (.cells #[.int .i64 0,.int .i64 0,.string ⟨#[]⟩,.slice none 0 0] 27 (0,0)):=zac _ rfl
 have hB0:=zam w (.cells #[.int .i64 0,.int .i64 0,.string ⟨#[]⟩,.slice none 0 0] 27)
 have HBX:=yb hbx
 have HB0:=yb hB0
 obtain ⟨V,hV⟩:∃V,V=zaP (bl s):=⟨_,rfl⟩
 rw [<-hV]
 have HV:=yb hV
 clear hV hbx hB0
 have HL:=yb (show V=(0,0,11) by rw [HV.out,show bl s=[] from List.eq_nil_of_length_eq_zero (by rw [zaG];exact h0)];rfl)
 have hz:¬0<s.size:=by omega
 have hzd:decide (0<s.size)=false:=ye hz
 have hzi:decide ((0:Int)<s.size)=false:=ye (by omega)
 clear h0
 go_enter Tryz.func127,Tryz.ntmps127
 go_wp2
 generalize w.alloc (.cells #[.int .i64 0,.int .i64 0,.string ⟨#[]⟩,.slice none 0 0] 27)=W at *
 go_loop [7,10] (fun d i=>d=.int .i64 0/\i=.int .i64 0) (fun _ _=>0)
 case atStart=>exact ⟨rfl,rfl⟩
 case round =>
  obtain ⟨rfl,rfl⟩:=hrel
  obtain ⟨⟨k0,k1,k2,k3⟩,f0,f1,f2,f3⟩:=zaf HBX.out
  go_wp2
  refine yi (zaa rfl _ _ w.heap.size 27 _ (0,0) _ rfl (set4 HBX.out _ _ _ _) Tryz.underlying27 rfl zao _ rfl) rfl ⟨?_,zad HB0.out (yp _) _ _ _ _⟩
  rw [HL.out]
  rfl
theorem zbC (s:ByteArray) (w:World) (hs:s.size<=400000) :
  Calls Tryz.prog 127 #[.string s] w (zbr (zaP (bl s)) w):=by
 by_cases h0:0<s.size
 ·by_cases h1:PlainAid.bt s 0=43
  ·exact rparse_plus s w hs h0 h1
  ·by_cases h2:PlainAid.bt s 0=45
   ·exact rparse_minus s w hs h0 h2
   ·exact rparse_none s w hs h0 h1 h2
 ·exact rparse_empty s w (by omega)
structure Rx (w:World) (r n:Nat) (f:Nat) (W:World):Prop where
 blk:W.heap[r]?=some (.cells #[.int .i64 0,.int .i64 0,.int .i64 0,.int .i64 0,.int .i64 0,.string ⟨#[]⟩,.slice none 0 0,.string ⟨#[]⟩] 111 (0,0))
 no:W.heap[n]?=some (.cells #[.int .i64 0,.int .i64 f,.int .i64 f,.int .i64 0,.int .i64 0,.string ⟨#[]⟩,.slice none 0 0,.string ⟨#[]⟩] 111 (0,0))
 bel:Below w.heap.size w W
 wr:w.heap.size<=r
theorem Rx.on {w W W':World} {r n f:Nat} (h:Rx w r n f W) (hb:Below W.heap.size W W'):Rx w r n f W':=⟨zab hb h.blk,zab hb h.no,h.bel.trans (hb.mono h.bel.size),h.wr⟩
theorem Rx.alloc {w W:World} {r n f:Nat} (h:Rx w r n f W) (o:Obj):Rx w r n f (W.alloc o):=h.on (zam W o)
theorem zat {w W:World} {r:Nat} {V:Tk×Int×Int×Int} {x:Tk} {f t er:Int} (hb:Below w.heap.size w W) (hr:w.heap.size<=r) (hV:V=(x,f,t,er)) (y0 y1 y2 y3 y4 y5 y6 y7:Value) :
  zaB w V (.returned (.tuple #[.agg (tokN x f t),.int .i64 er]))
   ((((((((W.setCell ⟨r,0,none⟩ y0).setCell ⟨r,1,none⟩ y1).setCell ⟨r,2,none⟩ y2).setCell ⟨r,3,none⟩ y3).setCell ⟨r,4,none⟩ y4).setCell ⟨r,5,none⟩ y5).setCell ⟨r,6,none⟩ y6).setCell ⟨r,7,none⟩ y7):=by
 subst hV;exact ⟨rfl,za1 hb hr _ _ _ _ _ _ _ _⟩
theorem zhj {bs:List UInt8} {f:Nat} (yq:Bool) (h:f<bs.length):zbm bs f yq=if (tokV yq (bs.getD f 0) (bs.drop (f+1))).1=0 then ((tokV yq (bs.getD f 0) (bs.drop (f+1))).2.1,(f:Int),(bs.length:Int)-((tokV yq (bs.getD f 0) (bs.drop (f+1))).2.2.length:Int),0) else ({ kind:=0 },(f:Int),(f:Int),(tokV yq (bs.getD f 0) (bs.drop (f+1))).1):=zdf yq (zay h)
theorem za8 {bs:List UInt8} {f j:Nat} {yq:Bool} (h:f<bs.length) {c:UInt8} (hc:bs.getD f 0=c) {x:Tk} (ht:tokV yq c (bs.drop (f+1))=(0,x,bs.drop j)) (hj:j<=bs.length):zbm bs f yq=(x,(f:Int),(j:Int),0):=by
 rw [zhj yq h,hc,ht,yg rfl]
 simp only [ym]
 congr 3;omega
theorem zfE {bs:List UInt8} {f:Nat} {yq:Bool} (h:f<bs.length) {c:UInt8} (hc:bs.getD f 0=c) {x:Tk} {r:List UInt8} (ht:tokV yq c (bs.drop (f+1))=(0,x,r)) (hj:r.length<=bs.length):zbm bs f yq=(x,(f:Int),((bs.length-r.length:Nat):Int),0):=by
 rw [zhj yq h,hc,ht,yg rfl]
 simp only
 congr 3;omega
theorem zaZ {bs:List UInt8} {f:Nat} {yq:Bool} (h:f<bs.length) {c:UInt8} (hc:bs.getD f 0=c) {e:Int} (ht:(tokV yq c (bs.drop (f+1))).1=e) (he:e≠0):zbm bs f yq=({ kind:=0 },(f:Int),(f:Int),e):=by
 rw [zhj yq h,hc,yh (by rw [ht];exact he),ht]
theorem tokV_62 (yq:Bool) (t:List UInt8):tokV yq 62 t=match t with
   | []=>(if yq then 11 else 6,{ kind:=0 },[])
   | d::u=>if d=62 then (0,{ kind:=5 },u) else (11,{ kind:=0 },[]):=by
 unfold tokV
 rw [yh (by decide),yh (by decide),yh (by decide),yh (by decide),yg rfl]
 cases t<;>rfl
theorem tokV_60 (yq:Bool) (t:List UInt8) (h:∀u,t≠60::u):tokV yq 60 t=hexK yq (hexV [] (-1) t):=by
 have:=tokV_open ⟨none,0,t,yq⟩ 0
 rw [List.drop_zero] at this
 rw [this]
 cases t with
 | nil=>rfl
 | cons d u =>
  rw [opV_in (X:=⟨none,0,d::u,yq⟩) (k:=0) (by simp),yh (by simp;intro e;subst e;exact h u rfl)]
  rfl
theorem skip_here {bs:List UInt8} {k:Int} {f:Nat} (h0:0<=k) (h1:k<=bs.length) (hf:zaM bs k=f) (hl:f<bs.length):bs.getD f 0≠37/\isSp (bs.getD f 0)=false:=by
 have hi:=zgr h0 h1
 rw [hf] at hi
 have h2:f+zbk false (bs.drop f)=f:=by
  have:zaM bs (f:Int)=f+zbk false (bs.drop f):=by
   unfold zaM;rw [yh (by omega),yh (by omega),Int.toNat_natCast]
  rw [<-this];exact hi
 rw [zay hl] at h2
 refine ⟨fun e=>?_,?_⟩
 ·rw [zbk,yg e] at h2;omega
 ·by_cases e:bs.getD f 0=37
  ·rw [zbk,yg e] at h2;omega
  ·cases hs:isSp (bs.getD f 0) with
   | false=>rfl
   | true=>rw [zbk,yh e,yg hs] at h2;omega
theorem zcY.some_end {bs:List UInt8} {yq:Bool} {V:Int×List UInt8×List UInt8} {w w':World} {e:Ending} (h:zcY bs yq V w e w'):∃v n er,e=.returned (.tuple #[v,.int .i64 n,.int .i64 er])/\Below w.heap.size w w':=by
 obtain ⟨hb,⟨-,h⟩|⟨-,h⟩|⟨-,v,h,-,-⟩⟩:=h
 ·exact ⟨_,_,_,h,hb⟩
 ·exact ⟨_,_,_,h,hb⟩
 ·exact ⟨_,_,_,h,hb⟩
theorem zaC {w:World} {a:Option Addr} {cap:Nat} {bs:List UInt8} (hr:Row w 1 a bs.length cap (bs.map u8C)) (hn:bs.length<=400000) {k:Int} (hk0:0<=k) (hk1:k<=bs.length) {f:Nat} (hf:zaM bs k=f) (hfl:f<bs.length) :
  ∃(b off R r:Nat) (x:Nat),a=some ⟨b,off,none⟩/\b<w.heap.size/\(bs.getD f 0).toNat=x/\R=f+runN (bs.drop f)/\R<=bs.length/\r=w.heap.size/\bs.length<=cap/\(cap:Int)<=9223372036854775807/\decide (k<0)=false /\
   decide ((bs.length:Int)<k)=false/\((f:Int)==(bs.length:Int))=false/\decide (f=bs.length)=false/\(f:Int)<bs.length/\f<=399999/\runN (bs.drop f)<=bs.length-f /\
   (∀W:World,Below w.heap.size w W->Calls Tryz.prog 121 #[.slice a bs.length cap,.int .i64 k] W fun e w'=>e=.returned (.int .i64 (f:Nat))/\W=w') /\
   (∀W:World,Below w.heap.size w W->Calls Tryz.prog 122 #[.slice a bs.length cap,.int .i64 f] W fun e w'=>e=.returned (.int .i64 (R:Nat))/\W=w') /\
   (∀j,j<bs.length->w.cell? ⟨b,off+j,none⟩=some (.int .u8 (bs.getD j 0).toNat))/\w.cell? ⟨b,off+f,none⟩=some (.int .u8 x) /\
   (w.alloc (.cells #[.int .i64 0,.int .i64 0,.int .i64 0,.int .i64 0,.int .i64 0,.string ⟨#[]⟩,.slice none 0 0,.string ⟨#[]⟩] 111)).heap[r]?=some (.cells #[.int .i64 0,.int .i64 0,.int .i64 0,.int .i64 0,.int .i64 0,.string ⟨#[]⟩,.slice none 0 0,.string ⟨#[]⟩] 111 (0,0))/\Below w.heap.size w (w.alloc (.cells #[.int .i64 0,.int .i64 0,.int .i64 0,.int .i64 0,.int .i64 0,.string ⟨#[]⟩,.slice none 0 0,.string ⟨#[]⟩] 111)):=by
 obtain ⟨b,off,ha,hbW,hc⟩:=hr.at 0 f hfl
 have hrl:=zbn (bs.drop f)
 rw [ym] at hrl
 refine ⟨b,off,_,_,_,ha,hbW,rfl,rfl,by omega,rfl,hr.2.1,hr.i64c,ye (by omega),ye (by omega),by rw [yf];omega,ye (by omega),by omega,by omega,hrl,fun W h=>?_,
  fun W h=>zdJ (hr.mono h) hn f (by omega),hc,hc f hfl,zac _ rfl,zam w _⟩
 have:=rskip_any (hr.mono h) hn k
 rw [hf] at this
 exact this
theorem zaw {w:World} {b off f r x:Nat} (hbW:b<w.heap.size) (hrr:r=w.heap.size) {W1:World} (hB:Below w.heap.size w W1) (hc:w.cell? ⟨b,off+f,none⟩=some (.int .u8 x)) (hZ:W1.heap[r]?=some (.cells #[.int .i64 0,.int .i64 0,.int .i64 0,.int .i64 0,.int .i64 0,.string ⟨#[]⟩,.slice none 0 0,.string ⟨#[]⟩] 111 (0,0))) :
  W1.cell? ⟨b,off+f,none⟩=some (.int .u8 x)/\(W1.alloc (.cells #[.int .i64 0,.int .i64 f,.int .i64 f,.int .i64 0,.int .i64 0,.string ⟨#[]⟩,.slice none 0 0,.string ⟨#[]⟩] 111)).cell? ⟨b,off+f,none⟩=some (.int .u8 x)/\¬b=W1.heap.size/\b<W1.heap.size/\Rx w r W1.heap.size f (W1.alloc (.cells #[.int .i64 0,.int .i64 f,.int .i64 f,.int .i64 0,.int .i64 0,.string ⟨#[]⟩,.slice none 0 0,.string ⟨#[]⟩] 111)) :=
 ⟨cell?_keep hB hc,cell?_keep (hB.alloc hB.size _) hc,by have:=hB.size;omega,by have:=hB.size;omega,zak _ hZ,zac _ rfl,hB.alloc hB.size _,by rw [hrr];exact yp _⟩
theorem rnext_91 {w:World} {a:Option Addr} {cap:Nat} {bs:List UInt8} (hr:Row w 1 a bs.length cap (bs.map u8C)) (hn:bs.length<=400000) {k:Int} (yq:Bool) (hk0:0<=k) (hk1:k<=bs.length) {f:Nat} (hf:zaM bs k=f) (hfl:f<bs.length) {V:Tk×Int×Int×Int} (hV:V=zbm bs f yq) (hc0:bs.getD f 0=91) :
  Calls Tryz.prog 84 #[.slice a bs.length cap,.int .i64 k,.bool yq] w (zaB w V):=by
 have HV:=yb (hV.trans (za8 (j:=f+1) hfl hc0 (tokV_91 yq _) (by omega)))
 obtain ⟨b,off,R,r,x,rfl,hbW,hx,hR,hRL,hrr,hcap,hcm,hkd,hkd2,hff,hffn,hfi,hf9,hrl,hS,hRN,hc,hcf,hZ,hB0⟩:=zaC hr hn hk0 hk1 hf hfl
 have HRW:=yb hr
 have HC:=yb hc
 have HS:=yb hS
 have HRN:=yb hRN
 have HRR:=yb hR
 have HRL:=yb hRL
 have HRE:=yb hrr
 have HZ:=yb hZ
 have HB0:=yb hB0
 clear hS hRN hRL hZ hB0
 obtain rfl:x=91:=by rw [<-hx,hc0];rfl
 clear hr hf hR hrr hrl hk0 hk1 hc hV hx
 go_enter Tryz.func84,Tryz.ntmps84
 go_wp2_with fail
 refine (HS.out _ HB0.out).mono ?_
 rintro e w' ⟨rfl,rfl⟩
 rw [<-HRE.out]
 generalize w.alloc _=W1 at *
 obtain ⟨hcj1,hcj,hbn,hbl,hX⟩:=zaw hbW HRE.out HB0.out hcf HZ.out
 have HX:=yb hX
 clear hcf hX
 go_wp2_with fail
 refine (HRN.out _ HX.out.bel).mono ?_
 rintro e w' ⟨rfl,rfl⟩
 clear hcj1 hcj hbn hbl
 generalize W1.alloc _=W2 at *
 generalize W1.heap.size=p at *
 clear HZ HB0
 obtain ⟨⟨k0,k1,k2,k3,k4,k5,k6,k7⟩,m0,m1,m2,m3,m4,m5,m6,m7⟩:=zag HX.out.blk
 go_wp2
 refine yi (zaa rfl _ _ r 111 _ (0,0) _ rfl (set8 HX.out.blk _ _ _ _ _ _ _ _) Tryz.underlying111 rfl zaq _ rfl) rfl ?_
 exact zat (x:={ kind:=2 }) HX.out.bel HX.out.wr HV.out _ _ _ _ _ _ _ _
theorem rnext_93 {w:World} {a:Option Addr} {cap:Nat} {bs:List UInt8} (hr:Row w 1 a bs.length cap (bs.map u8C)) (hn:bs.length<=400000) {k:Int} (yq:Bool) (hk0:0<=k) (hk1:k<=bs.length) {f:Nat} (hf:zaM bs k=f) (hfl:f<bs.length) {V:Tk×Int×Int×Int} (hV:V=zbm bs f yq) (hc0:bs.getD f 0=93) :
  Calls Tryz.prog 84 #[.slice a bs.length cap,.int .i64 k,.bool yq] w (zaB w V):=by
 have HV:=yb (hV.trans (za8 (j:=f+1) hfl hc0 (tokV_93 yq _) (by omega)))
 obtain ⟨b,off,R,r,x,rfl,hbW,hx,hR,hRL,hrr,hcap,hcm,hkd,hkd2,hff,hffn,hfi,hf9,hrl,hS,hRN,hc,hcf,hZ,hB0⟩:=zaC hr hn hk0 hk1 hf hfl
 have HRW:=yb hr
 have HC:=yb hc
 have HS:=yb hS
 have HRN:=yb hRN
 have HRR:=yb hR
 have HRL:=yb hRL
 have HRE:=yb hrr
 have HZ:=yb hZ
 have HB0:=yb hB0
 clear hS hRN hRL hZ hB0
 obtain rfl:x=93:=by rw [<-hx,hc0];rfl
 clear hr hf hR hrr hrl hk0 hk1 hc hV hx
 go_enter Tryz.func84,Tryz.ntmps84
 go_wp2_with fail
 refine (HS.out _ HB0.out).mono ?_
 rintro e w' ⟨rfl,rfl⟩
 rw [<-HRE.out]
 generalize w.alloc _=W1 at *
 obtain ⟨hcj1,hcj,hbn,hbl,hX⟩:=zaw hbW HRE.out HB0.out hcf HZ.out
 have HX:=yb hX
 clear hcf hX
 go_wp2_with fail
 refine (HRN.out _ HX.out.bel).mono ?_
 rintro e w' ⟨rfl,rfl⟩
 clear hcj1 hcj hbn hbl
 generalize W1.alloc _=W2 at *
 generalize W1.heap.size=p at *
 clear HZ HB0
 obtain ⟨⟨k0,k1,k2,k3,k4,k5,k6,k7⟩,m0,m1,m2,m3,m4,m5,m6,m7⟩:=zag HX.out.blk
 go_wp2
 refine yi (zaa rfl _ _ r 111 _ (0,0) _ rfl (set8 HX.out.blk _ _ _ _ _ _ _ _) Tryz.underlying111 rfl zaq _ rfl) rfl ?_
 exact zat (x:={ kind:=3 }) HX.out.bel HX.out.wr HV.out _ _ _ _ _ _ _ _
theorem rnext_6060 {w:World} {a:Option Addr} {cap:Nat} {bs:List UInt8} (hr:Row w 1 a bs.length cap (bs.map u8C)) (hn:bs.length<=400000) {k:Int} (yq:Bool) (hk0:0<=k) (hk1:k<=bs.length) {f:Nat} (hf:zaM bs k=f) (hfl:f<bs.length) {V:Tk×Int×Int×Int} (hV:V=zbm bs f yq) (hc0:bs.getD f 0=60) (h1:f+1<bs.length) (h2:bs.getD (f+1) 0=60) :
  Calls Tryz.prog 84 #[.slice a bs.length cap,.int .i64 k,.bool yq] w (zaB w V):=by
 have HV:=yb (hV.trans (za8 (j:=f+2) (x:={ kind:=4 }) hfl hc0 (by rw [zay h1,h2];rfl) (by omega)))
 obtain ⟨b,off,R,r,x,rfl,hbW,hx,hR,hRL,hrr,hcap,hcm,hkd,hkd2,hff,hffn,hfi,hf9,hrl,hS,hRN,hc,hcf,hZ,hB0⟩:=zaC hr hn hk0 hk1 hf hfl
 have HRW:=yb hr
 have HC:=yb hc
 have HS:=yb hS
 have HRN:=yb hRN
 have HRR:=yb hR
 have HRL:=yb hRL
 have HRE:=yb hrr
 have HZ:=yb hZ
 have HB0:=yb hB0
 clear hS hRN hRL hZ hB0
 obtain rfl:x=60:=by rw [<-hx,hc0];rfl
 have hc1:=hc (f+1) h1
 rw [h2,show ((60:UInt8).toNat:Int)=60 from rfl] at hc1
 have HC1:=yb hc1
 have hn1:decide ((f:Int)+1<bs.length)=true:=yd (by omega)
 have hn1i:(f:Int)+1<bs.length:=by omega
 clear hc1 h1 h2
 clear hr hf hR hrr hrl hk0 hk1 hc hV hx
 go_enter Tryz.func84,Tryz.ntmps84
 go_wp2_with fail
 refine (HS.out _ HB0.out).mono ?_
 rintro e w' ⟨rfl,rfl⟩
 rw [<-HRE.out]
 generalize w.alloc _=W1 at *
 obtain ⟨hcj1,hcj,hbn,hbl,hX⟩:=zaw hbW HRE.out HB0.out hcf HZ.out
 have HX:=yb hX
 clear hcf hX
 go_wp2_with fail
 refine (HRN.out _ HX.out.bel).mono ?_
 rintro e w' ⟨rfl,rfl⟩
 clear hcj1 hcj hbn hbl
 generalize W1.alloc _=W2 at *
 generalize W1.heap.size=p at *
 clear HZ HB0
 have hc1:=cell?_keep HX.out.bel HC1.out
 obtain ⟨⟨k0,k1,k2,k3,k4,k5,k6,k7⟩,m0,m1,m2,m3,m4,m5,m6,m7⟩:=zag HX.out.blk
 go_wp2
 refine yi (zaa rfl _ _ r 111 _ (0,0) _ rfl (set8 HX.out.blk _ _ _ _ _ _ _ _) Tryz.underlying111 rfl zaq _ rfl) rfl ?_
 exact zat (x:={ kind:=4 }) HX.out.bel HX.out.wr HV.out _ _ _ _ _ _ _ _
theorem rnext_6262 {w:World} {a:Option Addr} {cap:Nat} {bs:List UInt8} (hr:Row w 1 a bs.length cap (bs.map u8C)) (hn:bs.length<=400000) {k:Int} (yq:Bool) (hk0:0<=k) (hk1:k<=bs.length) {f:Nat} (hf:zaM bs k=f) (hfl:f<bs.length) {V:Tk×Int×Int×Int} (hV:V=zbm bs f yq) (hc0:bs.getD f 0=62) (h1:f+1<bs.length) (h2:bs.getD (f+1) 0=62) :
  Calls Tryz.prog 84 #[.slice a bs.length cap,.int .i64 k,.bool yq] w (zaB w V):=by
 have HV:=yb (hV.trans (za8 (j:=f+2) (x:={ kind:=5 }) hfl hc0 (by rw [zay h1,h2];rfl) (by omega)))
 obtain ⟨b,off,R,r,x,rfl,hbW,hx,hR,hRL,hrr,hcap,hcm,hkd,hkd2,hff,hffn,hfi,hf9,hrl,hS,hRN,hc,hcf,hZ,hB0⟩:=zaC hr hn hk0 hk1 hf hfl
 have HRW:=yb hr
 have HC:=yb hc
 have HS:=yb hS
 have HRN:=yb hRN
 have HRR:=yb hR
 have HRL:=yb hRL
 have HRE:=yb hrr
 have HZ:=yb hZ
 have HB0:=yb hB0
 clear hS hRN hRL hZ hB0
 obtain rfl:x=62:=by rw [<-hx,hc0];rfl
 have hc1:=hc (f+1) h1
 rw [h2,show ((62:UInt8).toNat:Int)=62 from rfl] at hc1
 have HC1:=yb hc1
 have hn1:decide ((f:Int)+1<bs.length)=true:=yd (by omega)
 have hn1i:(f:Int)+1<bs.length:=by omega
 clear hc1 h1 h2
 clear hr hf hR hrr hrl hk0 hk1 hc hV hx
 go_enter Tryz.func84,Tryz.ntmps84
 go_wp2_with fail
 refine (HS.out _ HB0.out).mono ?_
 rintro e w' ⟨rfl,rfl⟩
 rw [<-HRE.out]
 generalize w.alloc _=W1 at *
 obtain ⟨hcj1,hcj,hbn,hbl,hX⟩:=zaw hbW HRE.out HB0.out hcf HZ.out
 have HX:=yb hX
 clear hcf hX
 go_wp2_with fail
 refine (HRN.out _ HX.out.bel).mono ?_
 rintro e w' ⟨rfl,rfl⟩
 clear hcj1 hcj hbn hbl
 generalize W1.alloc _=W2 at *
 generalize W1.heap.size=p at *
 clear HZ HB0
 have hc1:=cell?_keep HX.out.bel HC1.out
 obtain ⟨⟨k0,k1,k2,k3,k4,k5,k6,k7⟩,m0,m1,m2,m3,m4,m5,m6,m7⟩:=zag HX.out.blk
 go_wp2
 refine yi (zaa rfl _ _ r 111 _ (0,0) _ rfl (set8 HX.out.blk _ _ _ _ _ _ _ _) Tryz.underlying111 rfl zaq _ rfl) rfl ?_
 exact zat (x:={ kind:=5 }) HX.out.bel HX.out.wr HV.out _ _ _ _ _ _ _ _
theorem rnext_62more {w:World} {a:Option Addr} {cap:Nat} {bs:List UInt8} (hr:Row w 1 a bs.length cap (bs.map u8C)) (hn:bs.length<=400000) {k:Int} (yq:Bool) (hk0:0<=k) (hk1:k<=bs.length) {f:Nat} (hf:zaM bs k=f) (hfl:f<bs.length) {V:Tk×Int×Int×Int} (hV:V=zbm bs f yq) (hc0:bs.getD f 0=62) (h1:f+1=bs.length) (hla:yq=false) :
  Calls Tryz.prog 84 #[.slice a bs.length cap,.int .i64 k,.bool yq] w (zaB w V):=by
 have HV:=yb (hV.trans (zaZ (e:=6) hfl hc0 (by rw [tokV_62,zbd (by omega),hla];rfl) (by decide)))
 subst hla
 obtain ⟨b,off,R,r,x,rfl,hbW,hx,hR,hRL,hrr,hcap,hcm,hkd,hkd2,hff,hffn,hfi,hf9,hrl,hS,hRN,hc,hcf,hZ,hB0⟩:=zaC hr hn hk0 hk1 hf hfl
 have HRW:=yb hr
 have HC:=yb hc
 have HS:=yb hS
 have HRN:=yb hRN
 have HRR:=yb hR
 have HRL:=yb hRL
 have HRE:=yb hrr
 have HZ:=yb hZ
 have HB0:=yb hB0
 clear hS hRN hRL hZ hB0
 obtain rfl:x=62:=by rw [<-hx,hc0];rfl
 have hn1:decide ((f:Int)+1<bs.length)=false:=ye (by omega)
 have hn2:((f:Int)+1==(bs.length:Int))=true:=by rw [beq_iff_eq];omega
 have hn3:decide ((f:Int)+1=(bs.length:Int))=true:=yd (by omega)
 clear h1
 clear hr hf hR hrr hrl hk0 hk1 hc hV hx
 go_enter Tryz.func84,Tryz.ntmps84
 go_wp2_with fail
 refine (HS.out _ HB0.out).mono ?_
 rintro e w' ⟨rfl,rfl⟩
 rw [<-HRE.out]
 generalize w.alloc _=W1 at *
 obtain ⟨hcj1,hcj,hbn,hbl,hX⟩:=zaw hbW HRE.out HB0.out hcf HZ.out
 have HX:=yb hX
 clear hcf hX
 go_wp2_with fail
 refine (HRN.out _ HX.out.bel).mono ?_
 rintro e w' ⟨rfl,rfl⟩
 clear hcj1 hcj hbn hbl
 generalize W1.alloc _=W2 at *
 generalize W1.heap.size=p at *
 clear HZ HB0
 obtain ⟨⟨k0,k1,k2,k3,k4,k5,k6,k7⟩,m0,m1,m2,m3,m4,m5,m6,m7⟩:=zag HX.out.blk
 obtain ⟨⟨n0,n1,n2,n3,n4,n5,n6,n7⟩,-⟩:=zag HX.out.no
 go_wp2
 refine yi (zaa rfl _ _ r 111 _ (0,0) _ rfl (set8 HX.out.blk _ _ _ _ _ _ _ _) Tryz.underlying111 rfl zaq _ rfl) rfl ?_
 exact zat (x:={ kind:=0 }) HX.out.bel HX.out.wr HV.out _ _ _ _ _ _ _ _
theorem rnext_62last {w:World} {a:Option Addr} {cap:Nat} {bs:List UInt8} (hr:Row w 1 a bs.length cap (bs.map u8C)) (hn:bs.length<=400000) {k:Int} (yq:Bool) (hk0:0<=k) (hk1:k<=bs.length) {f:Nat} (hf:zaM bs k=f) (hfl:f<bs.length) {V:Tk×Int×Int×Int} (hV:V=zbm bs f yq) (hc0:bs.getD f 0=62) (h1:f+1=bs.length) (hla:yq=true) :
  Calls Tryz.prog 84 #[.slice a bs.length cap,.int .i64 k,.bool yq] w (zaB w V):=by
 have HV:=yb (hV.trans (zaZ (e:=11) hfl hc0 (by rw [tokV_62,zbd (by omega),hla];rfl) (by decide)))
 subst hla
 obtain ⟨b,off,R,r,x,rfl,hbW,hx,hR,hRL,hrr,hcap,hcm,hkd,hkd2,hff,hffn,hfi,hf9,hrl,hS,hRN,hc,hcf,hZ,hB0⟩:=zaC hr hn hk0 hk1 hf hfl
 have HRW:=yb hr
 have HC:=yb hc
 have HS:=yb hS
 have HRN:=yb hRN
 have HRR:=yb hR
 have HRL:=yb hRL
 have HRE:=yb hrr
 have HZ:=yb hZ
 have HB0:=yb hB0
 clear hS hRN hRL hZ hB0
 obtain rfl:x=62:=by rw [<-hx,hc0];rfl
 have hn1:decide ((f:Int)+1<bs.length)=false:=ye (by omega)
 have hn2:((f:Int)+1==(bs.length:Int))=true:=by rw [beq_iff_eq];omega
 have hn3:decide ((f:Int)+1=(bs.length:Int))=true:=yd (by omega)
 have HDL:=yb (fun W=>zaS 62 W)
 rw [show dlI 62=true from rfl] at HDL
 clear h1
 clear hr hf hR hrr hrl hk0 hk1 hc hV hx
 go_enter Tryz.func84,Tryz.ntmps84
 go_wp2_with fail
 refine (HS.out _ HB0.out).mono ?_
 rintro e w' ⟨rfl,rfl⟩
 rw [<-HRE.out]
 generalize w.alloc _=W1 at *
 obtain ⟨hcj1,hcj,hbn,hbl,hX⟩:=zaw hbW HRE.out HB0.out hcf HZ.out
 have HX:=yb hX
 clear hcf hX
 go_wp2_with fail
 refine (HRN.out _ HX.out.bel).mono ?_
 rintro e w' ⟨rfl,rfl⟩
 clear hcj1 hcj hbn hbl
 generalize W1.alloc _=W2 at *
 generalize W1.heap.size=p at *
 clear HZ HB0
 obtain ⟨⟨k0,k1,k2,k3,k4,k5,k6,k7⟩,m0,m1,m2,m3,m4,m5,m6,m7⟩:=zag HX.out.blk
 obtain ⟨⟨n0,n1,n2,n3,n4,n5,n6,n7⟩,-⟩:=zag HX.out.no
 go_wp2_with (go_at_call 126;refine (HDL.out _).mono ?_;rintro e w' ⟨rfl,rfl⟩)
 refine yi (zaa rfl _ _ r 111 _ (0,0) _ rfl (set8 HX.out.blk _ _ _ _ _ _ _ _) Tryz.underlying111 rfl zaq _ rfl) rfl ?_
 exact zat (x:={ kind:=0 }) HX.out.bel HX.out.wr HV.out _ _ _ _ _ _ _ _
theorem rnext_62form {w:World} {a:Option Addr} {cap:Nat} {bs:List UInt8} (hr:Row w 1 a bs.length cap (bs.map u8C)) (hn:bs.length<=400000) {k:Int} (yq:Bool) (hk0:0<=k) (hk1:k<=bs.length) {f:Nat} (hf:zaM bs k=f) (hfl:f<bs.length) {V:Tk×Int×Int×Int} (hV:V=zbm bs f yq) (hc0:bs.getD f 0=62) (h1:f+1<bs.length) (h2:bs.getD (f+1) 0≠62) :
  Calls Tryz.prog 84 #[.slice a bs.length cap,.int .i64 k,.bool yq] w (zaB w V):=by
 have HV:=yb (hV.trans (zaZ (e:=11) hfl hc0 (by rw [tokV_62,zay h1];simp only;rw [yh h2]) (by decide)))
 obtain ⟨b,off,R,r,x,rfl,hbW,hx,hR,hRL,hrr,hcap,hcm,hkd,hkd2,hff,hffn,hfi,hf9,hrl,hS,hRN,hc,hcf,hZ,hB0⟩:=zaC hr hn hk0 hk1 hf hfl
 have HRW:=yb hr
 have HC:=yb hc
 have HS:=yb hS
 have HRN:=yb hRN
 have HRR:=yb hR
 have HRL:=yb hRL
 have HRE:=yb hrr
 have HZ:=yb hZ
 have HB0:=yb hB0
 clear hS hRN hRL hZ hB0
 obtain rfl:x=62:=by rw [<-hx,hc0];rfl
 have HC1:=yb (hc (f+1) h1)
 have e2:=zau h2 62 rfl
 generalize (bs.getD (f+1) 0).toNat=y at *
 have hn1:decide ((f:Int)+1<bs.length)=true:=yd (by omega)
 have hn1i:(f:Int)+1<bs.length:=by omega
 have hn2:((f:Int)+1==(bs.length:Int))=false:=by rw [yf];omega
 have hn3:decide ((f:Int)+1=(bs.length:Int))=false:=ye (by omega)
 have HDL:=yb (fun W=>zaS 62 W)
 rw [show dlI 62=true from rfl] at HDL
 clear h1 h2
 clear hr hf hR hrr hrl hk0 hk1 hc hV hx
 go_enter Tryz.func84,Tryz.ntmps84
 go_wp2_with fail
 refine (HS.out _ HB0.out).mono ?_
 rintro e w' ⟨rfl,rfl⟩
 rw [<-HRE.out]
 generalize w.alloc _=W1 at *
 obtain ⟨hcj1,hcj,hbn,hbl,hX⟩:=zaw hbW HRE.out HB0.out hcf HZ.out
 have HX:=yb hX
 clear hcf hX
 go_wp2_with fail
 refine (HRN.out _ HX.out.bel).mono ?_
 rintro e w' ⟨rfl,rfl⟩
 clear hcj1 hcj hbn hbl
 generalize W1.alloc _=W2 at *
 generalize W1.heap.size=p at *
 clear HZ HB0
 have hc1:=cell?_keep HX.out.bel HC1.out
 obtain ⟨⟨k0,k1,k2,k3,k4,k5,k6,k7⟩,m0,m1,m2,m3,m4,m5,m6,m7⟩:=zag HX.out.blk
 obtain ⟨⟨n0,n1,n2,n3,n4,n5,n6,n7⟩,-⟩:=zag HX.out.no
 go_wp2_with (go_at_call 126;refine (HDL.out _).mono ?_;rintro e w' ⟨rfl,rfl⟩)
 refine yi (zaa rfl _ _ r 111 _ (0,0) _ rfl (set8 HX.out.blk _ _ _ _ _ _ _ _) Tryz.underlying111 rfl zaq _ rfl) rfl ?_
 exact zat (x:={ kind:=0 }) HX.out.bel HX.out.wr HV.out _ _ _ _ _ _ _ _
theorem rnext_dl {w:World} {a:Option Addr} {cap:Nat} {bs:List UInt8} (hr:Row w 1 a bs.length cap (bs.map u8C)) (hn:bs.length<=400000) {k:Int} (yq:Bool) (hk0:0<=k) (hk1:k<=bs.length) {f:Nat} (hf:zaM bs k=f) (hfl:f<bs.length) {V:Tk×Int×Int×Int} (hV:V=zbm bs f yq) (hd:isDl (bs.getD f 0)=true) (n1:bs.getD f 0≠91) (n2:bs.getD f 0≠93) (n3:bs.getD f 0≠60) (n4:bs.getD f 0≠62) (n5:bs.getD f 0≠40) (n6:bs.getD f 0≠47) :
  Calls Tryz.prog 84 #[.slice a bs.length cap,.int .i64 k,.bool yq] w (zaB w V):=by
 have HV:=yb (hV.trans (zaZ (e:=11) hfl rfl (by rw [tokV_no _ _ _ (by unfold isRg;rw [hd];simp) n1 n2 n3 n4 n5 n6]) (by decide)))
 obtain ⟨b,off,R,r,x,rfl,hbW,hx,hR,hRL,hrr,hcap,hcm,hkd,hkd2,hff,hffn,hfi,hf9,hrl,hS,hRN,hc,hcf,hZ,hB0⟩:=zaC hr hn hk0 hk1 hf hfl
 have HRW:=yb hr
 have HC:=yb hc
 have HS:=yb hS
 have HRN:=yb hRN
 have HRR:=yb hR
 have HRL:=yb hRL
 have HRE:=yb hrr
 have HZ:=yb hZ
 have HB0:=yb hB0
 clear hS hRN hRL hZ hB0
 have e1:=zau n1 91 rfl
 have e2:=zau n2 93 rfl
 have e3:=zau n3 60 rfl
 have e4:=zau n4 62 rfl
 have e5:=zau n5 40 rfl
 have e6:=zau n6 47 rfl
 have HDL:=yb (fun W=>zaS (bs.getD f 0).toNat W)
 rw [<-zbV,hd] at HDL
 rw [hx] at HDL e1 e2 e3 e4 e5 e6
 clear hd n1 n2 n3 n4 n5 n6
 clear hr hf hR hrr hrl hk0 hk1 hc hV hx
 go_enter Tryz.func84,Tryz.ntmps84
 go_wp2_with fail
 refine (HS.out _ HB0.out).mono ?_
 rintro e w' ⟨rfl,rfl⟩
 rw [<-HRE.out]
 generalize w.alloc _=W1 at *
 obtain ⟨hcj1,hcj,hbn,hbl,hX⟩:=zaw hbW HRE.out HB0.out hcf HZ.out
 have HX:=yb hX
 clear hcf hX
 go_wp2_with fail
 refine (HRN.out _ HX.out.bel).mono ?_
 rintro e w' ⟨rfl,rfl⟩
 clear hcj1 hcj hbn hbl
 generalize W1.alloc _=W2 at *
 generalize W1.heap.size=p at *
 clear HZ HB0
 obtain ⟨⟨k0,k1,k2,k3,k4,k5,k6,k7⟩,m0,m1,m2,m3,m4,m5,m6,m7⟩:=zag HX.out.blk
 obtain ⟨⟨n0,n1,n2,n3,n4,n5,n6,n7⟩,-⟩:=zag HX.out.no
 go_wp2_with (go_at_call 126;refine (HDL.out _).mono ?_;rintro e w' ⟨rfl,rfl⟩)
 refine yi (zaa rfl _ _ r 111 _ (0,0) _ rfl (set8 HX.out.blk _ _ _ _ _ _ _ _) Tryz.underlying111 rfl zaq _ rfl) rfl ?_
 exact zat (x:={ kind:=0 }) HX.out.bel HX.out.wr HV.out _ _ _ _ _ _ _ _
theorem rnext_hexend {w:World} {a:Option Addr} {cap:Nat} {bs:List UInt8} (hr:Row w 1 a bs.length cap (bs.map u8C)) (hn:bs.length<=400000) {k:Int} (yq:Bool) (hk0:0<=k) (hk1:k<=bs.length) {f:Nat} (hf:zaM bs k=f) (hfl:f<bs.length) {V:Tk×Int×Int×Int} (hV:V=zbm bs f yq) (hc0:bs.getD f 0=60) (h1:¬f+1<bs.length) :
  Calls Tryz.prog 84 #[.slice a bs.length cap,.int .i64 k,.bool yq] w (zaB w V):=by
 obtain ⟨H,hH⟩:∃H,hexV [] (-1) (bs.drop (f+1))=H:=⟨_,rfl⟩
 have HH:=yb hH
 have ht:tokV yq 60 (bs.drop (f+1))=hexK yq H:=by rw [<-hH];exact tokV_60 yq _ (fun u e=>by rw [zbd h1] at e;cases e)
 have HT:=yb ht
 have HC0:=yb hc0
 have HVV:=yb hV
 have HFL:=yb hfl
 clear ht hH
 obtain ⟨b,off,R,r,x,rfl,hbW,hx,hR,hRL,hrr,hcap,hcm,hkd,hkd2,hff,hffn,hfi,hf9,hrl,hS,hRN,hc,hcf,hZ,hB0⟩:=zaC hr hn hk0 hk1 hf hfl
 have HRW:=yb hr
 have HC:=yb hc
 have HS:=yb hS
 have HRN:=yb hRN
 have HRR:=yb hR
 have HRL:=yb hRL
 have HRE:=yb hrr
 have HZ:=yb hZ
 have HB0:=yb hB0
 clear hS hRN hRL hZ hB0
 obtain rfl:x=60:=by rw [<-hx,hc0];rfl
 have HF1:=yb (show f+1<=bs.length by omega)
 have hn1:decide ((f:Int)+1<bs.length)=false:=ye (by omega)
 clear h1
 clear hr hf hR hrr hrl hk0 hk1 hc hV hx
 go_enter Tryz.func84,Tryz.ntmps84
 go_wp2_with fail
 refine (HS.out _ HB0.out).mono ?_
 rintro e w' ⟨rfl,rfl⟩
 rw [<-HRE.out]
 generalize w.alloc _=W1 at *
 obtain ⟨hcj1,hcj,hbn,hbl,hX⟩:=zaw hbW HRE.out HB0.out hcf HZ.out
 have HX:=yb hX
 clear hcf hX
 go_wp2_with fail
 refine (HRN.out _ HX.out.bel).mono ?_
 rintro e w' ⟨rfl,rfl⟩
 clear hcj1 hcj hbn hbl
 generalize W1.alloc _=W2 at *
 generalize W1.heap.size=p at *
 clear HZ HB0
 go_wp2_with fail
 have HHX:=yb (zeD (HRW.out.mono HX.out.bel) hn (f+1) HF1.out yq)
 rw [HH.out] at HHX
 unfold zcY at HHX
 refine HHX.out.mono ?_
 rintro e w3 ⟨hb3,h3⟩
 have HX3:=yb (HX.out.on hb3)
 clear hb3 HHX
 rcases h3 with ⟨h1,rfl⟩|⟨h1,rfl⟩|⟨h1,v,rfl,hO,hl⟩
 ·have HV:=yb (HVV.out.trans (zaZ (e:=za6 yq) HFL.out HC0.out (by rw [HT.out];unfold hexK;rw [yh (by rw [h1];decide),yg h1]) (zcI yq)))
  have ho1:(za6 yq != 0)=true:=by cases yq<;>rfl
  generalize za6 yq=oe at *
  clear h1
  obtain ⟨⟨k0,k1,k2,k3,k4,k5,k6,k7⟩,m0,m1,m2,m3,m4,m5,m6,m7⟩:=zag HX3.out.blk
  obtain ⟨⟨n0,n1,n2,n3,n4,n5,n6,n7⟩,-⟩:=zag HX3.out.no
  go_wp2
  refine yi (zaa rfl _ _ r 111 _ (0,0) _ rfl (set8 HX3.out.blk _ _ _ _ _ _ _ _) Tryz.underlying111 rfl zaq _ rfl) rfl ?_
  exact zat (x:={ kind:=0 }) HX3.out.bel HX3.out.wr HV.out _ _ _ _ _ _ _ _
 ·have HV:=yb (HVV.out.trans (zaZ (e:=11) HFL.out HC0.out (by rw [HT.out];unfold hexK;rw [yh (by rw [h1];decide),yh (by rw [h1];decide)]) (by decide)))
  clear h1
  obtain ⟨⟨k0,k1,k2,k3,k4,k5,k6,k7⟩,m0,m1,m2,m3,m4,m5,m6,m7⟩:=zag HX3.out.blk
  obtain ⟨⟨n0,n1,n2,n3,n4,n5,n6,n7⟩,-⟩:=zag HX3.out.no
  go_wp2
  refine yi (zaa rfl _ _ r 111 _ (0,0) _ rfl (set8 HX3.out.blk _ _ _ _ _ _ _ _) Tryz.underlying111 rfl zaq _ rfl) rfl ?_
  exact zat (x:={ kind:=0 }) HX3.out.bel HX3.out.wr HV.out _ _ _ _ _ _ _ _
 ·have HV:=yb (HVV.out.trans (zfE HFL.out HC0.out (x:={ kind:=1,vk:=4,vs:=H.2.1 }) (r:=H.2.2) (by rw [HT.out];unfold hexK;rw [yg h1]) hl))
  have hcv:=zdK hO
  obtain ⟨a3,c3,hv3,-⟩:=Row.of_owns hO
  subst hv3
  clear h1 hO hl
  obtain ⟨⟨k0,k1,k2,k3,k4,k5,k6,k7⟩,m0,m1,m2,m3,m4,m5,m6,m7⟩:=zag HX3.out.blk
  obtain ⟨⟨n0,n1,n2,n3,n4,n5,n6,n7⟩,-⟩:=zag HX3.out.no
  go_wp2
  refine yi (zaa rfl _ _ r 111 _ (0,0) _ rfl (set8 HX3.out.blk _ _ _ _ _ _ _ _) Tryz.underlying111 rfl zaq _ rfl) rfl ?_
  exact zat (x:={ kind:=1,vk:=4,vs:=H.2.1 }) HX3.out.bel HX3.out.wr HV.out _ _ _ _ _ _ _ _
theorem rnext_hex {w:World} {a:Option Addr} {cap:Nat} {bs:List UInt8} (hr:Row w 1 a bs.length cap (bs.map u8C)) (hn:bs.length<=400000) {k:Int} (yq:Bool) (hk0:0<=k) (hk1:k<=bs.length) {f:Nat} (hf:zaM bs k=f) (hfl:f<bs.length) {V:Tk×Int×Int×Int} (hV:V=zbm bs f yq) (hc0:bs.getD f 0=60) (h1:f+1<bs.length) (h2:bs.getD (f+1) 0≠60) :
  Calls Tryz.prog 84 #[.slice a bs.length cap,.int .i64 k,.bool yq] w (zaB w V):=by
 obtain ⟨H,hH⟩:∃H,hexV [] (-1) (bs.drop (f+1))=H:=⟨_,rfl⟩
 have HH:=yb hH
 have ht:tokV yq 60 (bs.drop (f+1))=hexK yq H:=by rw [<-hH];exact tokV_60 yq _ (fun u e=>by rw [zay h1] at e;exact h2 (List.cons.inj e).1)
 have HT:=yb ht
 have HC0:=yb hc0
 have HVV:=yb hV
 have HFL:=yb hfl
 clear ht hH
 obtain ⟨b,off,R,r,x,rfl,hbW,hx,hR,hRL,hrr,hcap,hcm,hkd,hkd2,hff,hffn,hfi,hf9,hrl,hS,hRN,hc,hcf,hZ,hB0⟩:=zaC hr hn hk0 hk1 hf hfl
 have HRW:=yb hr
 have HC:=yb hc
 have HS:=yb hS
 have HRN:=yb hRN
 have HRR:=yb hR
 have HRL:=yb hRL
 have HRE:=yb hrr
 have HZ:=yb hZ
 have HB0:=yb hB0
 clear hS hRN hRL hZ hB0
 obtain rfl:x=60:=by rw [<-hx,hc0];rfl
 have HF1:=yb (show f+1<=bs.length by omega)
 have HC1:=yb (hc (f+1) h1)
 have e2:=zau h2 60 rfl
 generalize (bs.getD (f+1) 0).toNat=y at *
 have hn1:decide ((f:Int)+1<bs.length)=true:=yd (by omega)
 have hn1i:(f:Int)+1<bs.length:=by omega
 clear h1 h2
 clear hr hf hR hrr hrl hk0 hk1 hc hV hx
 go_enter Tryz.func84,Tryz.ntmps84
 go_wp2_with fail
 refine (HS.out _ HB0.out).mono ?_
 rintro e w' ⟨rfl,rfl⟩
 rw [<-HRE.out]
 generalize w.alloc _=W1 at *
 obtain ⟨hcj1,hcj,hbn,hbl,hX⟩:=zaw hbW HRE.out HB0.out hcf HZ.out
 have HX:=yb hX
 clear hcf hX
 go_wp2_with fail
 refine (HRN.out _ HX.out.bel).mono ?_
 rintro e w' ⟨rfl,rfl⟩
 clear hcj1 hcj hbn hbl
 generalize W1.alloc _=W2 at *
 generalize W1.heap.size=p at *
 clear HZ HB0
 have hc1:=cell?_keep HX.out.bel HC1.out
 go_wp2_with fail
 have HHX:=yb (zeD (HRW.out.mono HX.out.bel) hn (f+1) HF1.out yq)
 rw [HH.out] at HHX
 unfold zcY at HHX
 refine HHX.out.mono ?_
 rintro e w3 ⟨hb3,h3⟩
 have HX3:=yb (HX.out.on hb3)
 clear hb3 HHX
 rcases h3 with ⟨h1,rfl⟩|⟨h1,rfl⟩|⟨h1,v,rfl,hO,hl⟩
 ·have HV:=yb (HVV.out.trans (zaZ (e:=za6 yq) HFL.out HC0.out (by rw [HT.out];unfold hexK;rw [yh (by rw [h1];decide),yg h1]) (zcI yq)))
  have ho1:(za6 yq != 0)=true:=by cases yq<;>rfl
  generalize za6 yq=oe at *
  clear h1
  obtain ⟨⟨k0,k1,k2,k3,k4,k5,k6,k7⟩,m0,m1,m2,m3,m4,m5,m6,m7⟩:=zag HX3.out.blk
  obtain ⟨⟨n0,n1,n2,n3,n4,n5,n6,n7⟩,-⟩:=zag HX3.out.no
  go_wp2
  refine yi (zaa rfl _ _ r 111 _ (0,0) _ rfl (set8 HX3.out.blk _ _ _ _ _ _ _ _) Tryz.underlying111 rfl zaq _ rfl) rfl ?_
  exact zat (x:={ kind:=0 }) HX3.out.bel HX3.out.wr HV.out _ _ _ _ _ _ _ _
 ·have HV:=yb (HVV.out.trans (zaZ (e:=11) HFL.out HC0.out (by rw [HT.out];unfold hexK;rw [yh (by rw [h1];decide),yh (by rw [h1];decide)]) (by decide)))
  clear h1
  obtain ⟨⟨k0,k1,k2,k3,k4,k5,k6,k7⟩,m0,m1,m2,m3,m4,m5,m6,m7⟩:=zag HX3.out.blk
  obtain ⟨⟨n0,n1,n2,n3,n4,n5,n6,n7⟩,-⟩:=zag HX3.out.no
  go_wp2
  refine yi (zaa rfl _ _ r 111 _ (0,0) _ rfl (set8 HX3.out.blk _ _ _ _ _ _ _ _) Tryz.underlying111 rfl zaq _ rfl) rfl ?_
  exact zat (x:={ kind:=0 }) HX3.out.bel HX3.out.wr HV.out _ _ _ _ _ _ _ _
 ·have HV:=yb (HVV.out.trans (zfE HFL.out HC0.out (x:={ kind:=1,vk:=4,vs:=H.2.1 }) (r:=H.2.2) (by rw [HT.out];unfold hexK;rw [yg h1]) hl))
  have hcv:=zdK hO
  obtain ⟨a3,c3,hv3,-⟩:=Row.of_owns hO
  subst hv3
  clear h1 hO hl
  obtain ⟨⟨k0,k1,k2,k3,k4,k5,k6,k7⟩,m0,m1,m2,m3,m4,m5,m6,m7⟩:=zag HX3.out.blk
  obtain ⟨⟨n0,n1,n2,n3,n4,n5,n6,n7⟩,-⟩:=zag HX3.out.no
  go_wp2
  refine yi (zaa rfl _ _ r 111 _ (0,0) _ rfl (set8 HX3.out.blk _ _ _ _ _ _ _ _) Tryz.underlying111 rfl zaq _ rfl) rfl ?_
  exact zat (x:={ kind:=1,vk:=4,vs:=H.2.1 }) HX3.out.bel HX3.out.wr HV.out _ _ _ _ _ _ _ _
theorem rnext_text {w:World} {a:Option Addr} {cap:Nat} {bs:List UInt8} (hr:Row w 1 a bs.length cap (bs.map u8C)) (hn:bs.length<=400000) {k:Int} (yq:Bool) (hk0:0<=k) (hk1:k<=bs.length) {f:Nat} (hf:zaM bs k=f) (hfl:f<bs.length) {V:Tk×Int×Int×Int} (hV:V=zbm bs f yq) (hc0:bs.getD f 0=40) :
  Calls Tryz.prog 84 #[.slice a bs.length cap,.int .i64 k,.bool yq] w (zaB w V):=by
 obtain ⟨H,hH⟩:∃H,zbf yq 1 [] (bs.drop (f+1))=H:=⟨_,rfl⟩
 have HH:=yb hH
 have HT:=yb (show tokV yq 40 (bs.drop (f+1))=txK yq H by rw [tokV_text,hH])
 have HC0:=yb hc0
 have HVV:=yb hV
 have HFL:=yb hfl
 clear hH
 obtain ⟨b,off,R,r,x,rfl,hbW,hx,hR,hRL,hrr,hcap,hcm,hkd,hkd2,hff,hffn,hfi,hf9,hrl,hS,hRN,hc,hcf,hZ,hB0⟩:=zaC hr hn hk0 hk1 hf hfl
 have HRW:=yb hr
 have HC:=yb hc
 have HS:=yb hS
 have HRN:=yb hRN
 have HRR:=yb hR
 have HRL:=yb hRL
 have HRE:=yb hrr
 have HZ:=yb hZ
 have HB0:=yb hB0
 clear hS hRN hRL hZ hB0
 obtain rfl:x=40:=by rw [<-hx,hc0];rfl
 have HF1:=yb (show f+1<=bs.length by omega)
 clear hr hf hR hrr hrl hk0 hk1 hc hV hx
 go_enter Tryz.func84,Tryz.ntmps84
 go_wp2_with fail
 refine (HS.out _ HB0.out).mono ?_
 rintro e w' ⟨rfl,rfl⟩
 rw [<-HRE.out]
 generalize w.alloc _=W1 at *
 obtain ⟨hcj1,hcj,hbn,hbl,hX⟩:=zaw hbW HRE.out HB0.out hcf HZ.out
 have HX:=yb hX
 clear hcf hX
 go_wp2_with fail
 refine (HRN.out _ HX.out.bel).mono ?_
 rintro e w' ⟨rfl,rfl⟩
 clear hcj1 hcj hbn hbl
 generalize W1.alloc _=W2 at *
 generalize W1.heap.size=p at *
 clear HZ HB0
 go_wp2_with fail
 refine (zeD (HRW.out.mono HX.out.bel) hn (f+1) HF1.out yq).mono ?_
 intro e w3 h3
 obtain ⟨v3,n3,er3,rfl,hb3⟩:=h3.some_end
 have HX3:=yb (HX.out.on hb3)
 clear hb3 h3
 go_wp2_with fail
 have HTX:=yb (rtext_any (HRW.out.mono HX3.out.bel) hn (f+1) HF1.out yq)
 rw [HH.out] at HTX
 unfold zg6 at HTX
 refine HTX.out.mono ?_
 clear HTX HH
 cases H with
 | none =>
  rintro e w4 ⟨hb4,rfl⟩
  have HX4:=yb (HX3.out.on hb4)
  have HV:=yb (HVV.out.trans (zaZ (e:=za6 yq) HFL.out HC0.out (by rw [HT.out];rfl) (zcI yq)))
  have ho1:(za6 yq != 0)=true:=by cases yq<;>rfl
  generalize za6 yq=oe at *
  clear hb4
  obtain ⟨⟨k0,k1,k2,k3,k4,k5,k6,k7⟩,m0,m1,m2,m3,m4,m5,m6,m7⟩:=zag HX4.out.blk
  obtain ⟨⟨n0,n1,n2,n3,n4,n5,n6,n7⟩,-⟩:=zag HX4.out.no
  go_wp2
  refine yi (zaa rfl _ _ r 111 _ (0,0) _ rfl (set8 HX4.out.blk _ _ _ _ _ _ _ _) Tryz.underlying111 rfl zaq _ rfl) rfl ?_
  exact zat (x:={ kind:=0 }) HX4.out.bel HX4.out.wr HV.out _ _ _ _ _ _ _ _
 | some y =>
  obtain ⟨o,rr⟩:=y
  rintro e w4 ⟨hb4,v,rfl,hO,hl⟩
  have HX4:=yb (HX3.out.on hb4)
  have HV:=yb (HVV.out.trans (zfE HFL.out HC0.out (x:={ kind:=1,vk:=4,vs:=o }) (r:=rr) (by rw [HT.out];rfl) hl))
  have hcv:=zdK hO
  obtain ⟨a3,c3,hv3,-⟩:=Row.of_owns hO
  subst hv3
  clear hb4 hO hl
  obtain ⟨⟨k0,k1,k2,k3,k4,k5,k6,k7⟩,m0,m1,m2,m3,m4,m5,m6,m7⟩:=zag HX4.out.blk
  obtain ⟨⟨n0,n1,n2,n3,n4,n5,n6,n7⟩,-⟩:=zag HX4.out.no
  go_wp2
  refine yi (zaa rfl _ _ r 111 _ (0,0) _ rfl (set8 HX4.out.blk _ _ _ _ _ _ _ _) Tryz.underlying111 rfl zaq _ rfl) rfl ?_
  exact zat (x:={ kind:=1,vk:=4,vs:=o }) HX4.out.bel HX4.out.wr HV.out _ _ _ _ _ _ _ _
end Go.Proofs.YtfafdeemfeaedaaGreat
