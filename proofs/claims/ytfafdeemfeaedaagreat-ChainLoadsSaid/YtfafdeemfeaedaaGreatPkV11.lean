/-
  Our texts Dw2 to RkP, in one.
-/
import Derived.Test.YtfafdeemfeaedaaGreatPkV10
import Derived.PlainAid
import Derived.Test.YtfafdeemfeaedaaGreatProg
import Derived.Lib.Bytealg
import Derived.Deep.RegionHeld3
import Derived.WalkKit
import Derived.Lib.SlBytesConst
import Derived.Maps.OwnOps
import Derived.Maps.OwnSet
import Derived.Maps.Views
import Derived.Deep.RegionLaw
import Derived.Deep.AppendLies
import Derived.Lib.LastIndexLaws
set_option maxRecDepth 8000
set_option maxHeartbeats 8000000
open Go
variable {A A0 B N c2 e f g i j k kc m mb n' off p r tot u:Nat} {F G S U X:Nat->Prop} {L R T T':List (Int×Int)} {P at2 er gap tto x:Int} {W W' W0 W1 W2 W8 w' w0 w1 w2:World} {ad gv sl sv sx v' x0 x1 x2 x3 x4 y0 y1 y2 y3 z:Value} {c:UInt8} {cs xs:List Value} {ds rd:List Int} {ka sa:Option Addr} {key:List UInt8} {ov yq:Bool} {t ty:TypeId}
namespace Go.Proofs.YtfafdeemfeaedaaGreat
open Go.RowKit
def oneW (p:Tk->Bool) (V:Tk×Int×Int×Int):Tk×Int×Int×Int :=
 if V.2.2.2≠0 then ({ kind:=0 },0,0,V.2.2.2) else if V.1.kind=0 then ({ kind:=0 },0,0,10) else if p V.1=false then ({ kind:=0 },0,0,11) else (V.1,V.2.1,V.2.2.1,0)
def zfT (s:List UInt8) (t:Tk):Bool:=t.kind==6&&t.s==s
def zdK (w:World) (V:Tk×Int×Int×Int) (e:Ending) (w':World):Prop:=e=.returned (.tuple #[.int .i64 V.1.vn,.int .i64 V.2.2.1,.int .i64 V.2.2.2])/\Below w.heap.size w w'
def zdd (w:World) (V:Tk×Int×Int×Int) (e:Ending) (w':World):Prop:=e=.returned (.tuple #[.int .i64 V.2.2.1,.int .i64 V.2.2.2])/\Below w.heap.size w w'
def OneEnd (w:World) (V:Tk×Int×Int×Int) (e:Ending) (w':World):Prop:=e=.returned (.tuple #[.agg (tokN V.1 V.2.1 V.2.2.1),.int .i64 V.2.2.2])/\Below w.heap.size w w'
theorem rnumber_any {w:World} {a:Option Addr} {cap:Nat} {bs:List UInt8} (hr:Row w 1 a bs.length cap (bs.map u8C)) (hn:bs.length<=400000) (k:Int) (yq:Bool) :
  Calls Tryz.prog 61 #[.slice a bs.length cap,.int .i64 k,.bool yq] w (zdK w (oneW zaH (zal bs k yq))):=by
 have HN:=yb (zbX hr hn k yq)
 obtain ⟨R,hR⟩:∃R,R=oneW zaH (zal bs k yq):=⟨_,rfl⟩
 rw [<-hR]
 unfold oneW at hR
 generalize zal bs k yq=V at *
 obtain ⟨x,f,t,er⟩:=V
 have HWH:=yb (fun W=>zfN x f t W)
 unfold tokN at HWH
 simp only at hR
 unfold zaB tokN at HN
 simp only at HN
 have HR:=yb hR
 clear hr hR hn
 generalize hwx:zaH x=xw at *
 clear hwx
 generalize x.kind=xk at *
 generalize x.vk=xvk at *
 obtain ⟨xvn,hxvn⟩:∃n,n=x.vn:=⟨_,rfl⟩
 rw [<-hxvn] at HN HWH
 have HXN:=yb hxvn
 clear hxvn
 generalize mkB x.vs=xvb at *
 generalize mkB x.s=xb at *
 generalize bs.length=L at *
 go_enter Tryz.func61,Tryz.ntmps61
 go_wp2_with fail
 refine HN.out.mono ?_
 rintro e w2 ⟨rfl,hb2⟩
 have HB2:=yb (hb2.alloc hb2.size (.cells #[.int .i64 xk,.int .i64 f,.int .i64 t,.int .i64 xvk,.int .i64 xvn,.string xvb,.slice none 0 0,.string xb] 111))
 have HT2:=yb (zac (w:=w2) (b:=w2.heap.size) (.cells #[.int .i64 xk,.int .i64 f,.int .i64 t,.int .i64 xvk,.int .i64 xvn,.string xvb,.slice none 0 0,.string xb] 111) rfl)
 clear hb2 HN
 go_upto_region 2 with fail
 obtain ⟨r2,hr2⟩:∃r2,r2=w2.heap.size:=⟨_,rfl⟩
 rw [<-hr2] at HT2 |-
 clear hr2
 generalize w2.alloc _=W2 at *
 obtain ⟨⟨t0,t1,t2,t3,t4,t5,t6,t7⟩,-⟩:=zag HT2.out
 have hR:=HR.out
 by_cases her:er=0
 case neg =>
  have e0:(er==0)=false:=by rw [yf];exact her
  have e1:(er != 0)=true:=by simp only [bne,e0,yj]
  rw [yg her] at hR
  subst hR
  clear HR her
  go_wp2
  go_ret3
  exact ⟨rfl,HB2.out⟩
 subst her
 rw [yh (by simp)] at hR
 by_cases hk:xk=0
 ·have e0:(xk==0)=true:=by rw [hk];rfl
  rw [yg hk] at hR
  subst hR
  clear HR hk
  go_wp2
  go_ret3
  exact ⟨rfl,HB2.out⟩
 have e0:(xk==0)=false:=by rw [yf];exact hk
 rw [yh hk] at hR
 clear HR hk
 have HR:=yb hR
 clear hR
 go_wp2_with fail
 refine (HWH.out _).mono ?_
 rintro e w3 ⟨rfl,hb3⟩
 have HB3:=yo HB2 hb3
 have HT3:=yb (zab hb3 HT2.out)
 clear hb3 t0 t1 t2 t3 t4 t5 t6 t7
 obtain ⟨⟨t0,t1,t2,t3,t4,t5,t6,t7⟩,-⟩:=zag HT3.out
 cases xw with
 | false =>
  have hR:=HR.out
  rw [yg rfl] at hR
  subst hR
  clear HR
  go_wp2
  go_ret3
  exact ⟨rfl,HB3.out⟩
 | true =>
  have hR:=HR.out
  rw [yh (by decide)] at hR
  have HR2:=yb hR
  clear HR hR
  go_wp2
  go_quiet (fail)
  go_wp2
  go_ret3
  rw [HR2.out]
  exact ⟨by rw [HXN.out];rfl,zah HB3.out _⟩
theorem rword_any {w:World} {a:Option Addr} {cap:Nat} {bs:List UInt8} (hr:Row w 1 a bs.length cap (bs.map u8C)) (hn:bs.length<=400000) (k:Int) (yq:Bool) (s:List UInt8) :
  Calls Tryz.prog 46 #[.slice a bs.length cap,.int .i64 k,.bool yq,.string (mkB s)] w (zdd w (oneW (zfT s) (zal bs k yq))):=by
 have HN:=yb (zbX hr hn k yq)
 obtain ⟨R,hR⟩:∃R,R=oneW (zfT s) (zal bs k yq):=⟨_,rfl⟩
 rw [<-hR]
 unfold oneW at hR
 generalize zal bs k yq=V at *
 obtain ⟨x,f,t,er⟩:=V
 have HQ:=yb (show ((mkB x.s).toList==(mkB s).toList)=decide (x.s=s) by rw [zaP s];exact zbM x.s s)
 simp only at hR
 unfold zaB tokN at HN
 simp only at HN
 have HR:=yb hR
 clear hr hR hn
 generalize hxs:x.s=xs at *
 generalize hxw:zfT s x=xw at *
 have HXW:=yb (show xw=(x.kind==6&&xs==s) by rw [<-hxw,<-hxs];rfl)
 clear hxs hxw
 generalize x.kind=xk at *
 generalize x.vk=xvk at *
 generalize x.vn=xvn at *
 generalize mkB x.vs=xvb at *
 generalize mkB xs=xb at *
 generalize mkB s=sb at *
 generalize bs.length=L at *
 go_enter Tryz.func46,Tryz.ntmps46
 go_wp2_with fail
 refine HN.out.mono ?_
 rintro e w2 ⟨rfl,hb2⟩
 have HB2:=yb (hb2.alloc hb2.size (.cells #[.int .i64 xk,.int .i64 f,.int .i64 t,.int .i64 xvk,.int .i64 xvn,.string xvb,.slice none 0 0,.string xb] 111))
 have HT2:=yb (zac (w:=w2) (b:=w2.heap.size) (.cells #[.int .i64 xk,.int .i64 f,.int .i64 t,.int .i64 xvk,.int .i64 xvn,.string xvb,.slice none 0 0,.string xb] 111) rfl)
 clear hb2 HN
 go_upto_region 2 with fail
 obtain ⟨r2,hr2⟩:∃r2,r2=w2.heap.size:=⟨_,rfl⟩
 rw [<-hr2] at HT2 |-
 clear hr2
 generalize w2.alloc _=W2 at *
 obtain ⟨⟨t0,t1,t2,t3,t4,t5,t6,t7⟩,-⟩:=zag HT2.out
 have hR:=HR.out
 by_cases her:er=0
 case neg =>
  have e0:(er==0)=false:=by rw [yf];exact her
  have e1:(er != 0)=true:=by simp only [bne,e0,yj]
  rw [yg her] at hR
  subst hR
  clear HR her
  go_wp2
  go_ret2
  exact ⟨rfl,HB2.out⟩
 subst her
 rw [yh (by simp)] at hR
 by_cases hk:xk=0
 ·have e0:(xk==0)=true:=by rw [hk];rfl
  rw [yg hk] at hR
  subst hR
  clear HR hk
  go_wp2
  go_ret2
  exact ⟨rfl,HB2.out⟩
 have e0:(xk==0)=false:=by rw [yf];exact hk
 rw [yh hk] at hR
 have hq:=HQ.out
 have hxw:=HXW.out
 by_cases h6:xk=6
 case neg =>
  have e6:(xk==6)=false:=by rw [yf];exact h6
  have e7:(xk != 6)=true:=by simp only [bne,e6,yj]
  rw [yg (by rw [hxw,e6];rfl)] at hR
  subst hR
  clear HR hk h6 hq hxw HQ HXW
  go_wp2
  go_ret2
  exact ⟨rfl,HB2.out⟩
 have e6:(xk==6)=true:=by rw [h6];rfl
 have e7:(xk != 6)=false:=by simp only [bne,e6,Bool.not_true]
 by_cases hs:xs=s
 case neg =>
  rw [ye hs] at hq
  have e8:(xb.toList != sb.toList)=true:=by simp only [bne,hq,yj]
  rw [yg (by rw [hxw,e6];simp [hs])] at hR
  subst hR
  clear HR hk h6 hxw HQ HXW hs
  go_wp2
  go_ret2
  exact ⟨rfl,HB2.out⟩
 rw [yd hs] at hq
 have e8:(xb.toList != sb.toList)=false:=by simp only [bne,hq,Bool.not_true]
 rw [yh (by rw [hxw,e6,hs];simp)] at hR
 subst hR
 clear HR hk h6 hxw HQ HXW hs
 go_wp2
 go_ret2
 exact ⟨rfl,HB2.out⟩
theorem one_any {w:World} {a:Option Addr} {cap:Nat} {bs:List UInt8} (hr:Row w 1 a bs.length cap (bs.map u8C)) (hn:bs.length<=400000) (k:Int) (yq:Bool) (g:FuncId) (cb:Array Value) (p:Tk->Bool)
  (henter:∀args w,(callFunc g args).run Tryz.prog w=.ok (.enter g args) w)
  (hp:∀W,Below w.heap.size w W->∀x f t,Calls Tryz.prog g (#[.agg (tokN x f t)]++cb) W fun e w'=>e=.returned (.bool (p x))/\Below W.heap.size W w') :
  Calls Tryz.prog 76 #[.slice a bs.length cap,.int .i64 k,.bool yq,.func (.func g) #[] cb] w (OneEnd w (oneW p (zal bs k yq))):=by
 have HN:=yb (fun (W:World) (h:Below w.heap.size w W)=>zd8 (hr.mono h) hn k yq)
 obtain ⟨R,hR⟩:∃R,R=oneW p (zal bs k yq):=⟨_,rfl⟩
 rw [<-hR]
 unfold oneW at hR
 generalize zal bs k yq=V at *
 obtain ⟨x,f,t,er⟩:=V
 have HP:=yb (fun W h=>hp W h x f t)
 simp only at hR
 unfold zaB tokN at HN
 unfold tokN at HP
 simp only at HN
 have HR:=yb hR
 clear hr hR hn hp
 generalize p x=px at *
 obtain ⟨xk,xvk,xvn,xvs,xs⟩:=x
 simp only at HN HP HR
 generalize bs.length=L at *
 go_enter Tryz.func76,Tryz.ntmps76
 obtain ⟨B,hB⟩:∃B,B=w.heap.size:=⟨_,rfl⟩
 have HZ:=yb (zac (w:=w) (b:=B) (.cells #[.int .i64 0,.int .i64 0,.int .i64 0,.int .i64 0,.int .i64 0,.string ⟨#[]⟩,.slice none 0 0,.string ⟨#[]⟩] 150) hB)
 have HBW:=yb (zam w (.cells #[.int .i64 0,.int .i64 0,.int .i64 0,.int .i64 0,.int .i64 0,.string ⟨#[]⟩,.slice none 0 0,.string ⟨#[]⟩] 150))
 have HBB:=yb (Nat.le_of_eq hB.symm)
 go_upto_region 1 with fail
 rw [<-hB]
 clear hB
 generalize w.alloc _=W1 at *
 go_wp2_with fail
 refine (HN.out _ HBW.out).mono ?_
 rintro e w2 ⟨rfl,hb2⟩
 have hb2a:=hb2.alloc hb2.size (.cells #[.int .i64 xk,.int .i64 f,.int .i64 t,.int .i64 xvk,.int .i64 xvn,.string (mkB xvs),.slice none 0 0,.string (mkB xs)] 150)
 have HB2:=yo HBW hb2a
 have HT2:=yb (zac (w:=w2) (b:=w2.heap.size) (.cells #[.int .i64 xk,.int .i64 f,.int .i64 t,.int .i64 xvk,.int .i64 xvn,.string (mkB xvs),.slice none 0 0,.string (mkB xs)] 150) rfl)
 have HZ2:=yb (zab hb2a HZ.out)
 clear hb2 hb2a HN HZ
 go_upto_region 2 with fail
 obtain ⟨r2,hr2⟩:∃r2,r2=w2.heap.size:=⟨_,rfl⟩
 rw [<-hr2] at HT2 |-
 clear hr2
 generalize w2.alloc _=W2 at *
 obtain ⟨⟨t0,t1,t2,t3,t4,t5,t6,t7⟩,-⟩:=zag HT2.out
 obtain ⟨⟨z0,z1,z2,z3,z4,z5,z6,z7⟩,zf0,zf1,zf2,zf3,zf4,zf5,zf6,zf7⟩:=zag HZ2.out
 have hR:=HR.out
 by_cases her:er=0
 case neg =>
  have e0:(er==0)=false:=by rw [yf];exact her
  have e1:(er != 0)=true:=by simp only [bne,e0,yj]
  rw [yg her] at hR
  subst hR
  clear HR her HP henter
  go_wp2
  refine yi (zaa rfl _ _ B 150 _ (0,0) _ rfl (by exact set8 HZ2.out _ _ _ _ _ _ _ _) Tryz.underlying150 rfl (by exact zaL) _ rfl) rfl ?_
  exact ⟨rfl,za3 HB2.out HBB.out _ _ _ _ _ _ _ _⟩
 subst her
 rw [yh (by simp)] at hR
 by_cases hk:xk=0
 ·have e0:(xk==0)=true:=by rw [hk];rfl
  rw [yg hk] at hR
  subst hR
  clear HR hk HP henter
  go_wp2
  refine yi (zaa rfl _ _ B 150 _ (0,0) _ rfl (by exact set8 HZ2.out _ _ _ _ _ _ _ _) Tryz.underlying150 rfl (by exact zaL) _ rfl) rfl ?_
  exact ⟨rfl,za3 HB2.out HBB.out _ _ _ _ _ _ _ _⟩
 have e0:(xk==0)=false:=by rw [yf];exact hk
 rw [yh hk] at hR
 clear HR
 have HR:=yb hR
 clear hR hk
 go_wp2_with fail
 refine (HP.out _ HB2.out).mono ?_
 rintro e w3 ⟨rfl,hb3⟩
 have HB3:=yo HB2 hb3
 have HT3:=yb (zab hb3 HT2.out)
 have HZ3:=yb (zab hb3 HZ2.out)
 clear hb3 HP henter t0 t1 t2 t3 t4 t5 t6 t7 z0 z1 z2 z3 z4 z5 z6 z7 zf0 zf1 zf2 zf3 zf4 zf5 zf6 zf7
 obtain ⟨⟨t0,t1,t2,t3,t4,t5,t6,t7⟩,-⟩:=zag HT3.out
 obtain ⟨⟨z0,z1,z2,z3,z4,z5,z6,z7⟩,zf0,zf1,zf2,zf3,zf4,zf5,zf6,zf7⟩:=zag HZ3.out
 have hR:=HR.out
 cases px with
 | false =>
  rw [yg rfl] at hR
  subst hR
  clear HR
  go_wp2
  refine yi (zaa rfl _ _ B 150 _ (0,0) _ rfl (by exact set8 HZ3.out _ _ _ _ _ _ _ _) Tryz.underlying150 rfl (by exact zaL) _ rfl) rfl ?_
  exact ⟨rfl,za3 HB3.out HBB.out _ _ _ _ _ _ _ _⟩
 | true =>
  rw [yh (by decide)] at hR
  subst hR
  clear HR
  go_wp2
  refine yi (zaa rfl _ _ B 150 _ (0,0) _ rfl (by exact set8 HZ3.out _ _ _ _ _ _ _ _) Tryz.underlying150 rfl (by exact zaL) _ rfl) rfl ?_
  exact ⟨rfl,za3 HB3.out HBB.out _ _ _ _ _ _ _ _⟩
theorem pnumber_any {w:World} {a:Option Addr} {cap:Nat} {bs:List UInt8} (hr:Row w 1 a bs.length cap (bs.map u8C)) (hn:bs.length<=400000) (k:Int) (yq:Bool) :
  Calls Tryz.prog 57 #[.slice a bs.length cap,.int .i64 k,.bool yq] w (zdK w (oneW zaH (zal bs k yq))):=by
 have HO:=yb (one_any hr hn k yq 95 #[] zaH (enters_of Tryz.func95 (by kernel_rfl) rfl) (fun W _ x f t=>zg6 x f t W))
 generalize oneW zaH (zal bs k yq)=R at *
 obtain ⟨x,f,t,er⟩:=R
 unfold OneEnd tokN at HO
 unfold zdK
 simp only at HO |-
 clear hr hn
 generalize x.kind=xk at *
 generalize x.vk=xvk at *
 generalize x.vn=xvn at *
 generalize mkB x.vs=xvb at *
 generalize mkB x.s=xb at *
 generalize bs.length=L at *
 go_enter Tryz.func57,Tryz.ntmps57
 go_wp2_with fail
 refine HO.out.mono ?_
 rintro e w2 ⟨rfl,hb2⟩
 have HB2:=yb (hb2.alloc hb2.size (.cells #[.int .i64 xk,.int .i64 f,.int .i64 t,.int .i64 xvk,.int .i64 xvn,.string xvb,.slice none 0 0,.string xb] 150))
 have HT2:=yb (zac (w:=w2) (b:=w2.heap.size) (.cells #[.int .i64 xk,.int .i64 f,.int .i64 t,.int .i64 xvk,.int .i64 xvn,.string xvb,.slice none 0 0,.string xb] 150) rfl)
 clear hb2 HO
 go_upto_region 2 with fail
 obtain ⟨r2,hr2⟩:∃r2,r2=w2.heap.size:=⟨_,rfl⟩
 rw [<-hr2] at HT2 |-
 clear hr2
 generalize w2.alloc _=W2 at *
 obtain ⟨⟨t0,t1,t2,t3,t4,t5,t6,t7⟩,-⟩:=zag HT2.out
 go_wp2
 go_quiet (fail)
 go_wp2
 go_ret3
 exact ⟨rfl,zah HB2.out _⟩
theorem pword1_any {w:World} {b:Nat} {s:List UInt8} (hb:w.cell? ⟨b,0,none⟩=some (.string (mkB s))) (x:Tk) (f t:Int) :
  Calls Tryz.prog 77 #[.agg (tokN x f t),.pointer (some ⟨b,0,none⟩)] w fun e w'=>e=.returned (.bool (zfT s x))/\Below w.heap.size w w':=by
 have hq:((mkB x.s).toList==(mkB s).toList)=decide (x.s=s):=by rw [zaP s];exact zbM x.s s
 have hw:zfT s x=(x.kind==6&&decide (x.s=s)):=by unfold zfT;by_cases e:x.s=s<;>simp [e]
 rw [hw]
 unfold tokN
 have hb2:=cell?_keep (zam w (.cells #[.int .i64 x.kind,.int .i64 f,.int .i64 t,.int .i64 x.vk,.int .i64 x.vn,.string (mkB x.vs),.slice none 0 0,.string (mkB x.s)] 150)) hb
 generalize decide (x.s=s)=ds at *
 clear hw
 generalize x.kind=a0 at *
 generalize x.vk=a1 at *
 generalize x.vn=a2 at *
 generalize mkB x.vs=s1 at *
 generalize mkB x.s=s2 at *
 generalize mkB s=s3 at *
 have HK:=yb (zac (w:=w) (b:=w.heap.size) (.cells #[.int .i64 a0,.int .i64 f,.int .i64 t,.int .i64 a1,.int .i64 a2,.string s1,.slice none 0 0,.string s2] 150) rfl)
 have HB:=yb (zam w (.cells #[.int .i64 a0,.int .i64 f,.int .i64 t,.int .i64 a1,.int .i64 a2,.string s1,.slice none 0 0,.string s2] 150))
 cases h0:(a0==6)
 ·go_enter Tryz.func77,Tryz.ntmps77
  go_upto_region 1 with fail
  obtain ⟨r,hr⟩:∃r,r=w.heap.size:=⟨_,rfl⟩
  rw [<-hr] at HK |-
  clear hr
  generalize w.alloc _=W1 at *
  obtain ⟨⟨k0,k1,k2,k3,k4,k5,k6,k7⟩,-⟩:=zag HK.out
  go_wp2
  go_ret
  exact ⟨rfl,HB.out⟩
 ·cases ds
  ·go_enter Tryz.func77,Tryz.ntmps77
   go_upto_region 1 with fail
   obtain ⟨r,hr⟩:∃r,r=w.heap.size:=⟨_,rfl⟩
   rw [<-hr] at HK |-
   clear hr
   generalize w.alloc _=W1 at *
   obtain ⟨⟨k0,k1,k2,k3,k4,k5,k6,k7⟩,-⟩:=zag HK.out
   go_wp2
   go_ret
   exact ⟨rfl,HB.out⟩
  ·go_enter Tryz.func77,Tryz.ntmps77
   go_upto_region 1 with fail
   obtain ⟨r,hr⟩:∃r,r=w.heap.size:=⟨_,rfl⟩
   rw [<-hr] at HK |-
   clear hr
   generalize w.alloc _=W1 at *
   obtain ⟨⟨k0,k1,k2,k3,k4,k5,k6,k7⟩,-⟩:=zag HK.out
   go_wp2
   go_ret
   exact ⟨rfl,HB.out⟩
theorem pword12_any {w:World} {a:Option Addr} {cap:Nat} {bs:List UInt8} (hr:Row w 1 a bs.length cap (bs.map u8C)) (hn:bs.length<=400000) (k:Int) (yq:Bool) (s:List UInt8) :
  Calls Tryz.prog 43 #[.slice a bs.length cap,.int .i64 k,.bool yq,.string (mkB s)] w (zdd w (oneW (zfT s) (zal bs k yq))):=by
 have hbw:=zam w (.cells #[.string (mkB s)] 9)
 have hkw:=zac (w:=w) (b:=w.heap.size) (.cells #[.string (mkB s)] 9) rfl
 have hcw:(w.alloc (.cells #[.string (mkB s)] 9)).cell? ⟨w.heap.size,0,none⟩=some (.string (mkB s)):=by rw [cell_of_row _ _ 0 _ _ _ hkw];rfl
 have HO:=yb (one_any (hr.mono hbw) hn k yq 77 #[.pointer (some ⟨w.heap.size,0,none⟩)] (zfT s) (enters_of Tryz.func77 (by kernel_rfl) rfl) (fun W hW x f t=>pword1_any (cell?_keep hW hcw) x f t))
 have HBW:=yb hbw
 generalize oneW (zfT s) (zal bs k yq)=R at *
 obtain ⟨x,f,t,er⟩:=R
 unfold OneEnd tokN at HO
 unfold zdd
 simp only at HO |-
 clear hr hn hbw hkw hcw
 generalize x.kind=xk at *
 generalize x.vk=xvk at *
 generalize x.vn=xvn at *
 generalize mkB x.vs=xvb at *
 generalize mkB x.s=xb at *
 generalize bs.length=L at *
 generalize mkB s=sb at *
 go_enter Tryz.func43,Tryz.ntmps43
 go_upto_region 1 with fail
 obtain ⟨B,hB⟩:∃B,B=w.heap.size:=⟨_,rfl⟩
 rw [<-hB] at HO |-
 have HBB:=yb (Nat.le_of_eq hB.symm)
 clear hB
 generalize w.alloc _=W1 at *
 go_wp2_with fail
 refine HO.out.mono ?_
 rintro e w2 ⟨rfl,hb2⟩
 have HB2:=yb (HBW.out.trans ((hb2.alloc hb2.size (.cells #[.int .i64 xk,.int .i64 f,.int .i64 t,.int .i64 xvk,.int .i64 xvn,.string xvb,.slice none 0 0,.string xb] 150)).mono HBW.out.size))
 have HT2:=yb (zac (w:=w2) (b:=w2.heap.size) (.cells #[.int .i64 xk,.int .i64 f,.int .i64 t,.int .i64 xvk,.int .i64 xvn,.string xvb,.slice none 0 0,.string xb] 150) rfl)
 clear hb2 HO
 go_upto_region 2 with fail
 obtain ⟨r2,hr2⟩:∃r2,r2=w2.heap.size:=⟨_,rfl⟩
 rw [<-hr2] at HT2 |-
 clear hr2
 generalize w2.alloc _=W2 at *
 obtain ⟨⟨t0,t1,t2,t3,t4,t5,t6,t7⟩,-⟩:=zag HT2.out
 go_wp2
 go_ret2
 exact ⟨rfl,HB2.out⟩
theorem oneX_le {bs:List UInt8} {k:Int} {p:Tk->Bool} (h:(oneX p (zal bs k yq)).2=0):0<=(oneX p (zal bs k yq)).1/\(oneX p (zal bs k yq)).1<=bs.length:=by
 by_cases hk:k<0\/(bs.length:Int)<k
 ·unfold oneX zal at h
  rw [yg hk] at h
  simp at h
 ·obtain ⟨h1,h2⟩:=za1 (bs:=bs) (k:=k) yq (by omega) (by omega)
  unfold oneX at h |-
  split
  ·exact ⟨Int.le_refl _,by show (0:Int)<=_;omega⟩
  ·split
   ·exact ⟨Int.le_refl _,by show (0:Int)<=_;omega⟩
   ·split
    ·exact ⟨Int.le_refl _,by show (0:Int)<=_;omega⟩
    ·exact ⟨by show (0:Int)<=(zal bs k yq).2.2.1;omega,h2⟩
theorem grps_le {bs:List UInt8} {yq:Bool}:∀(g:Nat) (gs:List Grp) (k:Int),gs.length+g=65->0<=k->k<=bs.length->0<=(zbF bs yq g gs k).2.1/\(zbF bs yq g gs k).2.1<=bs.length
 | 0,_,_,_,_,_=>⟨Int.le_refl _,by show (0:Int)<=_;omega⟩
 | g+1,gs,k,hg,h0,h1=>by
  have hto:=za1 (bs:=bs) (k:=k) yq h0 h1
  rw [<-nxt_3] at hto
  by_cases he:(nxtV bs yq k).2.2.2=0
  case neg=>rw [zha he];exact ⟨Int.le_refl _,by show (0:Int)<=_;omega⟩
  cases ht:zdZ (nxtV bs yq k).1 with
  | true=>rw [zek he ht];exact ⟨by show (0:Int)<=(nxtV bs yq k).2.2.1;omega,hto.2⟩
  | false =>
   by_cases hl:gs.length=64
   ·cases hw:zaH (nxtV bs yq k).1 with
    | false=>rw [grps_bad he ht hw];exact ⟨Int.le_refl _,by show (0:Int)<=_;omega⟩
    | true=>rw [grps_full he ht hw hl];exact ⟨Int.le_refl _,by show (0:Int)<=_;omega⟩
   ·rw [grps_step he ht hl]
    split
    ·exact ⟨Int.le_refl _,by show (0:Int)<=_;omega⟩
    ·obtain ⟨g1,g2⟩:=grp1_le (bs:=bs) (yq:=yq) (x:=(nxtV bs yq k).1) (k:=(nxtV bs yq k).2.2.1) (by omega) hto.2
     exact grps_le g _ _ (by rw [List.length_append];simp;omega) g1 g2
theorem oneW_X (p:Tk->Bool) (V:Tk×Int×Int×Int):(oneW p V).2.2.1=(oneX p V).1/\(oneW p V).2.2.2=(oneX p V).2:=by
 unfold oneW oneX
 split
 ·exact ⟨rfl,rfl⟩
 ·split
  ·exact ⟨rfl,rfl⟩
  ·split
   ·exact ⟨rfl,rfl⟩
   ·exact ⟨rfl,rfl⟩
theorem set5 {w:World} {b:Nat} (h:w.heap[b]?=some (.cells #[x0,x1,x2,x3,x4] t (0,0))) (y0 y1 y2 y3 y4:Value) :
  (((((w.setCell ⟨b,0,none⟩ y0).setCell ⟨b,1,none⟩ y1).setCell ⟨b,2,none⟩ y2).setCell ⟨b,3,none⟩ y3).setCell ⟨b,4,none⟩ y4).heap[b]?=some (.cells #[y0,y1,y2,y3,y4] t (0,0)):=by
 rw [heap_setCell_same _ _ 4 _ _ _ (heap_setCell_same _ _ 3 _ _ _ (heap_setCell_same _ _ 2 _ _ _ (heap_setCell_same _ _ 1 _ _ _ (heap_setCell_same w _ 0 _ _ _ h))))];rfl
theorem zb8 {w:World} (h:Below B w0 w) {b:Nat} (hb:B<=b) (y0 y1 y2 y3 y4:Value):Below B w0 (((((w.setCell ⟨b,0,none⟩ y0).setCell ⟨b,1,none⟩ y1).setCell ⟨b,2,none⟩ y2).setCell ⟨b,3,none⟩ y3).setCell ⟨b,4,none⟩ y4) :=
 ((((h.setCell hb _).setCell hb _).setCell hb _).setCell hb _).setCell hb _
theorem zbn {w:World} {b:Nat} (h:w.heap[b]?=some (.cells #[x0,x1,x2,x3,x4] t (0,0))) :
  (w.cell? ⟨b,0,none⟩=some x0/\w.cell? ⟨b,1,none⟩=some x1/\w.cell? ⟨b,2,none⟩=some x2/\w.cell? ⟨b,3,none⟩=some x3/\w.cell? ⟨b,4,none⟩=some x4) /\
  (w.frozen? ⟨b,0,none⟩=false/\w.frozen? ⟨b,1,none⟩=false/\w.frozen? ⟨b,2,none⟩=false/\w.frozen? ⟨b,3,none⟩=false/\w.frozen? ⟨b,4,none⟩=false):=by
 refine ⟨⟨?_,?_,?_,?_,?_⟩,frozen_of_row w b 0 _ _ h,frozen_of_row w b 1 _ _ h,frozen_of_row w b 2 _ _ h,frozen_of_row w b 3 _ _ h,frozen_of_row w b 4 _ _ h⟩
 ·rw [cell_of_row w b 0 _ _ _ h];rfl
 ·rw [cell_of_row w b 1 _ _ _ h];rfl
 ·rw [cell_of_row w b 2 _ _ _ h];rfl
 ·rw [cell_of_row w b 3 _ _ _ h];rfl
 ·rw [cell_of_row w b 4 _ _ _ h];rfl
theorem zgZ {s:Sec} (h:zb1 W (fun b=>B<=b) s gv sl) (hr:r<B) (y0 y1 y2 y3 y4:Value) :
  zb1 (((((W.setCell ⟨r,0,none⟩ y0).setCell ⟨r,1,none⟩ y1).setCell ⟨r,2,none⟩ y2).setCell ⟨r,3,none⟩ y3).setCell ⟨r,4,none⟩ y4) (fun b=>B<=b) s gv sl :=
 h.keep ⟨by simp [World.setCell],fun b _ hF=>by
  have hb:b≠r:=by omega
  rw [heap_setCell_other _ _ _ _ hb,heap_setCell_other _ _ _ _ hb,heap_setCell_other _ _ _ _ hb,heap_setCell_other _ _ _ _ hb,heap_setCell_other _ _ _ _ hb]⟩ (fun _ h=>h)
theorem zc6:(Tryz.prog.info? 29).map (·.size)=some 5:=by kernel_rfl
def zeM (w:World) (V:Sec×Int×Int) (e:Ending) (w':World):Prop :=
 ∃gv sl,e=.returned (.tuple #[secA V.1 gv sl,.int .i64 V.2.1,.int .i64 V.2.2])/\zb1 w' (fun b=>w.heap.size<=b) V.1 gv sl/\Below w.heap.size w w'
theorem zgm {w:World} {V:Sec×Int×Int} {e:Int} (hV:V=(Sec.none,0,e)) (hb:Below w.heap.size w W) (hr:w.heap.size<=r) (y0 y1 y2 y3 y4:Value) :
  zeM w V (.returned (.tuple #[.agg #[.slice none 0 0,.int .i64 0,.int .i64 0,.string ⟨#[]⟩,.slice none 0 0],.int .i64 0,.int .i64 e])) (((((W.setCell ⟨r,0,none⟩ y0).setCell ⟨r,1,none⟩ y1).setCell ⟨r,2,none⟩ y2).setCell ⟨r,3,none⟩ y3).setCell ⟨r,4,none⟩ y4):=by
 subst hV
 exact ⟨_,_,rfl,zeu _ _,zb8 hb hr _ _ _ _ _⟩
theorem xparse_any {w:World} {a:Option Addr} {cap:Nat} {bs:List UInt8} (hr:Row w 1 a bs.length cap (bs.map u8C)) (hn:bs.length<=390000) (k:Int) (yq:Bool) :
  Calls Tryz.prog 11 #[.slice a bs.length cap,.int .i64 k,.bool yq] w (zeM w (secV bs yq k)):=by
 have HW:=yb (fun (W:World) (h:Below w.heap.size w W)=>pword12_any (hr.mono h) (by omega) k yq [120,114,101,102])
 have HOL:=yb (fun h=>oneX_le (bs:=bs) (yq:=yq) (k:=k) (p:=zdM) h)
 obtain ⟨o1,o2⟩:=oneW_X zdM (zal bs k yq)
 unfold zdd at HW
 rw [show zfT [120,114,101,102]=zdM from rfl,o1,o2] at HW
 clear o1 o2
 obtain ⟨V,hV⟩:∃V,V=secV bs yq k:=⟨_,rfl⟩
 rw [<-hV]
 unfold secV at hV
 simp only at hV
 generalize oneX zdM (zal bs k yq)=O at *
 obtain ⟨ot,oe⟩:=O
 simp only at hV HW HOL
 have HGV:=yb (fun (W:World) (w0:World) (p:Nat) (h:IsRd w0 W p a cap bs yq ot) (h1:0<=ot) (h2:ot<=bs.length)=>xgroups_any h h1 h2)
 have HGE:=yb (fun (h1:0<=ot) (h2:ot<=bs.length)=>grps_le (bs:=bs) (yq:=yq) 65 [] ot rfl h1 h2)
 generalize zbF bs yq 65 [] ot=G at *
 obtain ⟨gs,gt,ge⟩:=G
 unfold GsEnd at HGV
 simp only at hV HGV HGE
 have HPV:=yb (fun (W:World) (h:Below w.heap.size w W) (h1:0<=gt) (h2:gt<=bs.length)=>show Calls Tryz.prog 45 #[.slice a bs.length cap,.int .i64 gt,.bool yq] W (zbP W (zbB bs yq gt)) from value_any (hr.mono h) (by omega) gt yq _ (parse_doc h1 h2))
 generalize zbB bs yq gt=P at *
 obtain ⟨x,xt,xe⟩:=P
 unfold zbP at HPV
 simp only at hV HPV
 have HV:=yb hV
 have HRB:=yb hr
 clear hV hr
 obtain ⟨r,hr⟩:∃r,r=w.heap.size:=⟨_,rfl⟩
 have HZ1:=yb (zac (w:=w) (b:=r) (.cells #[.slice none 0 0,.int .i64 0,.int .i64 0,.string ⟨#[]⟩,.slice none 0 0] 29) hr)
 have HB1:=yb (zam w (.cells #[.slice none 0 0,.int .i64 0,.int .i64 0,.string ⟨#[]⟩,.slice none 0 0] 29))
 have HRW:=yb (Nat.le_of_eq hr.symm)
 go_enter Tryz.func11,Tryz.ntmps11
 go_upto_region 1 with fail
 rw [<-hr]
 clear hr
 generalize w.alloc _=W1 at *
 go_wp2_with fail
 refine (HW.out _ HB1.out).mono ?_
 rintro e w2 ⟨rfl,hb2⟩
 have HZ2:=yb (zab hb2 HZ1.out)
 have HB2:=yo HB1 hb2
 clear HZ1 HB1 HW hb2
 obtain ⟨⟨z0,z1,z2,z3,z4⟩,y0,y1,y2,y3,y4⟩:=zbn HZ2.out
 by_cases hoe:oe=0
 case neg =>
  have HV2:=yb (HV.out.trans (yg hoe))
  have e0:(oe==0)=false:=by rw [yf];exact hoe
  have e1:(oe != 0)=true:=by simp only [bne,e0,yj]
  clear hoe
  go_wp2
  refine yi (zae rfl _ _ r 29 _ (0,0) _ rfl (by exact set5 HZ2.out _ _ _ _ _) Tryz.underlying29 rfl (by exact zc6) _ _ rfl rfl) rfl ?_
  exact zgm HV2.out HB2.out HRW.out _ _ _ _ _
 subst hoe
 have HV2:=yb (HV.out.trans (yh (by simp)))
 obtain ⟨ho1,ho2⟩:=HOL.out rfl
 have HO:=yb (And.intro ho1 ho2)
 clear HV HOL ho1 ho2
 have HI3:=yb (show IsRd w2 (w2.alloc (.cells #[.slice a bs.length cap,.int .i64 ot,.bool yq] 103)) w2.heap.size a cap bs yq ot from ⟨zac _ rfl,yp _,HRB.out.mono HB2.out,zam _ _,by omega⟩)
 have HZ3:=yb (zak (.cells #[.slice a bs.length cap,.int .i64 ot,.bool yq] 103) HZ2.out)
 have HB3:=yb (HB2.out.alloc HB2.out.size (.cells #[.slice a bs.length cap,.int .i64 ot,.bool yq] 103))
 have HPR:=yb (show r≠w2.heap.size by have:=zai HZ2.out;omega)
 clear HZ2 z0 z1 z2 z3 z4 y0 y1 y2 y3 y4
 go_upto_region 5 with fail
 have HP2:=yb HB2.out.size
 generalize w2.heap.size=p at *
 generalize World.alloc _ _=W3 at *
 go_wp2_with fail
 refine (HGV.out _ _ _ HI3.out HO.out.1 HO.out.2).mono ?_
 rintro e w4 ⟨gv,rfl,hg4,⟨at2,hi4,hat⟩,hk4⟩
 have HZ4:=yb (hk4.obj HZ3.out HPR.out)
 have HB4:=yb (HB3.out.trans (hk4.below (B:=w.heap.size) HB3.out.size (fun b hb=>by rw [hb];exact HP2.out)))
 have HI4:=yb hi4
 have HG4:=yb hg4
 have HAT:=yb hat
 have HW3:=yb (show w.heap.size<=W3.heap.size/\r<W3.heap.size from ⟨HB3.out.size,zai HZ3.out⟩)
 clear HZ3 HB3 HI3 hk4 hi4 hg4 hat HGV
 obtain ⟨⟨z0,z1,z2,z3,z4⟩,y0,y1,y2,y3,y4⟩:=zbn HZ4.out
 obtain ⟨⟨c0,c1,c2⟩,f0,f1,f2⟩:=HI4.out.cells
 by_cases hge:ge=0
 case neg =>
  have HV3:=yb (HV2.out.trans (yg hge))
  have e0:(ge==0)=false:=by rw [yf];exact hge
  have e1:(ge != 0)=true:=by simp only [bne,e0,yj]
  clear hge
  go_wp2
  refine yi (zae rfl _ _ r 29 _ (0,0) _ rfl (by exact set5 HZ4.out _ _ _ _ _) Tryz.underlying29 rfl (by exact zc6) _ _ rfl rfl) rfl ?_
  exact zgm HV3.out HB4.out HRW.out _ _ _ _ _
 subst hge
 have HV3:=yb (HV2.out.trans (yh (by simp)))
 obtain rfl:at2=gt:=HAT.out rfl
 have HGG:=yb (HGE.out HO.out.1 HO.out.2)
 obtain ⟨ga,gc,rfl,-,-,-⟩:=HG4.out.len
 clear HV2 HAT HGE
 go_wp2_with fail
 refine (HPV.out _ HB4.out HGG.out.1 HGG.out.2).mono ?_
 rintro e w5 ⟨sl,rfl,hx5,hb5⟩
 obtain ⟨sa,sc,rfl,-,-,-⟩:=hx5.len
 simp only [pvA]
 have hb5a:=hb5.alloc hb5.size (.cells #[.int .i64 x.kind,.int .i64 x.n,.string (mkB x.s),.slice sa x.l.length sc] 27)
 have HT5:=yb (zac (w:=w5) (b:=w5.heap.size) (.cells #[.int .i64 x.kind,.int .i64 x.n,.string (mkB x.s),.slice sa x.l.length sc] 27) rfl)
 have HX5:=yb (hx5.below (zam w5 (.cells #[.int .i64 x.kind,.int .i64 x.n,.string (mkB x.s),.slice sa x.l.length sc] 27)))
 have HG5:=yb (HG4.out.below hb5a)
 have HZ5:=yb (zab hb5a HZ4.out)
 have HB5:=yo HB4 hb5a
 have HW4:=yb (show w.heap.size<=w4.heap.size/\r<w4.heap.size from ⟨HB4.out.size,zai HZ4.out⟩)
 clear hb5 hb5a hx5 HPV HZ4 HB4 HG4 HI4 z0 z1 z2 z3 z4 y0 y1 y2 y3 y4 c0 c1 c2 f0 f1 f2
 go_upto_region 9 with fail
 generalize w5.heap.size=T at *
 generalize World.alloc _ _=W5 at *
 obtain ⟨⟨t0,t1,t2,t3⟩,-⟩:=zaf HT5.out
 obtain ⟨⟨z0,z1,z2,z3,z4⟩,y0,y1,y2,y3,y4⟩:=zbn HZ5.out
 by_cases hxe:xe=0
 case neg =>
  have HV4:=yb (HV3.out.trans (yg hxe))
  have e0:(xe==0)=false:=by rw [yf];exact hxe
  have e1:(xe != 0)=true:=by simp only [bne,e0,yj]
  clear hxe HX5 HG5
  go_wp2
  refine yi (zae rfl _ _ r 29 _ (0,0) _ rfl (by exact set5 HZ5.out _ _ _ _ _) Tryz.underlying29 rfl (by exact zc6) _ _ rfl rfl) rfl ?_
  exact zgm HV4.out HB5.out HRW.out _ _ _ _ _
 subst hxe
 have HV4:=yb (HV3.out.trans (yh (by simp)))
 clear HV3
 by_cases hxk:x.kind=7
 case neg =>
  have HV5:=yb (HV4.out.trans (yg hxk))
  have e0:(x.kind==7)=false:=by rw [yf];exact hxk
  have e1:(x.kind != 7)=true:=by simp only [bne,e0,yj]
  clear hxk HX5 HG5 HV4
  generalize x.kind=xk at *
  go_wp2
  refine yi (zae rfl _ _ r 29 _ (0,0) _ rfl (by exact set5 HZ5.out _ _ _ _ _) Tryz.underlying29 rfl (by exact zc6) _ _ rfl rfl) rfl ?_
  exact zgm HV5.out HB5.out HRW.out _ _ _ _ _
 have HV5:=yb (HV4.out.trans (yh (fun h=>h hxk)))
 have e0:(x.kind==7)=true:=by rw [beq_iff_eq];exact hxk
 have e1:(x.kind != 7)=false:=by simp only [bne,e0,Bool.not_true]
 clear hxk HV4
 have HSC:=yb (show zb1 W5 (fun b=>W3.heap.size<=b\/w4.heap.size<=b) ⟨gs,x⟩ (.slice ga gs.length gc) (.slice sa x.l.length sc) from ⟨HG5.out.keep (zaK.refl _ _) (fun b hb=>.inl hb),HX5.out.weaken (fun b hb=>.inr hb)⟩)
 have HS2:=yb (fun y0 y1 y2 y3 y4=>zgZ (s:=⟨gs,x⟩) (gv:=.slice ga gs.length gc) (sl:=.slice sa x.l.length sc) (B:=r+1) (HSC.out.keep (zaK.refl _ _) (fun b hb=>by have:=HW3.out.2;have:=HW4.out.2;show r+1<=b;omega)) (Nat.lt_succ_self r) y0 y1 y2 y3 y4)
 clear HX5 HG5 HSC
 have HPA:=yb (show secA ⟨gs,x⟩ (.slice ga gs.length gc) (.slice sa x.l.length sc)=.agg #[.slice ga gs.length gc,.int .i64 x.kind,.int .i64 x.n,.string (mkB x.s),.slice sa x.l.length sc] from rfl)
 generalize x.kind=xk at *
 generalize x.n=xn at *
 generalize mkB x.s=xb at *
 go_wp2
 refine yi (zae rfl _ _ r 29 _ (0,0) _ rfl (by exact set5 HZ5.out _ _ _ _ _) Tryz.underlying29 rfl (by exact zc6) _ _ rfl rfl) rfl ?_
 rw [HV5.out]
 refine ⟨.slice ga gs.length gc,.slice sa x.l.length sc,by rw [HPA.out];rfl,?_,zb8 HB5.out HRW.out _ _ _ _ _⟩
 exact (HS2.out _ _ _ _ _).keep (zaK.refl _ _) (fun b hb=>by have:=HRW.out;show w.heap.size<=b;omega)
theorem find_go {gs:List Grp} {c:Nat} {g:Grp} {n:Int} (hg:gs[c]?=some g) (h:¬(g.first<=n/\n-g.first<(g.es.length:Int))):zca (gs.drop c) n=zca (gs.drop (c+1)) n:=by
 obtain ⟨hc,rfl⟩:=List.getElem?_eq_some_iff.1 hg
 rw [List.drop_eq_getElem_cons hc,zca,yh h]
theorem find_hit {gs:List Grp} {c:Nat} {g:Grp} {n:Int} (hg:gs[c]?=some g) (h:g.first<=n/\n-g.first<(g.es.length:Int)):zca (gs.drop c) n=some (g.es.getD (n-g.first).toNat {}):=by
 obtain ⟨hc,rfl⟩:=List.getElem?_eq_some_iff.1 hg
 rw [List.drop_eq_getElem_cons hc,zca,yg h]
def zgG (gs:List Grp):Prop:=∀g∈gs,-2000000000000000000<=g.first/\g.first<=2000000000000000000/\g.es.length<=100000
theorem xfind_any {w:World} {s:Sec} (h:zb1 w F s gv sl) (n:Int) (hs:zgG s.gs) (hn0:-2000000000000000000<=n) (hn1:n<=2000000000000000000) :
  Calls Tryz.prog 16 #[secA s gv sl,.int .i64 n] w fun e w'=>e=.returned (.tuple #[entA (findP (zca s.gs n)).1,.bool (findP (zca s.gs n)).2])/\Below w.heap.size w w':=by
 obtain ⟨gs,x⟩:=s
 simp only at hs |-
 obtain ⟨ga,gc,rfl,hgc,hgm,-⟩:=h.1.len
 simp only at hgc
 obtain ⟨V,hV⟩:∃V,V=zca gs n:=⟨_,rfl⟩
 rw [<-hV]
 have HV:=yb hV
 have HS:=yb hs
 have HGA:=yb (fun (W:World) (hb:Below w.heap.size w W)=>(h.1.below hb))
 simp only at HGA
 clear hV hs
 unfold secA
 simp only
 obtain ⟨sa,sc,rfl,-,-,-⟩:=h.2.len
 simp only at h |-
 clear h
 have hg63:(gs.length:Int)<=9223372036854775807:=by unfold maxLen at hgm;omega
 generalize x.kind=xk at *
 generalize x.n=xn at *
 generalize mkB x.s=xb at *
 generalize x.l.length=xl at *
 obtain ⟨B,hB⟩:∃B,B=w.heap.size:=⟨_,rfl⟩
 have HB1:=yb (zbm w (.cells #[.slice ga gs.length gc,.int .i64 xk,.int .i64 xn,.string xb,.slice sa xl sc] 29) (.cells #[.int .i64 0,.int .i64 0,.bool false] 44))
 have HX1:=yb (zak (w:=w.alloc (.cells #[.slice ga gs.length gc,.int .i64 xk,.int .i64 xn,.string xb,.slice sa xl sc] 29)) (.cells #[.int .i64 0,.int .i64 0,.bool false] 44) (zac (w:=w) (b:=B) (.cells #[.slice ga gs.length gc,.int .i64 xk,.int .i64 xn,.string xb,.slice sa xl sc] 29) hB))
 have HZ1:=yb (zac (w:=w.alloc (.cells #[.slice ga gs.length gc,.int .i64 xk,.int .i64 xn,.string xb,.slice sa xl sc] 29)) (b:=B+1) (.cells #[.int .i64 0,.int .i64 0,.bool false] 44) (by rw [zan,hB]))
 have HRW:=yb (show w.heap.size<=B+1 by omega)
 go_enter Tryz.func16,Tryz.ntmps16
 go_upto_region 1 with fail
 try rw [<-hB]
 generalize World.alloc _ _=W1 at *
 clear hB
 generalize B+1=r at *
 obtain ⟨⟨x0,x1,x2,x3,x4⟩,-⟩:=zbn HX1.out
 go_wp2_with fail
 clear x0 x1 x2 x3 x4 HX1
 go_loopw [11] (fun v wr=>∃c:Nat,v=.int .i64 c/\c<=gs.length/\Hid (Below w.heap.size w wr)/\Hid (wr.heap[r]?=some (.cells #[.int .i64 0,.int .i64 0,.bool false] 44 (0,0)))/\Hid (V=zca (gs.drop c) n)) (fun v _=>gs.length-(intOf v).toNat)
 case atStart=>exact ⟨0,rfl,Nat.zero_le _,HB1,HZ1,HV⟩
 case round =>
  obtain ⟨c,rfl,hc,HB,HZ,HQ⟩:=hrel
  by_cases hlt:c<gs.length
  ·have hcd:decide ((c:Int)<(gs.length:Int))=true:=by simp;omega
   have hcd2:decide (c<gs.length)=true:=by simp;omega
   obtain ⟨-,-,-,b,off,ha,-,-,hat⟩:=(HGA.out wr HB.out).at (by omega)
   subst ha
   obtain ⟨g,hg⟩:∃g,gs[c]?=some g:=⟨_,List.getElem?_eq_getElem hlt⟩
   obtain ⟨v,hv,g0,g1⟩:=hat c g hg
   obtain ⟨ea,ec,rfl,hel,hec,-⟩:=hv.len
   obtain ⟨hs1,hs2,-⟩:=HS.out g (List.mem_of_getElem? hg)
   have HIE:=yb hv
   have HGO:=yb (fun h=>HQ.out.trans (find_go hg h))
   have HHT:=yb (fun h=>HQ.out.trans (find_hit hg h))
   have he63:(g.es.length:Int)<=9223372036854775807:=by unfold maxLen at hec;omega
   clear hat hv hg HQ
   obtain ⟨gf,ge⟩:=g
   simp only at *
   have HBA:=yb (HB.out.alloc HB.out.size (.cells #[.int .i64 gf,.slice ea ge.length ec] 42))
   have HZA:=yb (zak (.cells #[.int .i64 gf,.slice ea ge.length ec] 42) HZ.out)
   by_cases h1:gf<=n
   case neg =>
    have HQ2:=yb (HGO.out (fun h=>h1 h.1))
    have hd:decide (gf<=n)=false:=ye h1
    go_wp2
    go_roundw
    case rel=>exact ⟨c+1,by go_num,by omega,HBA,HZA,HQ2⟩
    case measure=>simp [intOf];omega
   obtain ⟨m,hm⟩:∃m:Nat,n-gf=(m:Int):=⟨(n-gf).toNat,by omega⟩
   have hd:decide (gf<=n)=true:=yd h1
   by_cases h2:m<ge.length
   case neg =>
    have HQ2:=yb (HGO.out (fun h=>h2 (by omega)))
    have hd2:decide (m<ge.length)=false:=ye h2
    have hd3:decide ((m:Int)<(ge.length:Int))=false:=ye (by omega)
    go_wp2
    go_roundw
    case rel=>exact ⟨c+1,by go_num,by omega,HBA,HZA,HQ2⟩
    case measure=>simp [intOf];omega
   have HQ2:=yb (HHT.out ⟨h1,by omega⟩)
   rw [hm,Int.toNat_natCast] at HQ2
   obtain ⟨-,-,-,be,oe,hae,hbe,-,hae2⟩:=HIE.out.at (by omega)
   subst hae
   obtain ⟨ee,hee⟩:∃ee,ge[m]?=some ee:=⟨_,List.getElem?_eq_getElem h2⟩
   obtain ⟨e0,e1,e2⟩:=hae2 m ee hee
   have HEE:=yb (show ge.getD m {}=ee by rw [List.getD_eq_getElem?_getD,hee];rfl)
   rw [HEE.out] at HQ2
   have hd2:decide (m<ge.length)=true:=yd h2
   have hd3:decide ((m:Int)<(ge.length:Int))=true:=yd (by omega)
   clear hae2 hee HEE HIE HGO HHT
   have e0:=zbe (.cells #[.int .i64 gf,.slice (some ⟨be,oe,none⟩) ge.length ec] 42) e0
   have e1:=zbe (.cells #[.int .i64 gf,.slice (some ⟨be,oe,none⟩) ge.length ec] 42) e1
   have e2:=zbe (.cells #[.int .i64 gf,.slice (some ⟨be,oe,none⟩) ge.length ec] 42) e2
   obtain ⟨⟨z0,z1,z2⟩,y0,y1,y2⟩:=zcH HZA.out
   go_wp2
   refine yi (zaa rfl _ _ r 44 _ (0,0) _ rfl (by exact zf9 HZA.out _ _ _) Tryz.underlying44 rfl (by exact zct) _ rfl) rfl ?_
   rw [HQ2.out]
   exact ⟨rfl,((HBA.out.setCell HRW.out _).setCell HRW.out _).setCell HRW.out _⟩
  ·have hce:c=gs.length:=by omega
   have hcd:decide ((c:Int)<(gs.length:Int))=false:=ye (by omega)
   have hcd2:decide (c<gs.length)=false:=ye (by omega)
   have HQ2:=yb (HQ.out.trans (show zca (gs.drop c) n=none by rw [hce,List.drop_length];rfl))
   obtain ⟨⟨z0,z1,z2⟩,y0,y1,y2⟩:=zcH HZ.out
   clear hce
   go_wp2
   refine yi (zaa rfl _ _ r 44 _ (0,0) _ rfl (by exact zf9 HZ.out _ _ _) Tryz.underlying44 rfl (by exact zct) _ rfl) rfl ?_
   rw [HQ2.out]
   exact ⟨rfl,((HB.out.setCell HRW.out _).setCell HRW.out _).setCell HRW.out _⟩
structure SmM (w W:World) (B1 B2:Nat) (c1 c2:Array Value):Prop where
 bel:Below w.heap.size w W
 one:W.heap[B1]?=some (.cells c1 33 (0,0))
 two:W.heap[B2]?=some (.cells c2 33 (0,0))
theorem SmM.on {w:World} {B1 B2:Nat} {c1 c2:Array Value} (h:SmM w W B1 B2 c1 c2) (hb:Below W.heap.size W W'):SmM w W' B1 B2 c1 c2 :=
 ⟨h.bel.trans (hb.mono h.bel.size),zab hb h.one,zab hb h.two⟩
structure GgM (W W':World) (b1 b2:Nat) (c1 c2:Array Value):Prop where
 bel:Below W.heap.size W W'
 one:W'.heap[b1]?=some (.cells c1 42 (0,0))
 two:W'.heap[b2]?=some (.cells c2 42 (0,0))
theorem GgM.on {w:World} {B1 B2:Nat} {c1 c2:Array Value} (h:GgM w W B1 B2 c1 c2) (hb:Below W.heap.size W W'):GgM w W' B1 B2 c1 c2 :=
 ⟨h.bel.trans (hb.mono h.bel.size),zab hb h.one,zab hb h.two⟩
theorem zfI (s:ByteArray) (w:World) (hs:s.size<=100000) :
  Calls Tryz.prog 86 #[.string s] w (DigEnd (zaC (bl s)) w):=by
 obtain ⟨V,hV⟩:∃V,V=zaC (bl s):=⟨_,rfl⟩
 rw [<-hV]
 have HV:=yb hV
 clear hV
 by_cases h0:s.size=0
 ·have HE:=yb (show V=(0,11) by rw [HV.out,show bl s=[] from List.eq_nil_of_length_eq_zero (by rw [zaG];exact h0)];exact zfi)
  go_enter Tryz.func86,Tryz.ntmps86
  go_wp2
  go_ret2
  exact ⟨by rw [HE.out];rfl,Below.refl _ _⟩
 have HNE:=yb (show bl s≠[] by intro e;have:=congrArg List.length e;rw [zaG] at this;exact h0 this)
 have h0d:((s.size:Int)==0)=false:=by rw [yf];omega
 have hgb:=PlainAid.get_bt s
 clear h0
 go_enter Tryz.func86,Tryz.ntmps86
 go_wp2
 go_loop [4] (fun i=>∃k:Nat,k<=s.size/\i=.int .i64 k/\Hid (((bl s).take k).all isDg=true)) (fun i=>s.size-(intOf i).toNat)
 case atStart=>exact ⟨0,by omega,rfl,yb rfl⟩
 case round =>
  obtain ⟨k,hk,rfl,HA⟩:=hrel
  by_cases hlt:k<s.size
  ·have hx:(s[k].toNat:Int)=PlainAid.bt s k:=hgb k hlt
   have HX:=yb hx
   clear hx
   by_cases h1:PlainAid.bt s k<48
   ·have HE:=yb (show V=(0,11) by rw [HV.out];exact zc4 (zcG (bl_mem s k hlt) (by rw [zbA];have:=HX.out;omega)))
    go_wp2
    go_ret2
    exact ⟨by rw [HE.out];rfl,Below.refl _ _⟩
   ·have h1d:decide (PlainAid.bt s k<48)=false:=by simpa using h1
    by_cases h2:57<PlainAid.bt s k
    ·have HE:=yb (show V=(0,11) by rw [HV.out];exact zc4 (zcG (bl_mem s k hlt) (by rw [zbA];have:=HX.out;omega)))
     clear h1
     go_wp2
     go_ret2
     exact ⟨by rw [HE.out];rfl,Below.refl _ _⟩
    ·have h2d:decide (57<PlainAid.bt s k)=false:=by simpa using h2
     have HA2:=yb (show ((bl s).take (k+1)).all isDg=true by rw [zef s k hlt];exact zdo _ _ HA.out (by rw [za6];have:=HX.out;omega))
     clear h1 h2
     go_wp2
     go_round
     case rel=>exact ⟨k+1,by omega,by go_num,HA2⟩
     case measure=>simp [intOf];omega
  ·obtain rfl:k=s.size:=by omega
   have HALL:=yb (show (bl s).all isDg=true by have:=HA.out;rwa [List.take_of_length_le (by rw [zaG];omega)] at this)
   go_wp2
   go_loop [5,6] (fun n i=>∃(k:Nat) (N:Int),k<=s.size/\i=.int .i64 k/\n=.int .i64 N/\0<=N/\N<=2147483647/\Hid (N=(valD ((bl s).take k):Nat))) (fun _ i=>s.size-(intOf i).toNat)
   case atStart=>exact ⟨0,0,by omega,rfl,rfl,by omega,by omega,yb rfl⟩
   case round =>
    obtain ⟨k,N,hk2,rfl,rfl,hN0,hN1,HN⟩:=hrel
    by_cases hlt2:k<s.size
    ·have hx:(s[k].toNat:Int)=PlainAid.bt s k:=hgb k hlt2
     have hdg:isDg s[k]=true:=List.all_eq_true.1 HALL.out _ (bl_mem s k hlt2)
     have hdv:=zdc hdg
     have hd9:=dgV_le hdg
     have hb0:48<=PlainAid.bt s k:=by rw [<-hx];rw [za6] at hdg;omega
     have hb1:PlainAid.bt s k<=57:=by rw [<-hx];rw [za6] at hdg;omega
     have HS:=yb (show 10*N+PlainAid.bt s k-48=((valD ((bl s).take (k+1)):Nat):Int) by
      rw [zef s k hlt2,zcj,HN.out,<-hx];omega)
     have HTK:=yb (show valD ((bl s).take (k+1))<=valD (bl s) by
      have:=zfY ((bl s).take (k+1)) ((bl s).drop (k+1));rwa [List.take_append_drop] at this)
     clear hx hdg hdv hd9
     by_cases hov:2147483647<10*N+PlainAid.bt s k-48
     ·have HE:=yb (show V=(0,5) by rw [HV.out];exact zc2 HNE.out HALL.out (by have:=HS.out;have:=HTK.out;omega))
      go_wp2
      go_ret2
      exact ⟨by rw [HE.out];rfl,Below.refl _ _⟩
     ·have hovd:decide (2147483647<10*N+PlainAid.bt s k-48)=false:=by simpa using hov
      have hov2:10*N+PlainAid.bt s k-48<=2147483647:=by omega
      clear hov
      go_wp2
      go_round
      case rel=>exact ⟨k+1,10*N+PlainAid.bt s k-48,by omega,by go_num,rfl,by omega,hov2,HS⟩
      case measure=>simp [intOf];omega
    ·obtain rfl:k=s.size:=by omega
     have HE:=yb (show V=(N,0) by
      have h1:=HN.out
      rw [List.take_of_length_le (by rw [zaG];omega)] at h1
      rw [HV.out,zdk HNE.out HALL.out (by omega),h1])
     go_wp2
     go_ret2
     exact ⟨by rw [HE.out];rfl,Below.refl _ _⟩
theorem row_bsX {w:World} (bs:List UInt8) (t:TypeId) (hb:bs.length<=200):Row (w.alloc (.cells (bs.map u8C).toArray t (bs.length,bs.length+1))) 1 (some ⟨w.heap.size,0,none⟩) bs.length bs.length (bs.map u8C):=by
 refine ⟨by simp,yp _,by unfold maxLen;omega,fun h=>(by cases h),fun _=>⟨_,_,rfl,(by rw [zan];omega),fun j u hj=>?_⟩⟩
 rw [cell_of_row _ _ _ _ _ _ (zac _ rfl)]
 simpa using hj
theorem zeM.split {w:World} {s:Sec} {n e:Int} {en:Ending} (h:zeM w (s,n,e) en w'):∃ga gc sa sc,en=.returned (.tuple #[.agg #[.slice ga s.gs.length gc,.int .i64 s.tr.kind,.int .i64 s.tr.n,.string (mkB s.tr.s),.slice sa s.tr.l.length sc],.int .i64 n,.int .i64 e]) /\
  zb1 w' anyF s (.slice ga s.gs.length gc) (.slice sa s.tr.l.length sc)/\Below w.heap.size w w':=by
 obtain ⟨gv,sl,rfl,hs,hb⟩:=h
 obtain ⟨ga,gc,rfl,-,-,-⟩:=hs.1.len
 obtain ⟨sa,sc,rfl,-,-,-⟩:=hs.2.len
 exact ⟨ga,gc,sa,sc,rfl,hs.keep (zaK.refl _ _) (fun _ _=>trivial),hb⟩
def PlEndX (w:World) (e:Ending) (w':World):Prop:=e=.returned (.bool true)/\Below w.heap.size w w'
structure SrcI (w:World) (p:Nat) (bs:List UInt8) (kn:List Bool):Prop where
 len:kn.length=bs.length
 total:∀W,Below w.heap.size w W->Calls Tryz.prog 54 #[.pointer (some ⟨p,0,none⟩)] W fun e w'=>e=.returned (.int .i64 (bs.length:Nat))/\W=w'
 first:∀W,Below w.heap.size w W->∀a:Nat,a<=bs.length->Calls Tryz.prog 38 #[.pointer (some ⟨p,0,none⟩),.int .i64 a] W fun e w'=>e=.returned (.int .i64 (zaU kn a:Nat))/\Below W.heap.size W w'
 read:∀W,Below w.heap.size w W->∀(a:Nat) (most:Int),a<=bs.length->(bs.length:Int)-a<=most->most<=9223372036854775807 ->
  Calls Tryz.prog 55 #[.pointer (some ⟨p,0,none⟩),.int .i64 a,.int .i64 most] W (zeD W bs kn a)
theorem SrcI.mono {w:World} {bs:List UInt8} {kn:List Bool} (h:SrcI w p bs kn) (hb:Below w.heap.size w w'):SrcI w' p bs kn :=
 ⟨h.len,fun W hW=>h.total W (hb.trans (hW.mono hb.size)),fun W hW=>h.first W (hb.trans (hW.mono hb.size)),fun W hW=>h.read W (hb.trans (hW.mono hb.size))⟩
def sctV (bs:List UInt8) (kn:List Bool) (a:Nat):Sec×Int×Int :=
 if (zc8 bs kn a).2.2=0 then ((zc8 bs kn a).1,0,0) else if (zc8 bs kn a).2.2=6 then (Sec.none,(zaU kn a:Nat),6) else (Sec.none,0,20)
theorem section_any {w:World} {bs:List UInt8} {kn:List Bool} (h:SrcI w p bs kn) (hl:bs.length<=390000) {a:Nat} (ha:a<bs.length) :
  Calls Tryz.prog 62 #[.pointer (some ⟨p,0,none⟩),.int .i64 a] w (zeM w (sctV bs kn a)):=by
 have HT:=yb h.total
 have HF:=yb (fun W hb=>h.first W hb a (Nat.le_of_lt ha))
 have HR:=yb (fun W hb=>h.read W hb a (bs.length:Nat) (Nat.le_of_lt ha) (by omega) (by omega))
 have HSC:=yb (show zc8 bs kn a=secV ((bs.drop a).take (zaU kn a-a)) (zaU kn a==bs.length) 0 from rfl)
 have HBL:=yb (show ((bs.drop a).take (zaU kn a-a)).length<=390000 by rw [List.length_take,ym];omega)
 obtain ⟨V,hV⟩:∃V,V=sctV bs kn a:=⟨_,rfl⟩
 rw [<-hV]
 unfold sctV at hV
 rw [HSC.out] at hV
 have HV:=yb hV
 unfold zeD at HR
 generalize zaU kn a=n at *
 generalize (bs.drop a).take (n-a)=cs at *
 generalize (n==bs.length)=lst at *
 clear h hV HSC
 obtain ⟨r,hr⟩:∃r,r=w.heap.size:=⟨_,rfl⟩
 have HZ1:=yb (zac (w:=w) (b:=r) (.cells #[.slice none 0 0,.int .i64 0,.int .i64 0,.string ⟨#[]⟩,.slice none 0 0] 29) hr)
 have HB1:=yb (zam w (.cells #[.slice none 0 0,.int .i64 0,.int .i64 0,.string ⟨#[]⟩,.slice none 0 0] 29))
 have HRW:=yb (Nat.le_of_eq hr.symm)
 go_enter Tryz.func62,Tryz.ntmps62
 go_upto_region 1 with fail
 try rw [<-hr]
 clear hr
 generalize w.alloc _=W1 at *
 have HT1:=yb (HT.out _ HB1.out)
 have HR1:=yb (HR.out _ HB1.out)
 clear HT HR
 go_wp2_with fail
 refine HT1.out.mono ?_
 rintro e w2 ⟨rfl,rfl⟩
 go_wp2_with fail
 refine HR1.out.mono ?_
 rintro e w2 ⟨ba,bc,rfl,hrow,hb2⟩
 have HZ2:=yb (zab hb2 HZ1.out)
 have HB2:=yo HB1 hb2
 have HP:=yb (xparse_any hrow HBL.out 0 lst)
 clear hb2 hrow HZ1 HB1 HT1 HR1
 go_wp2_with fail
 generalize secV cs lst 0=S at *
 obtain ⟨s,o,er⟩:=S
 refine HP.out.mono ?_
 rintro e w3 ⟨gv,sl,rfl,hs,hb3⟩
 obtain ⟨ga,gc,rfl,-,-,-⟩:=hs.1.len
 obtain ⟨sa,sc,rfl,-,-,-⟩:=hs.2.len
 simp only [secA] at hs |-
 simp only at HV
 have hb3a:=hb3.alloc hb3.size (.cells #[.slice ga s.gs.length gc,.int .i64 s.tr.kind,.int .i64 s.tr.n,.string (mkB s.tr.s),.slice sa s.tr.l.length sc] 29)
 have HT3:=yb (zac (w:=w3) (b:=w3.heap.size) (.cells #[.slice ga s.gs.length gc,.int .i64 s.tr.kind,.int .i64 s.tr.n,.string (mkB s.tr.s),.slice sa s.tr.l.length sc] 29) rfl)
 have HS3:=yb (hs.below (zam w3 (.cells #[.slice ga s.gs.length gc,.int .i64 s.tr.kind,.int .i64 s.tr.n,.string (mkB s.tr.s),.slice sa s.tr.l.length sc] 29)))
 have HZ3:=yb (zab hb3a HZ2.out)
 have HB3:=yo HB2 hb3a
 have HRL:=yb (zai HZ2.out)
 have HWL:=yb HB2.out.size
 clear hb3 hb3a hs HZ2 HB2 HP
 go_upto_region 3 with fail
 generalize w3.heap.size=T at *
 generalize World.alloc _ _=W3 at *
 obtain ⟨⟨t0,t1,t2,t3,t4⟩,-⟩:=zbn HT3.out
 obtain ⟨⟨z0,z1,z2,z3,z4⟩,y0,y1,y2,y3,y4⟩:=zbn HZ3.out
 by_cases he:er=0
 ·subst he
  have HV2:=yb (HV.out.trans (yg rfl))
  have HS2:=yb (fun y0 y1 y2 y3 y4=>zgZ HS3.out HRL.out y0 y1 y2 y3 y4)
  have HPA:=yb (show secA s (.slice ga s.gs.length gc) (.slice sa s.tr.l.length sc)=.agg #[.slice ga s.gs.length gc,.int .i64 s.tr.kind,.int .i64 s.tr.n,.string (mkB s.tr.s),.slice sa s.tr.l.length sc] from rfl)
  clear HV HF
  generalize s.tr.kind=xk at *
  generalize s.tr.n=xn at *
  generalize mkB s.tr.s=xb at *
  go_wp2
  refine yi (zae rfl _ _ r 29 _ (0,0) _ rfl (by exact set5 HZ3.out _ _ _ _ _) Tryz.underlying29 rfl (by exact zc6) _ _ rfl rfl) rfl ?_
  rw [HV2.out]
  refine ⟨.slice ga s.gs.length gc,.slice sa s.tr.l.length sc,by rw [HPA.out];rfl,?_,zb8 HB3.out HRW.out _ _ _ _ _⟩
  exact (HS2.out _ _ _ _ _).keep (zaK.refl _ _) (fun b hb=>Nat.le_trans HWL.out hb)
 have HV2:=yb (HV.out.trans (yh he))
 have e0:(er==0)=false:=by rw [yf];exact he
 clear HV he HS3
 by_cases h6:er=6
 ·subst h6
  have HV3:=yb (HV2.out.trans (yg rfl))
  have HF2:=yb (HF.out _ HB3.out)
  clear HV2 HF
  go_wp2_with fail
  refine HF2.out.mono ?_
  rintro e w4 ⟨rfl,hb4⟩
  have HZ4:=yb (zab hb4 HZ3.out)
  have HB4:=yo HB3 hb4
  clear hb4 HZ3 HB3 HT3 t0 t1 t2 t3 t4 z0 z1 z2 z3 z4 y0 y1 y2 y3 y4
  obtain ⟨⟨z0,z1,z2,z3,z4⟩,y0,y1,y2,y3,y4⟩:=zbn HZ4.out
  go_wp2
  refine yi (zae rfl _ _ r 29 _ (0,0) _ rfl (by exact set5 HZ4.out _ _ _ _ _) Tryz.underlying29 rfl (by exact zc6) _ _ rfl rfl) rfl ?_
  rw [HV3.out]
  exact ⟨_,_,rfl,zeu _ _,zb8 HB4.out HRW.out _ _ _ _ _⟩
 ·have e6:(er==6)=false:=by rw [yf];exact h6
  have HV3:=yb (HV2.out.trans (yh h6))
  clear HV2 HF h6
  go_wp2
  refine yi (zae rfl _ _ r 29 _ (0,0) _ rfl (by exact set5 HZ3.out _ _ _ _ _) Tryz.underlying29 rfl (by exact zc6) _ _ rfl rfl) rfl ?_
  rw [HV3.out]
  exact ⟨_,_,rfl,zeu _ _,zb8 HB3.out HRW.out _ _ _ _ _⟩
def IsSs (w:World) (F:Nat->Prop):List Sec->List Value->Prop
 | [],cs=>cs=[]
 | s::l,cs=>∃gv sl t,cs=secC s gv sl++t/\zb1 w F s gv sl/\IsSs w F l t
theorem IsSs.keep {w:World} (hk:zaK F w w') (hG:∀b,F b->G b):∀ {l:List Sec} {cs:List Value},IsSs w F l cs->IsSs w' G l cs
 | [],_,h=>h
 | _::_,_,⟨gv,sl,t,e,h1,h2⟩=>⟨gv,sl,t,e,h1.keep hk hG,IsSs.keep hk hG h2⟩
theorem IsSs.length {w:World} :∀ {l:List Sec} {cs:List Value},IsSs w F l cs->cs.length=l.length*5
 | [],_,h=>by cases h;rfl
 | _::_,_,⟨gv,sl,t,e,_,h2⟩=>by subst e;have:=IsSs.length h2;simp [secC,pvC];omega
theorem IsSs.append {w:World} :∀ {l m:List Sec} {cs ds:List Value},IsSs w F l cs->IsSs w F m ds->IsSs w F (l++m) (cs++ds)
 | [],_,_,_,h,hm=>by cases h;exact hm
 | _::_,_,_,_,⟨gv,sl,t,e,h1,h2⟩,hm=>⟨gv,sl,t++_,by subst e;simp,h1,IsSs.append h2 hm⟩
theorem IsSs.snoc {w:World} {l:List Sec} (h:IsSs w F l cs) {s:Sec} (hv:zb1 w F s gv sl):IsSs w F (l++[s]) (cs++secC s gv sl):=h.append ⟨gv,sl,[],by simp,hv,rfl⟩
theorem IsSs.get {w:World} :∀ {l:List Sec} {cs:List Value},IsSs w F l cs->∀(k:Nat) (s:Sec),l[k]?=some s->∃gv sl,zb1 w F s gv sl/\cs[k*5]?=some gv/\cs[k*5+1]?=some (.int .i64 s.tr.kind)/\cs[k*5+2]?=some (.int .i64 s.tr.n)/\cs[k*5+3]?=some (.string (mkB s.tr.s))/\cs[k*5+4]?=some sl
 | [],_,_,_,_,hk=>by simp at hk
 | x::l,_,⟨gv,sl,t,e,h1,h2⟩,0,g,hk=>by
  simp at hk;subst hk e
  exact ⟨gv,sl,h1,rfl,rfl,rfl,rfl,rfl⟩
 | x::l,_,⟨gv,sl,t,e,h1,h2⟩,k+1,g,hk=>by
  subst e
  obtain ⟨gv2,sl2,h3,e0,e1,e2,e3,e4⟩:=h2.get k g (by simpa using hk)
  have q:∀j,(secC x gv sl++t)[(k+1)*5+j]?=t[k*5+j]?:=fun j=>by
   rw [show (k+1)*5+j=k*5+j+1+1+1+1+1 by omega];simp [secC,pvC]
  have q0:=q 0
  rw [Nat.add_zero,Nat.add_zero] at q0
  exact ⟨gv2,sl2,h3,q0.trans e0,(q 1).trans e1,(q 2).trans e2,(q 3).trans e3,(q 4).trans e4⟩
theorem IsE.ltw {es:List Ent} (h:IsE W F es sv):IsE W (fun b=>F b/\b<W.heap.size) es sv:=by
 obtain ⟨a,cap,e,hr,hF⟩:=h
 exact ⟨a,cap,e,hr,fun h0 x hx=>⟨hF h0 x hx,hr.lt h0 x hx⟩⟩
theorem IsGs.ltw :∀ {gs:List Grp} {cs:List Value},IsGs W F gs cs->IsGs W (fun b=>F b/\b<W.heap.size) gs cs
 | [],_,h=>h
 | _::_,_,⟨v,t,e,h1,h2⟩=>⟨v,t,e,h1.ltw,h2.ltw⟩
theorem IsG.ltw {gs:List Grp} {v:Value} (h:IsG W F gs v):IsG W (fun b=>F b/\b<W.heap.size) gs v:=by
 obtain ⟨a,cap,cs,e,hr,hF,hs⟩:=h
 exact ⟨a,cap,cs,e,hr,fun h0 x hx=>⟨hF h0 x hx,hr.lt h0 x hx⟩,hs.ltw⟩
theorem zb1.ltw {s:Sec} (h:zb1 W F s gv sl):zb1 W (fun b=>F b/\b<W.heap.size) s gv sl:=⟨h.1.ltw,IsV.lt _ h.2⟩
theorem IsSs.ltw :∀ {l:List Sec} {cs:List Value},IsSs W F l cs->IsSs W (fun b=>F b/\b<W.heap.size) l cs
 | [],_,h=>h
 | _::_,_,⟨gv,sl,t,e,h1,h2⟩=>⟨gv,sl,t,e,h1.ltw,h2.ltw⟩
structure SsM (t:TypeId) (w W:World) (X:Nat->Prop) (l:List Sec) (cs:List Value) (v:Value):Prop where
 own:W.ownsRow w.heap.size t 5 v l.length cs
 hold:IsSs W (fun b=>w.heap.size<=b/\v.ownBlock≠some b/\¬X b) l cs
theorem SsM.nil (t:TypeId) (w W:World) (X:Nat->Prop):SsM t w W X [] [] (.slice none 0 0):=⟨World.ownsRow_nil _ _ _ _,rfl⟩
theorem SsM.on {w:World} {Y:Nat->Prop} {l:List Sec} {v:Value} (h:SsM t w W X l cs v) (hk:zaj Y W W') (hY:∀b,Y b->w.heap.size<=b->X b) (hv:∀b,v.ownBlock=some b->¬Y b):SsM t w W' X l cs v :=
 ⟨zaE h.own fun b hb=>hk.block b (h.own.lt b hb).2 (hv b hb),h.hold.keep ⟨hk.size,fun b hb hF=>hk.block b hb (fun e=>hF.2.2 (hY b e hF.1))⟩ (fun _ h=>h)⟩
theorem SsM.below {w:World} {l:List Sec} {v:Value} (h:SsM t w W X l cs v) (hb:Below W.heap.size W W'):SsM t w W' X l cs v :=
 h.on (zax (S:=fun _=>False) hb) (fun _ h _=>h.elim) (fun _ _ h=>h)
theorem SsM.app {w:World} {o:Obj} {l:List Sec} {v:Value} (h:SsM t w W X l cs v) (hg8:(W.alloc o).grownBy W8 v.ownBlock) {s:Sec} (he:zb1 W (fun b=>B<=b) s gv sl) (hB:w.heap.size<=B) (hv:∀b,v.ownBlock=some b->b<B) (hX:∀b,X b->b<B)
  (hO:W8.ownsRow w.heap.size t 5 v' (l.length+1) (cs++secC s gv sl)) (hn:∀b,v'.ownBlock=some b->v.ownBlock=some b\/(W.alloc o).heap.size<=b):SsM t w W8 X (l++[s]) (cs++secC s gv sl) v':=by
 have hst:zaK (fun b=>v.ownBlock≠some b/\b<W.heap.size) W W8:=⟨by have:=hg8.size;rw [zan] at this;omega,fun b hb hF=>by
  rw [hg8.block b (by rw [zan];omega) (fun e=>hF.1 e.symm)]
  exact (zb7 W o hb)⟩
 refine ⟨by rw [List.length_append];exact hO,?_⟩
 have hnew:∀b,b<W.heap.size->v.ownBlock≠some b->v'.ownBlock≠some b:=fun b hb hne e=>by
  rcases hn b e with h1|h1
  ·exact hne h1
  ·rw [zan] at h1;omega
 refine IsSs.snoc ?_ ?_
 ·have h3:IsSs W8 (fun b=>(w.heap.size<=b/\v.ownBlock≠some b/\¬X b)/\b<W.heap.size) l cs:=h.hold.ltw.keep ⟨hst.1,fun b hb hF=>hst.2 b hb ⟨hF.1.2.1,hF.2⟩⟩ (fun _ h=>h)
  exact h3.keep (zaK.refl _ _) (fun b hb=>⟨hb.1.1,hnew b hb.2 hb.1.2.1,hb.1.2.2⟩)
 ·have hne:∀b,B<=b->v.ownBlock≠some b:=fun b hb e=>by have:=hv b e;omega
  have h3:zb1 W8 (fun b=>B<=b/\b<W.heap.size) s gv sl:=he.ltw.keep ⟨hst.1,fun b hb hF=>hst.2 b hb ⟨hne b hF.1,hF.2⟩⟩ (fun _ h=>h)
  exact h3.keep (zaK.refl _ _) (fun b hb=>⟨Nat.le_trans hB hb.1,hnew b hb.2 (hne b hb.1),fun hx=>by have:=hX b hx;omega⟩)
def IsL (w:World) (F:Nat->Prop) (l:List Sec) (v:Value):Prop:=∃a cap cs,v=.slice a l.length cap/\Row w 5 a l.length cap cs/\(0<l.length->∀x,a=some x->F x.block)/\IsSs w F l cs
theorem SsM.fin {w:World} {l:List Sec} {v:Value} (h:SsM t w W X l cs v):IsL W (fun b=>w.heap.size<=b) l v:=by
 obtain ⟨a,cap,e,-,-⟩:=zas h.own
 subst e
 exact ⟨a,cap,cs,rfl,(Row.of_own h.own).2,fun h0 x hx=>(h.own.lt x.block (by rw [hx];rfl)).1,h.hold.keep (zaK.refl _ _) (fun b hb=>hb.1)⟩
theorem IsL.nil (w:World) (F:Nat->Prop):IsL w F [] (.slice none 0 0):=⟨none,0,[],rfl,Row.nil w 5,fun h=>(by cases h),rfl⟩
theorem IsL.keep {w:World} (hk:zaK F w w') (hG:∀b,F b->G b) {l:List Sec} {v:Value} (h:IsL w F l v):IsL w' G l v:=by
 obtain ⟨a,cap,cs,e,hr,hF,hs⟩:=h
 exact ⟨a,cap,cs,e,hr.stays hk hF,fun h0 x hx=>hG _ (hF h0 x hx),hs.keep hk hG⟩
theorem IsL.below {w:World} {l:List Sec} {v:Value} (h:IsL w F l v) (hb:Below w.heap.size w w'):IsL w' F l v:=h.keep (zaK.of_below hb) (fun _ h=>h)
theorem IsL.len {w:World} {l:List Sec} {v:Value} (h:IsL w F l v):∃a cap,v=.slice a l.length cap/\l.length<=cap/\cap<=maxLen/\(a=none->cap=0):=by
 obtain ⟨a,cap,cs,e,hr,_⟩:=h
 exact ⟨a,cap,e,hr.2.1,hr.2.2.1,hr.2.2.2.1⟩
theorem IsL.at {w:World} {F:Nat->Prop} {l:List Sec} {a:Option Addr} {n cap:Nat} (h:IsL w F l (.slice a n cap)) (hn:0<n) :
  n=l.length/\n<=cap/\cap<=maxLen/\∃b off,a=some ⟨b,off,none⟩/\b<w.heap.size/\F b/\∀k s,l[k]?=some s->∃gv sl,zb1 w F s gv sl/\w.cell? ⟨b,off+k*5,none⟩=some gv/\w.cell? ⟨b,off+k*5+1,none⟩=some (.int .i64 s.tr.kind) /\
   w.cell? ⟨b,off+k*5+2,none⟩=some (.int .i64 s.tr.n)/\w.cell? ⟨b,off+k*5+3,none⟩=some (.string (mkB s.tr.s))/\w.cell? ⟨b,off+k*5+4,none⟩=some sl:=by
 obtain ⟨a',cap',cs,e,hr,hF,hs⟩:=h
 simp only [Value.slice.injEq] at e
 obtain ⟨rfl,rfl,rfl⟩:=e
 obtain ⟨b,off,rfl,hb,hc⟩:=hr.2.2.2.2 hn
 refine ⟨rfl,hr.2.1,hr.2.2.1,b,off,rfl,hb,hF hn _ rfl,fun k s hk=>?_⟩
 obtain ⟨gv,sl,h1,e0,e1,e2,e3,e4⟩:=hs.get k s hk
 exact ⟨gv,sl,h1,hc _ _ e0,(Nat.add_assoc off (k*5) 1).symm▸hc _ _ e1,(Nat.add_assoc off (k*5) 2).symm▸hc _ _ e2,(Nat.add_assoc off (k*5) 3).symm▸hc _ _ e3,(Nat.add_assoc off (k*5) 4).symm▸hc _ _ e4⟩
end Go.Proofs.YtfafdeemfeaedaaGreat
namespace Go.Proofs.YtfafdeemfeaedaaGreat
open Go.RowKit Go.Maps Go.ChangeMaps
theorem lawKI:Keyed Tryz.prog 3:=int_keyed Tryz.underlying3
def i64N (k:Int):Prop:=-9223372036854775808<=k/\k<=9223372036854775807
theorem i64N_wf {k:Int} (h:i64N k):(Lit.int .i64 k).wf=true:=by
 obtain ⟨h1,h2⟩:=h
 simp [Lit.wf,IntKind.min,IntKind.max,IntKind.signed,IntKind.bits];omega
theorem keyN {k:Int} (h:i64N k):keyOf Tryz.prog 3 (.int .i64 k)=some (.int .i64 k):=keyOf_int_mk Tryz.underlying3 (i64N_wf h)
theorem zeroN (w:World):(zeroValue 3).run Tryz.prog w=.ok (.int .i64 0) w:=by kernel_rfl
def MapN (w:World) (mb n:Nat) (rd:List Int):Prop :=
 ∃D:DataW Nat,w.ownsMap Tryz.prog 3 (plainElem Tryz.prog 3) mb n D/\IsMap D/\∀k:Int,Maps.has D (.int .i64 k)=decide (k∈rd)
theorem MapN.made (w:World):MapN (w.alloc (.map #[] 0)) w.heap.size 0 [] :=
 ⟨.map [],World.ownsMap_made w _ _ _,isMap_empty,fun k=>by simp [Maps.has]⟩
theorem MapN.keep {w:World} {n:Nat} (h:MapN w mb n rd) (hb:w'.heap[mb]?=w.heap[mb]?):MapN w' mb n rd:=by
 obtain ⟨D,⟨es,clock,h1,h2⟩,r⟩:=h
 exact ⟨D,⟨es,clock,hb.trans h1,h2⟩,r⟩
theorem MapN.lt {w:World} {n:Nat} (h:MapN w mb n rd):mb<w.heap.size:=by obtain ⟨D,h,-⟩:=h;exact h.lt
theorem zc0 {w:World} {ops:Array Oper} {rest:List Oper} {o:Oper} {a:Act} {Q:Exit->Act->World->Prop} (hg:o.guard=none) (m x:Operand) (hop:o.op=Op.lookup 133 m x true)
  {n:Nat} (h:MapN w mb n rd) (hm:a.eval m=.map (some mb)) {k:Int} (hx:a.eval x=.int .i64 k) (hk:i64N k)
  (hK:∀c:Int,wpList Tryz.prog ops Q rest (a.put o.dst (.tuple #[.int .i64 c,.bool (decide (k∈rd))])) w):wpList Tryz.prog ops Q (o::rest) a w:=by
 obtain ⟨D,ho,hm2,hD⟩:=h
 refine wpList_lookup_own_ok_int w hg m x _ hop 3 3 .i64 lawKI Tryz.underlying133 Tryz.underlying3 (zeroN w) mb n D hm ho _ _ hx (keyN hk) fun c _ _=>?_
 rw [hD k]
 exact hK c
theorem zhe {w:World} {ops:Array Oper} {rest:List Oper} {o:Oper} {a:Act} {Q:Exit->Act->World->Prop} (hg:o.guard=none) (m x v:Operand) (hop:o.op=Op.mapUpdate 133 m x v)
  {n:Nat} (h:MapN w mb n rd) (hm:a.eval m=.map (some mb)) {k:Int} (hx:a.eval x=.int .i64 k) (hk:i64N k) {q:Int} (hv:a.eval v=.int .i64 q) (hq:i64N q) (hn:n<maxLen)
  (hK:∀w',MapN w' mb (n+1) (rd++[k])->w.grownBy w' (some mb)->wpList Tryz.prog ops Q rest (a.put o.dst undef) w'):wpList Tryz.prog ops Q (o::rest) a w:=by
 obtain ⟨D,ho,hm2,hD⟩:=h
 refine wpList_mapUpdate_own w hg m x v _ hop 3 3 lawKI Tryz.underlying133 (plainElem Tryz.prog 3) mb n D hm ho hn _ _ _ hx hv (keyN hk) _ [] (plainElem_int Tryz.underlying3 (i64N_wf hq)) fun w' ho' hg'=>?_
 refine hK w' ⟨_,ho',hm2.put _ _,fun j=>?_⟩ hg'
 by_cases hj:j=k
 ·subst hj
  rw [has_put_same hm2 (by simp [WideAt.IsKeyLit])]
  simp
 ·have hne:(Lit.int .i64 j)≠.int .i64 k:=fun e=>hj (by cases e;rfl)
  rw [has_put_other hne,hD j]
  simp [hj]
end Go.Proofs.YtfafdeemfeaedaaGreat
namespace Go.Proofs.YtfafdeemfeaedaaGreat
open Go.RowKit
theorem fN_step {l:List PV} {x:PV} (hx:l[k]?=some x):fN key (l.drop k)=if x.kind=5/\x.s=key then some 0 else (fN key (l.drop (k+2))).map (· + 2):=by
 have hk:k<l.length:=by
  rcases Nat.lt_or_ge k l.length with h|h
  ·exact h
  ·rw [List.getElem?_eq_none h] at hx;cases hx
 rw [List.getElem?_eq_getElem hk] at hx
 have hx:=Option.some.inj hx
 subst hx
 rw [List.drop_eq_getElem_cons hk]
 by_cases h2:k+1<l.length
 ·rw [List.drop_eq_getElem_cons h2]
  rfl
 ·rw [List.drop_eq_nil_of_le (show l.length<=k+1 by omega),List.drop_eq_nil_of_le (show l.length<=k+2 by omega)]
  unfold fN
  by_cases h:l[k].kind=5/\l[k].s=key
  ·rw [yg h,yg h]
  ·rw [yh h,yh h];rfl
theorem fN_end {l:List PV} (h:l.length<=k):fN key (l.drop k)=none:=by
 rw [List.drop_eq_nil_of_le h];rfl
theorem fN_lt {key:List UInt8}:∀ {l:List PV} {k:Nat},fN key l=some k->k<l.length
 | [],_,h=>by cases h
 | [x],k,h=>by
  unfold fN at h
  split at h
  ·cases h;simp
  ·cases h
 | x::y::l,k,h=>by
  unfold fN at h
  split at h
  ·cases h;simp
  ·obtain ⟨j,hj,rfl⟩:=Option.map_eq_some_iff.1 h
   have:=fN_lt hj
   simp;omega
def zcU (o:Option Nat):Int:=match o with|none=>-1|some k=>k
def zgI (w:World) (o:Option Nat) (e:Ending) (w':World):Prop:=e=.returned (.int .i64 (zcU o))/\Below w.heap.size w w'
theorem findN_no {v:PV} (h:¬v.kind=7):zeo v key=none:=by unfold zeo;rw [yh h]
theorem findN_yes {v:PV} (h:v.kind=7):zeo v key=fN key v.l:=by unfold zeo;rw [yg h]
theorem vfind_any {w:World} {v:PV} (h:IsV w F v sl) (hev:v.kind=7->v.l.length % 2=0) (key:List UInt8):Calls Tryz.prog 100 #[pvA v sl,.string (mkB key)] w (zgI w (zeo v key)):=by
 obtain ⟨a,cap,rfl,g1,g2,g3⟩:=h.len
 have hl63:(v.l.length:Int)<=9223372036854775807:=by unfold maxLen at g2;omega
 have HV:=yb h
 have HNO:=yb (fun h=>findN_no (v:=v) (key:=key) h)
 have HYE:=yb (fun h=>findN_yes (v:=v) (key:=key) h)
 obtain ⟨R,hR⟩:∃R,R=zeo v key:=⟨_,rfl⟩
 rw [<-hR] at HNO HYE |-
 clear hR h g2 g3
 unfold pvA
 obtain ⟨l,hl⟩:∃l,l=v.l:=⟨_,rfl⟩
 rw [<-hl] at HV HYE hl63 g1 hev |-
 have HL:=yb hl
 clear hl
 obtain ⟨B,hB⟩:∃B,B=w.heap.size:=⟨_,rfl⟩
 have HB1:=yb (zam w (.cells #[.int .i64 v.kind,.int .i64 v.n,.string (mkB v.s),.slice a l.length cap] 27))
 have HZ1:=yb (zac (w:=w) (b:=B) (.cells #[.int .i64 v.kind,.int .i64 v.n,.string (mkB v.s),.slice a l.length cap] 27) hB)
 have HV1:=yb (HV.out.below HB1.out)
 generalize v.kind=vk at *
 generalize v.n=vn at *
 generalize mkB v.s=vb at *
 go_enter Tryz.func100,Tryz.ntmps100
 go_upto_region 1 with fail
 rw [<-hB]
 clear hB HV
 generalize w.alloc _=W1 at *
 obtain ⟨⟨z0,z1,z2,z3⟩,-⟩:=zaf HZ1.out
 by_cases h7:vk=7
 case neg =>
  have HR:=yb (HNO.out h7)
  have e0:(vk==7)=false:=by rw [yf];exact h7
  have e1:(vk != 7)=true:=by simp only [bne,e0,yj]
  clear h7 HYE HNO hev
  go_wp2
  go_ret
  exact ⟨by rw [HR.out];rfl,HB1.out⟩
 have HR:=yb (HYE.out h7)
 have hl2:=hev h7
 clear hev
 subst h7
 clear HNO HYE
 go_wp2_with fail
 go_loop [5] (fun v5=>∃k:Nat,v5=.int .i64 k/\k<=l.length/\k % 2=0/\Hid (R=(fN key (l.drop k)).map (· + k))) (fun v5=>l.length+2-(intOf v5).toNat)
 case atStart=>exact ⟨0,rfl,by omega,rfl,yb (by rw [HR.out,List.drop_zero];cases fN key l<;>rfl)⟩
 case round =>
  obtain ⟨k,rfl,hk,hk2,HQ⟩:=hrel
  by_cases hlt:k<l.length
  ·have hcd:decide ((k:Int)<(l.length:Int))=true:=yd (by omega)
   have hcd2:decide (k<l.length)=true:=yd hlt
   have hkb:(k:Int)+2<=9223372036854775807:=by omega
   have hkc:k+2<=l.length:=by omega
   have hv1:=HV1.out
   obtain ⟨-,-,-,b,off,rfl,-,-,hc⟩:=hv1.at (by omega)
   obtain ⟨x,hx⟩:∃x,l[k]?=some x:=⟨_,List.getElem?_eq_getElem hlt⟩
   obtain ⟨slx,-,c0,-,c2,-⟩:=hc k x (by rw [<-HL.out];exact hx)
   have HST:=yb (fN_step (key:=key) hx)
   have hq:((mkB x.s).toList==(mkB key).toList)=decide (x.s=key):=by rw [zaP key];exact zbM x.s key
   clear hv1 hc hx
   by_cases h5:x.kind=5
   case neg =>
    have e0:(x.kind==5)=false:=by rw [yf];exact h5
    have HQ2:=yb (show R=(fN key (l.drop (k+2))).map (· + (k+2)) by rw [HQ.out,HST.out,yh (fun h=>h5 h.1),Option.map_map];congr 1;funext q;show q+2+k=q+(k+2);omega)
    clear h5 HST HQ hq
    generalize x.kind=xk at *
    go_wp2_with fail
    go_round
    case rel=>exact ⟨k+2,by go_num,hkc,by omega,HQ2⟩
    case measure=>simp [intOf];omega
   have e0:(x.kind==5)=true:=by rw [beq_iff_eq];exact h5
   by_cases hs:x.s=key
   ·have HQ2:=yb (show R=some k by rw [HQ.out,HST.out,yg ⟨h5,hs⟩];show some (0+k)=_;rw [Nat.zero_add])
    rw [yd hs] at hq
    clear h5 HST HQ hs
    generalize x.kind=xk at *
    generalize mkB x.s=xb at *
    go_wp2_with fail
    go_ret
    exact ⟨by rw [HQ2.out];rfl,HB1.out⟩
   ·have HQ2:=yb (show R=(fN key (l.drop (k+2))).map (· + (k+2)) by rw [HQ.out,HST.out,yh (fun h=>hs h.2),Option.map_map];congr 1;funext q;show q+2+k=q+(k+2);omega)
    rw [ye hs] at hq
    clear h5 HST HQ hs
    generalize x.kind=xk at *
    generalize mkB x.s=xb at *
    go_wp2_with fail
    go_round
    case rel=>exact ⟨k+2,by go_num,hkc,by omega,HQ2⟩
    case measure=>simp [intOf];omega
  ·have hcd:decide ((k:Int)<(l.length:Int))=false:=ye (by omega)
   have hcd2:decide (k<l.length)=false:=ye hlt
   have HQ2:=yb (show R=none by rw [HQ.out,fN_end (by omega)];rfl)
   clear HQ
   go_wp2_with fail
   go_ret
   exact ⟨by rw [HQ2.out];rfl,HB1.out⟩
def GetEnd (w:World) (F:Nat->Prop) (V:PV×Bool) (e:Ending) (w':World):Prop:=∃sl,e=.returned (.tuple #[pvA V.1 sl,.bool V.2])/\IsV w' F V.1 sl/\Below w.heap.size w w'
theorem vget_any {w:World} {v:PV} (h:IsV w F v sl) (hev:v.kind=7->v.l.length % 2=0) (key:List UInt8):Calls Tryz.prog 63 #[pvA v sl,.string (mkB key)] w (GetEnd w F (getP (getV v key))):=by
 obtain ⟨a,cap,rfl,g1,g2,g3⟩:=h.len
 have hl63:(v.l.length:Int)<=9223372036854775807:=by unfold maxLen at g2;omega
 have HV:=yb (IsV.lt _ h)
 have HF:=yb (fun (W:World) (hb:Below w.heap.size w W)=>vfind_any (h.below hb) hev key)
 obtain ⟨R,hR⟩:∃R,R=zeo v key:=⟨_,rfl⟩
 have HLT:=yb (show ∀k,R=some k->k<v.l.length from fun k hk=>by
  rw [hR] at hk
  unfold zeo at hk
  split at hk
  ·exact fN_lt hk
  ·cases hk)
 obtain ⟨V,hV⟩:∃V,V=getP (getV v key):=⟨_,rfl⟩
 have HVN:=yb (show R=none->V=(PV.none,false) from fun h=>by rw [hV];unfold getV;rw [<-hR,h];rfl)
 have HVS:=yb (show ∀k,R=some k->V=(v.l.getD (k+1) PV.none,true) from fun k h=>by rw [hV];unfold getV;rw [<-hR,h];rfl)
 rw [<-hR] at HF
 rw [<-hV]
 clear hR hV h g2 g3
 unfold zgI pvA at HF
 unfold pvA
 obtain ⟨l,hl⟩:∃l,l=v.l:=⟨_,rfl⟩
 clear hev
 rw [<-hl] at HV HF HLT HVS hl63 g1 |-
 have HL:=yb hl
 clear hl
 obtain ⟨B,hB⟩:∃B,B=w.heap.size:=⟨_,rfl⟩
 have HB1:=yb (zbm w (.cells #[.int .i64 v.kind,.int .i64 v.n,.string (mkB v.s),.slice a l.length cap] 27) (.cells #[.int .i64 0,.int .i64 0,.string ⟨#[]⟩,.slice none 0 0] 27))
 have HZ1:=yb (zak (w:=w.alloc (.cells #[.int .i64 v.kind,.int .i64 v.n,.string (mkB v.s),.slice a l.length cap] 27)) (.cells #[.int .i64 0,.int .i64 0,.string ⟨#[]⟩,.slice none 0 0] 27) (zac (w:=w) (b:=B) (.cells #[.int .i64 v.kind,.int .i64 v.n,.string (mkB v.s),.slice a l.length cap] 27) hB))
 have HY1:=yb (zac (w:=w.alloc (.cells #[.int .i64 v.kind,.int .i64 v.n,.string (mkB v.s),.slice a l.length cap] 27)) (b:=B+1) (.cells #[.int .i64 0,.int .i64 0,.string ⟨#[]⟩,.slice none 0 0] 27) (by rw [zan,hB]))
 have HW:=yb (show w.heap.size<=B+1 by omega)
 generalize v.kind=vk at *
 generalize v.n=vn at *
 generalize mkB v.s=vb at *
 go_enter Tryz.func63,Tryz.ntmps63
 go_upto_region 1 with fail
 try rw [<-hB]
 generalize World.alloc _ _=W1 at *
 clear hB
 generalize B+1=r at *
 obtain ⟨⟨z0,z1,z2,z3⟩,-⟩:=zaf HZ1.out
 go_wp2_with fail
 refine (HF.out _ HB1.out).mono ?_
 rintro e w2 ⟨rfl,hb2⟩
 have HZ2:=yb (zab hb2 HZ1.out)
 have HY2:=yb (zab hb2 HY1.out)
 have HB2:=yo HB1 hb2
 have HV2:=yb (HV.out.below HB2.out)
 clear hb2 HZ1 HY1 HB1 HV HF z0 z1 z2 z3
 obtain ⟨⟨z0,z1,z2,z3⟩,-⟩:=zaf HZ2.out
 obtain ⟨⟨y0,y1,y2,y3⟩,f0,f1,f2,f3⟩:=zaf HY2.out
 cases R with
 | none =>
  have HE:=yb (HVN.out rfl)
  clear HVN HVS HLT
  unfold zcU
  go_wp2
  refine yi (zaa rfl _ _ r 27 _ (0,0) _ rfl (by exact set4 HY2.out _ _ _ _) Tryz.underlying27 rfl (by exact zar) _ rfl) rfl ?_
  rw [HE.out]
  exact ⟨_,rfl,IsV.leaf _ _ _ rfl,zad HB2.out HW.out _ _ _ _⟩
 | some k =>
  have hkl:=HLT.out k rfl
  have HE:=yb (HVS.out k rfl)
  have hd0:decide ((k:Int)<0)=false:=ye (by omega)
  clear HVN HVS HLT
  unfold zcU
  simp only
  by_cases hle:k+1=l.length
  ·have hq:((k:Int)+1==(l.length:Int))=true:=by rw [beq_iff_eq];omega
   have hq2:((k:Int)==(l.length:Int)-1)=true:=by rw [beq_iff_eq];omega
   have hg:l.getD (k+1) PV.none=PV.none:=by rw [List.getD_eq_getElem?_getD,List.getElem?_eq_none (by omega)];rfl
   have HE2:=yb (HE.out.trans (by rw [hg]))
   clear hg HE hle
   go_wp2
   refine yi (zaa rfl _ _ r 27 _ (0,0) _ rfl (by exact set4 HY2.out _ _ _ _) Tryz.underlying27 rfl (by exact zar) _ rfl) rfl ?_
   rw [HE2.out]
   exact ⟨_,rfl,IsV.leaf _ _ _ rfl,zad HB2.out HW.out _ _ _ _⟩
  ·have hq:((k:Int)+1==(l.length:Int))=false:=by rw [yf];omega
   have hq2:((k:Int)==(l.length:Int)-1)=false:=by rw [yf];omega
   have hk1:k+1<l.length:=by omega
   have hv2:=HV2.out
   obtain ⟨-,-,-,b,off,rfl,-,-,hc⟩:=hv2.at (by omega)
   obtain ⟨x,hx⟩:∃x,l[k+1]?=some x:=⟨_,List.getElem?_eq_getElem hk1⟩
   obtain ⟨slx,hsx,c0,c1,c2,c3⟩:=hc (k+1) x (by rw [<-HL.out];exact hx)
   have hg:l.getD (k+1) PV.none=x:=by rw [List.getD_eq_getElem?_getD,hx];rfl
   have HE2:=yb (HE.out.trans (by rw [hg]))
   obtain ⟨xa,xc,rfl,-,-,-⟩:=hsx.len
   have HSX:=yb hsx
   have HPA:=yb (show pvA x (.slice xa x.l.length xc)=.agg #[.int .i64 x.kind,.int .i64 x.n,.string (mkB x.s),.slice xa x.l.length xc] from rfl)
   have HRW:=yb (zai HY2.out)
   obtain ⟨j,hj⟩:∃j,j=k+1:=⟨_,rfl⟩
   have hji:(k:Int)+1=(j:Int):=by omega
   rw [<-hj] at c0 c1 c2 c3 hk1
   have HJ:=yb hj
   clear hj hv2 hc hx hg HE hle hsx
   generalize x.kind=xk at *
   generalize x.n=xn at *
   generalize mkB x.s=xb at *
   go_wp2
   refine yi (zaa rfl _ _ r 27 _ (0,0) _ rfl (by exact set4 HY2.out _ _ _ _) Tryz.underlying27 rfl (by exact zar) _ rfl) rfl ?_
   rw [HE2.out]
   refine ⟨.slice xa x.l.length xc,by rw [HPA.out];rfl,?_,zad HB2.out HW.out _ _ _ _⟩
   exact IsV.keep ⟨by rw [zaS];exact yp _,fun b _ hb=>za2 (by have:=HW.out;have:=hb.2;omega) _ _ _ _⟩ (fun b hb=>hb.1) _ HSX.out
theorem ESec:zc9 Tryz.prog 62 29 (.agg #[.slice none 0 0,.int .i64 0,.int .i64 0,.string ⟨#[]⟩,.slice none 0 0]) 5 80:=⟨Tryz.underlying62,by kernel_rfl,rfl,by omega⟩
theorem zhi {bs:List UInt8} (h:(secV bs yq 0).2.2=0):(secV bs yq 0).1.tr.kind=7/\(secV bs yq 0).1.tr.l.length % 2=0:=by
 unfold secV at h |-
 simp only at h |-
 by_cases ho:(oneX zdM (zal bs 0 yq)).2≠0
 ·rw [yg ho] at h;exact absurd h ho
 rw [yh ho] at h |-
 have ho':(oneX zdM (zal bs 0 yq)).2=0:=by omega
 obtain ⟨o1,o2⟩:=oneX_le (p:=zdM) ho'
 obtain ⟨g1,g2⟩:=grps_le (bs:=bs) (yq:=yq) 65 [] _ rfl o1 o2
 by_cases hg:(zbF bs yq 65 [] (oneX zdM (zal bs 0 yq)).1).2.2≠0
 ·rw [yg hg] at h;exact absurd h hg
 rw [yh hg] at h |-
 generalize (zbF bs yq 65 [] (oneX zdM (zal bs 0 yq)).1).2.1=k at *
 have hd:=parse_doc (bs:=bs) (yq:=yq) g1 g2
 obtain ⟨m1,-⟩:=valO_may _ _ _ _ g1 g2 (show stOk [] from trivial) hd
 by_cases hv:(zbB bs yq k).2.2≠0
 ·rw [yg hv] at h;exact absurd h hv
 rw [yh hv] at h |-
 by_cases h7:(zbB bs yq k).1.kind≠7
 ·rw [yg h7] at h;cases h
 rw [yh h7]
 have hv':(zbB bs yq k).2.2=0:=by omega
 obtain ⟨f0,-⟩:=m1 hv'
 have h7':(zbB bs yq k).1.kind=7:=by omega
 refine ⟨h7',?_⟩
 generalize (zbB bs yq k).1=v at *
 obtain ⟨kk,n,s,l⟩:=v
 have h8:kk=7:=h7'
 subst h8
 unfold zb4 at f0
 by_cases hoc:ownC (.mk 7 n s l)≠0
 ·rw [yg hoc] at f0;exact absurd f0 hoc
 ·have hz:ownC (.mk 7 n s l)=0:=by omega
  unfold ownC at hz
  simp only [show ((7:Int)=0)=False by simp,show ((7:Int)=1)=False by simp,show ((7:Int)=2\/(7:Int)=3)=False by simp,show ((7:Int)=4)=False by simp,show ((7:Int)=5)=False by simp,show ((7:Int)=6)=False by simp,if_false,if_true] at hz
  by_cases hb:n≠0\/s≠[]\/l.length % 2≠0
  ·rw [yg hb] at hz;cases hz
  ·show l.length % 2=0
   omega
def zfJ (w:World) (V:List Sec×Int×Int) (e:Ending) (w':World):Prop :=
 ∃v,e=.returned (.tuple #[v,.int .i64 V.2.1,.int .i64 V.2.2])/\IsL w' (fun b=>w.heap.size<=b) V.1 v/\Below w.heap.size w w'
theorem zbU {w:World} {V:List Sec×Int×Int} {n e:Int} (hV:V=([],n,e)) (hb:Below w.heap.size w W):zfJ w V (.returned (.tuple #[.slice none 0 0,.int .i64 n,.int .i64 e])) W:=by
 subst hV;exact ⟨_,rfl,IsL.nil _ _,hb⟩
theorem zfn {o:Obj} {row:Option Nat} (hg:(W.alloc o).grownBy W8 row) (hr:∀b,row=some b->b<B):zaK (fun b=>B<=b) W W8 :=
 ⟨by have:=hg.size;rw [zan] at this;omega,fun b hb hF=>by rw [hg.block b (by rw [zan];omega) (fun e=>by have:=hr b e.symm;omega)];exact zb7 W o hb⟩
def slLen:Value->Nat | .slice _ n _=>n|_=>0
theorem zei (bs:List UInt8) (kn:List Bool) (g:Nat) (rd:List Int) (l:List Sec) (a:Int):zcf bs kn (g+1) rd l a=(if a<0\/(bs.length:Int)<=a then ([],0,20)
  else if a∈rd\/32<=l.length then ([],0,21)
  else if (zc8 bs kn a.toNat).2.2=6 then ([],(zaU kn a.toNat:Int),6) else if (zc8 bs kn a.toNat).2.2≠0 then ([],0,20)
  else match getV (zc8 bs kn a.toNat).1.tr kPrev with
   | none=>(l++[(zc8 bs kn a.toNat).1],0,0)
   | some v=>if v.kind≠2 then ([],0,20) else zcf bs kn g (rd++[a]) (l++[(zc8 bs kn a.toNat).1]) v.n):=rfl
theorem zeP {w:World} {bs:List UInt8} {kn:List Bool} (h:SrcI w p bs kn) (hl:bs.length<=390000) (k:Int) :
  Calls Tryz.prog 24 #[.pointer (some ⟨p,0,none⟩),.int .i64 k] w (zfJ w (zcf bs kn 33 [] [] k)):=by
 have HI:=yb h
 have hmm:=@run_makeMap Tryz.prog
 obtain ⟨R,hR⟩:∃R,R=zcf bs kn 33 [] [] k:=⟨_,rfl⟩
 have HR:=yb hR
 rw [<-hR]
 clear h hR
 obtain ⟨mb,hmb⟩:∃mb,mb=w.heap.size:=⟨_,rfl⟩
 have HM1:=yb (show MapN (w.alloc (.map #[] 0)) mb 0 [] by rw [hmb];exact MapN.made w)
 have HB1:=yb (zam w (.map #[] 0))
 have HMW:=yb (show mb<(w.alloc (.map #[] 0)).heap.size/\w.heap.size<=mb/\(w.alloc (.map #[] 0)).heap.size=mb+1 by rw [zan,hmb];omega)
 go_enter Tryz.func24,Tryz.ntmps24
 go_upto_region 2 with fail
 try rw [<-hmb]
 clear hmb hmm
 generalize w.alloc _=W1 at *
 have HS1:=yb (SsM.nil 29 W1 W1 (fun b=>b=mb))
 go_wp2_with fail
 go_loopw [1,8] (fun v1 v8 wr=>∃(rd:List Int) (l:List Sec) (k:Int) (cs:List Value),v1=.int .i64 k/\l.length<=32/\Hid (SsM 29 W1 wr (fun b=>b=mb) l cs v8)/\Hid (MapN wr mb l.length rd)/\Hid (Below w.heap.size w wr)/\Hid (R=zcf bs kn (33-l.length) rd l k)) (fun _ v8 _=>33-slLen v8)
 case atStart=>exact ⟨[],[],k,[],rfl,by simp,HS1,HM1,HB1,HR⟩
 case round =>
  obtain ⟨rd,l,k,cs,rfl,hl32,HSM,HMN,HB,HQ⟩:=hrel
  obtain ⟨sa,sc,rfl,-,-⟩:=zas HSM.out.own
  obtain ⟨m,hm⟩:∃m,m+1=33-l.length:=⟨32-l.length,by omega⟩
  have hQ:=HQ.out
  rw [<-hm,zei] at hQ
  have HM:=yb hm
  have HTT:=yb (HI.out.total _ HB.out)
  clear HQ hm
  by_cases h1:k<0
  ·have d1:decide (k<0)=true:=yd h1
   have HV:=yb (hQ.trans (yg (.inl h1)))
   clear hQ
   go_wp2_with fail
   go_ret3
   exact zbU HV.out HB.out
  have d1:decide (k<0)=false:=ye h1
  by_cases h2:(bs.length:Int)<=k
  ·have d2:decide ((bs.length:Int)<=k)=true:=yd h2
   have HV:=yb (hQ.trans (yg (.inr h2)))
   clear hQ
   go_wp2_with (go_at_call 54;refine HTT.out.mono ?_;rintro e w6 ⟨rfl,rfl⟩)
   go_ret3
   exact zbU HV.out HB.out
  have d2:decide ((bs.length:Int)<=k)=false:=ye h2
  obtain ⟨K,rfl⟩:∃K:Nat,k=(K:Int):=⟨k.toNat,by omega⟩
  have hKl:K<bs.length:=by omega
  have hKb:i64N (K:Int):=⟨by omega,by omega⟩
  have HKB:=yb hKb
  rw [yh (by rintro (h|h);exact h1 h;exact h2 h),show ((K:Int)).toNat=K from rfl] at hQ
  clear h1 h2 hKb
  by_cases hin:(K:Int)∈rd\/32<=l.length
  ·have HV:=yb (hQ.trans (yg hin))
   have HIN:=yb hin
   obtain ⟨d,hd⟩:∃d,d=decide ((K:Int)∈rd):=⟨_,rfl⟩
   have HD:=yb hd
   clear hQ hin hd
   have d3:d=false->decide ((32:Int)<=(l.length:Int))=true:=fun e=>by
    refine yd ?_
    rcases HIN.out with h|h
    ·have:=HD.out;rw [yd h] at this;rw [this] at e;cases e
    ·omega
   have d4:d=false->decide (32<=l.length)=true:=fun e=>by have:=d3 e;simp at this |-;omega
   cases d
   ·have d5:=d3 rfl
    have d6:=d4 rfl
    clear d3 d4
    go_wp2_with (first|(go_at_call 54;refine HTT.out.mono ?_;rintro e w6 ⟨rfl,rfl⟩)|(at_lookup;refine zc0 rfl _ _ rfl HMN.out rfl rfl HKB.out ?_;intro c;rw [<-HD.out]))
    go_ret3
    exact zbU HV.out HB.out
   ·clear d3 d4
    go_wp2_with (first|(go_at_call 54;refine HTT.out.mono ?_;rintro e w6 ⟨rfl,rfl⟩)|(at_lookup;refine zc0 rfl _ _ rfl HMN.out rfl rfl HKB.out ?_;intro c;rw [<-HD.out]))
    go_ret3
    exact zbU HV.out HB.out
  rw [yh hin] at hQ
  have hl31:l.length<32:=by
   rcases Nat.lt_or_ge l.length 32 with h|h
   ·exact h
   ·exact absurd (.inr h) hin
  have d3:decide ((32:Int)<=(l.length:Int))=false:=ye (by omega)
  have d4:decide (32<=l.length)=false:=ye (by omega)
  have HD:=yb (show decide ((K:Int)∈rd)=false from ye (fun h=>hin (.inl h)))
  have HSEC:=yb (fun (W:World) (hb:Below w.heap.size w W)=>section_any (HI.out.mono hb) hl hKl)
  have hEV:=zhi (bs:=(bs.drop K).take (zaU kn K-K)) (yq:=zaU kn K==bs.length)
  rw [show secV ((bs.drop K).take (zaU kn K-K)) (zaU kn K==bs.length) 0=zc8 bs kn K from rfl] at hEV
  unfold sctV at HSEC
  generalize zc8 bs kn K=S at *
  obtain ⟨s,so,se⟩:=S
  simp only at hQ HSEC hEV
  clear hin
  go_wp2_with (first|(go_at_call 54;refine HTT.out.mono ?_;rintro e w6 ⟨rfl,rfl⟩)|(at_lookup;refine zc0 rfl _ _ rfl HMN.out rfl rfl HKB.out ?_;intro c;rw [HD.out])|(at_mapUpdate;refine zhe rfl _ _ _ rfl HMN.out rfl rfl HKB.out rfl ⟨by omega,by omega⟩ (by unfold maxLen;omega) ?_;intro w2 hmn2 hg2))
  have HB2:=yb (HB.out.grown hg2 HB.out.size (fun b hb=>by cases hb;exact HMW.out.2.1))
  have HM2:=yb hmn2
  have HS2:=yb (HSM.out.on (zaj.of_grown (S:=fun b=>b=mb) hg2 (fun b hb=>by cases hb;rfl)) (fun b hb _=>hb) (fun b hb e=>by have:=(HSM.out.own.lt b hb).1;have:=HMW.out.1;omega))
  have HSE:=yb (HSEC.out _ HB2.out)
  have HQ:=yb hQ
  clear hQ hmn2 hg2 HSEC HSM HMN HB HTT HD
  by_cases he:se=0
  case neg =>
   have HSF:=yb (show Calls Tryz.prog 62 #[.pointer (some ⟨p,0,none⟩),.int .i64 K] w2 (zeM w2 (Sec.none,if se=6 then ((zaU kn K:Nat):Int) else 0,if se=6 then 6 else 20)) by
    have:=HSE.out
    rw [yh he] at this
    by_cases h6:se=6
    ·rw [yg h6,yg h6];rwa [yg h6] at this
    ·rw [yh h6,yh h6];rwa [yh h6] at this)
   have HV:=yb (show R=([],if se=6 then ((zaU kn K:Nat):Int) else 0,if se=6 then 6 else 20) by
    have:=HQ.out
    by_cases h6:se=6
    ·rw [yg h6,yg h6];rwa [yg h6] at this
    ·rw [yh h6,yh h6];rwa [yh h6,yg he] at this)
   obtain ⟨u,hu⟩:∃u,u=(if se=6 then ((zaU kn K:Nat):Int) else 0):=⟨_,rfl⟩
   obtain ⟨v,hv⟩:∃v,v=(if se=6 then (6:Int) else 20):=⟨_,rfl⟩
   have hv0:v≠0:=by rw [hv];by_cases h6:se=6<;>simp [h6]
   rw [<-hu,<-hv] at HSF HV
   have e0:(v==0)=false:=by rw [yf];exact hv0
   have e1:(v != 0)=true:=by simp only [bne,e0,yj]
   clear hu hv hv0 HSE HQ hEV he
   refine HSF.out.mono ?_
   rintro e w3 ⟨gv,sl,rfl,hs3,hb3⟩
   obtain ⟨ga,gc,rfl,-,-,-⟩:=hs3.1.len
   obtain ⟨sa3,sc3,rfl,-,-,-⟩:=hs3.2.len
   simp only [secA,Sec.none,PV.none,List.length_nil]
   have HB3:=yo HB2 hb3
   clear hs3 hb3
   go_wp2_with fail
   go_ret3
   exact zbU HV.out (HB3.out.alloc HB3.out.size _)
  subst he
  rw [yg rfl] at HSE
  have HV:=yb (HQ.out.trans ((yh (by decide)).trans (yh (fun h=>h rfl))))
  obtain ⟨-,hev⟩:=hEV rfl
  have HEV:=yb hev
  clear HQ hEV hev
  refine HSE.out.mono ?_
  rintro e w3 ⟨gv,sl,rfl,hs3,hb3⟩
  obtain ⟨ga,gc,rfl,-,-,-⟩:=hs3.1.len
  obtain ⟨ta,tc,rfl,-,-,-⟩:=hs3.2.len
  simp only [secA]
  have hb3a:=hb3.alloc hb3.size (.cells #[.slice ga s.gs.length gc,.int .i64 s.tr.kind,.int .i64 s.tr.n,.string (mkB s.tr.s),.slice ta s.tr.l.length tc] 29)
  have HT3:=yb (zac (w:=w3) (b:=w3.heap.size) (.cells #[.slice ga s.gs.length gc,.int .i64 s.tr.kind,.int .i64 s.tr.n,.string (mkB s.tr.s),.slice ta s.tr.l.length tc] 29) rfl)
  have HX3:=yb (hs3.below (zam w3 (.cells #[.slice ga s.gs.length gc,.int .i64 s.tr.kind,.int .i64 s.tr.n,.string (mkB s.tr.s),.slice ta s.tr.l.length tc] 29)))
  have HB3:=yo HB2 hb3a
  have HS3:=yb (HS2.out.below hb3a)
  have HM3:=yb (HM2.out.keep (hb3a.block mb HM2.out.lt))
  have HW2:=yb (show W1.heap.size<=w2.heap.size/\w2.heap.size<=w3.heap.size/\∀b,Value.ownBlock (.slice sa l.length sc)=some b->b<w2.heap.size from ⟨by have:=HM2.out.lt;have:=HMW.out.2.2;omega,hb3.size,fun b hb=>(HS2.out.own.lt b hb).2⟩)
  have HM2L:=yb HM2.out.lt
  clear hb3 hb3a hs3 HS2 HM2 HB2 HSE
  go_upto_region 10 with fail
  obtain ⟨T,hT⟩:∃T,T=w3.heap.size:=⟨_,rfl⟩
  rw [<-hT] at HT3 HW2 |-
  clear hT
  generalize World.alloc _ _=W3 at *
  obtain ⟨⟨t0,t1,t2,t3,t4⟩,-⟩:=zbn HT3.out
  have HSC:=yb (show secC s (.slice ga s.gs.length gc) (.slice ta s.tr.l.length tc)=[.slice ga s.gs.length gc,.int .i64 s.tr.kind,.int .i64 s.tr.n,.string (mkB s.tr.s),.slice ta s.tr.l.length tc] from rfl)
  have HPA:=yb (show pvA s.tr (.slice ta s.tr.l.length tc)=.agg #[.int .i64 s.tr.kind,.int .i64 s.tr.n,.string (mkB s.tr.s),.slice ta s.tr.l.length tc] from rfl)
  have hone:∀u∈secC s (.slice ga s.gs.length gc) (.slice ta s.tr.l.length tc),u.oneCell'=true:=by
   intro u hu
   rw [HSC.out] at hu
   simp at hu
   rcases hu with rfl|rfl|rfl|rfl|rfl<;>rfl
  rw [HSC.out] at hone
  have HONE:=yb hone
  have HGT:=yb (fun (W:World) (hx:IsV W (fun b=>w2.heap.size<=b) s.tr (.slice ta s.tr.l.length tc))=>vget_any hx (fun _=>HEV.out) kPrev)
  rw [HPA.out] at HGT
  clear hone
  generalize hGV:getV s.tr kPrev=GV at *
  clear hGV
  generalize hK1:s.tr.kind=xk at *
  generalize hK2:s.tr.n=xn at *
  generalize hK3:mkB s.tr.s=xb at *
  clear hK1 hK2 hK3
  go_wp2_with (at_builtin;go_loud (refine zbT ESec rfl (.tmp 52) (.tmp 54) rfl W1.heap.size _ l.length _ rfl (HS3.out.own.alloc _) _ 1 _ rfl (zcK _ #[.slice ga s.gs.length gc,.int .i64 xk,.int .i64 xn,.string xb,.slice ta s.tr.l.length tc] _ 5 rfl rfl) HONE.out (by unfold maxLen;omega) (by omega) (by rw [zan];have:=HW2.out;have:=zai HT3.out;omega) ?_);intro v' w8 hO8 hg8 hn8;obtain ⟨ua,uc,rfl,-,-⟩:=zas hO8;have HS8:=yb (HS3.out.app hg8 HX3.out HW2.out.1 HW2.out.2.2 (fun b hb=>by rw [hb];have:=HM2L.out;exact this) (by rw [HSC.out];exact hO8) hn8);have HST:=yb (zfn hg8 HW2.out.2.2);have HX8:=yb (HX3.out.keep HST.out (fun _ h=>h));have HT8:=yb ((HST.out.2 T (zai HT3.out) HW2.out.2.1).trans HT3.out);have HM8:=yb (HM3.out.keep ((hg8.block mb (by rw [zan];have:=HM3.out.lt;omega) (fun e=>by have:=(HS3.out.own.lt mb e.symm).1;have:=HMW.out.1;omega)).trans (zb7 _ _ HM3.out.lt)));have HB8:=yb ((HB3.out.alloc HB3.out.size _).grown hg8 (by rw [zan];have:=HB3.out.size;omega) (fun b hb=>by have:=(HS3.out.own.lt b hb).1;have:=HMW.out;omega));clear hO8 hg8 hn8 HS3 HX3 HT3 HM3 HB3 t0 t1 t2 t3 t4;obtain ⟨⟨t0,t1,t2,t3,t4⟩,-⟩:=zbn HT8.out)
  have HG8:=yb (HGT.out _ HX8.out.2)
  clear HGT
  have HFW:=yb (show ∀b,W1.heap.size<=b->w.heap.size<=b from fun b hb=>by have:=HMW.out;omega)
  cases GV with
  | none =>
   refine HG8.out.mono ?_
   rintro e w9 ⟨xl,rfl,hv9,hb9⟩
   obtain ⟨la,lc,rfl,-,-,-⟩:=hv9.len
   simp only [getP,pvA,PV.none]
   have HB9:=yo HB8 hb9
   have HS9:=yb (HS8.out.below hb9)
   clear hv9 hb9 HG8 HX8 HT8 HM8 HB8 HS8 t0 t1 t2 t3 t4
   go_wp2_with fail
   go_ret3
   rw [HV.out]
   exact ⟨_,rfl,((HS9.out.below (zam _ _)).fin.keep (zaK.refl _ _) (fun b hb=>HFW.out b hb)),HB9.out.alloc HB9.out.size _⟩
  | some v =>
   refine HG8.out.mono ?_
   rintro e w9 ⟨xl,rfl,hv9,hb9⟩
   obtain ⟨la,lc,rfl,-,-,-⟩:=hv9.len
   simp only [getP,pvA]
   have hb9a:=hb9.alloc hb9.size (.cells #[.int .i64 v.kind,.int .i64 v.n,.string (mkB v.s),.slice la v.l.length lc] 27)
   have HY9:=yb (zac (w:=w9) (b:=w9.heap.size) (.cells #[.int .i64 v.kind,.int .i64 v.n,.string (mkB v.s),.slice la v.l.length lc] 27) rfl)
   have HB9:=yo HB8 hb9a
   have HS9:=yb (HS8.out.below hb9a)
   have HM9:=yb (HM8.out.keep (hb9a.block mb HM8.out.lt))
   clear hv9 hb9 hb9a HG8 HX8 HT8 HM8 HB8 HS8 t0 t1 t2 t3 t4
   have HV2:=yb (show R=if v.kind≠2 then ([],0,20) else zcf bs kn m (rd++[(K:Int)]) (l++[s]) v.n from HV.out)
   clear HV
   generalize v.kind=vk at *
   generalize v.n=vn at *
   generalize mkB v.s=vb at *
   go_upto_region 14 with fail
   generalize w9.heap.size=Y at *
   generalize World.alloc _ _=W9 at *
   obtain ⟨⟨y0,y1,y2,y3⟩,-⟩:=zaf HY9.out
   by_cases hk2:vk=2
   case neg =>
    have HV3:=yb (HV2.out.trans (yg hk2))
    have e0:(vk==2)=false:=by rw [yf];exact hk2
    have e1:(vk != 2)=true:=by simp only [bne,e0,yj]
    clear hk2
    go_wp2_with fail
    go_ret3
    exact zbU HV3.out HB9.out
   subst hk2
   have HV3:=yb (HV2.out.trans (yh (fun h=>h rfl)))
   have HLN:=yb (show (l++[s]).length=l.length+1 by simp)
   clear HV2
   go_wp2_with fail
   go_roundw
   case rel=>exact ⟨rd++[(K:Int)],l++[s],vn,_,rfl,by rw [HLN.out];omega,HS9,by rw [HLN.out];exact HM9,HB9,yb (by rw [HV3.out,HLN.out,show 33-(l.length+1)=m by have:=HM.out;omega])⟩
   case measure=>simp [slLen];omega
def zfS (l:List Sec):Prop:=∀s∈l,zgG s.gs
theorem zfv {s:Sec} {l:List Sec} {n:Int} (h:zca s.gs n=none):zbL (s::l) n=zbL l n:=by
 show (match zca s.gs n with|none=>zbL l n|some e=>if e.used=true/\e.gen=0 then e.at_ else -1)=_
 rw [h]
theorem zfB {s:Sec} {l:List Sec} {n:Int} {e:Ent} (h:zca s.gs n=some e):zbL (s::l) n=if e.used=true/\e.gen=0 then e.at_ else -1:=by
 show (match zca s.gs n with|none=>zbL l n|some e=>if e.used=true/\e.gen=0 then e.at_ else -1)=_
 rw [h]
theorem placeV_nil (n:Int):zbL [] n=-1:=rfl
def PlcEnd (w:World) (v:Int) (e:Ending) (w':World):Prop:=e=.returned (.int .i64 v)/\Below w.heap.size w w'
theorem xplace_any {w:World} {l:List Sec} {v:Value} (h:IsL w F l v) (hs:zfS l) (n:Int) (hn0:-2000000000000000000<=n) (hn1:n<=2000000000000000000) :
  Calls Tryz.prog 68 #[v,.int .i64 n] w (PlcEnd w (zbL l n)):=by
 obtain ⟨a,cap,rfl,g1,g2,g3⟩:=h.len
 have hl63:(l.length:Int)<=9223372036854775807:=by unfold maxLen at g2;omega
 have HL:=yb h
 obtain ⟨R,hR⟩:∃R,R=zbL l n:=⟨_,rfl⟩
 have HR:=yb hR
 have HSM:=yb hs
 rw [<-hR]
 clear h hR g2 g3 hs
 go_enter Tryz.func68,Tryz.ntmps68
 go_wp2_with fail
 go_loopw [11] (fun v wr=>∃k:Nat,v=.int .i64 k/\k<=l.length/\Hid (R=zbL (l.drop k) n)/\Hid (Below w.heap.size w wr)) (fun v _=>l.length-(intOf v).toNat)
 case atStart=>exact ⟨0,rfl,Nat.zero_le _,HR,yb (Below.refl _ _)⟩
 case round =>
  obtain ⟨k,rfl,hk,HQ,HB⟩:=hrel
  by_cases hlt:k<l.length
  ·have hcd:decide ((k:Int)<(l.length:Int))=true:=yd (by omega)
   have hcd2:decide (k<l.length)=true:=yd hlt
   have HL2:=yb (HL.out.below HB.out)
   have hL2:=HL2.out
   obtain ⟨-,-,-,b,off,rfl,-,-,hc⟩:=hL2.at (by omega)
   obtain ⟨s,hx⟩:∃s,l[k]?=some s:=⟨_,List.getElem?_eq_getElem hlt⟩
   obtain ⟨gv,sl,hsec,c0,c1,c2,c3,c4⟩:=hc k s hx
   obtain ⟨ga,gc,rfl,-,-,-⟩:=hsec.1.len
   obtain ⟨la,lc,rfl,-,-,-⟩:=hsec.2.len
   have HFD:=yb (fun (W:World) (hb:Below wr.heap.size wr W)=>xfind_any (hsec.below hb) n (HSM.out s (List.mem_of_getElem? hx)) hn0 hn1)
   have hdrop:l.drop k=s::l.drop (k+1):=by
    rw [List.drop_eq_getElem_cons hlt]
    rw [List.getElem?_eq_getElem hlt] at hx
    rw [Option.some.inj hx]
   have HD:=yb (HQ.out.trans (by rw [hdrop]))
   unfold secA at HFD
   clear hL2 hc hx hdrop HQ
   have HN:=yb (fun h=>HD.out.trans (zfv (n:=n) h))
   have HY:=yb (fun e h=>HD.out.trans (zfB (n:=n) (e:=e) h))
   clear HD
   generalize zca s.gs n=o at *
   have HPA:=yb (zam wr (.cells #[.slice ga s.gs.length gc,.int .i64 s.tr.kind,.int .i64 s.tr.n,.string (mkB s.tr.s),.slice la s.tr.l.length lc] 29))
   have HT1:=yb (zac (w:=wr) (b:=wr.heap.size) (.cells #[.slice ga s.gs.length gc,.int .i64 s.tr.kind,.int .i64 s.tr.n,.string (mkB s.tr.s),.slice la s.tr.l.length lc] 29) rfl)
   have HB1:=yb (HB.out.trans (HPA.out.mono HB.out.size))
   have HF1:=yb (HFD.out _ HPA.out)
   clear HFD HPA hsec HL2 HB
   generalize s.gs.length=gl at *
   generalize s.tr.kind=xk at *
   generalize s.tr.n=xn at *
   generalize mkB s.tr.s=xb at *
   generalize s.tr.l.length=xl at *
   go_upto_region 4 with fail
   generalize wr.heap.size=T at *
   generalize World.alloc _ _=W1 at *
   clear c0 c1 c2 c3 c4
   obtain ⟨⟨t0,t1,t2,t3,t4⟩,-⟩:=zbn HT1.out
   go_wp2_with fail
   refine HF1.out.mono ?_
   rintro e w2 ⟨rfl,hb2⟩
   cases o with
   | none =>
    have HE:=yb (HN.out rfl)
    have HB2:=yo HB1 hb2
    have HZ:=yb (zac (w:=w2) (b:=w2.heap.size) (.cells #[.int .i64 0,.int .i64 0,.bool false] 44) rfl)
    have HB3:=yb (HB2.out.alloc HB2.out.size (.cells #[.int .i64 0,.int .i64 0,.bool false] 44))
    simp only [findP,entA]
    clear hb2 HB1 HB2 HF1 HT1 t0 t1 t2 t3 t4 HN HY
    go_upto_region 5 with fail
    generalize w2.heap.size=Z at *
    generalize World.alloc _ _=W3 at *
    obtain ⟨⟨z0,z1,z2⟩,-⟩:=zcH HZ.out
    go_wp2_with fail
    go_roundw
    case rel=>exact ⟨k+1,by go_num,hlt,HE,HB3⟩
    case measure=>simp [intOf];omega
   | some x =>
    have HE:=yb (HY.out x rfl)
    obtain ⟨xa,xg,xu⟩:=x
    have HB2:=yo HB1 hb2
    have HZ:=yb (zac (w:=w2) (b:=w2.heap.size) (.cells #[.int .i64 xa,.int .i64 xg,.bool xu] 44) rfl)
    have HB3:=yb (HB2.out.alloc HB2.out.size (.cells #[.int .i64 xa,.int .i64 xg,.bool xu] 44))
    simp only [findP,entA] at HE |-
    clear hb2 HB1 HB2 HF1 HT1 t0 t1 t2 t3 t4 HN HY
    go_upto_region 5 with fail
    generalize w2.heap.size=Z at *
    generalize World.alloc _ _=W3 at *
    obtain ⟨⟨z0,z1,z2⟩,-⟩:=zcH HZ.out
    cases xu
    ·have HE2:=yb (HE.out.trans (yh (by simp)))
     go_wp2_with fail
     go_ret
     exact ⟨by rw [HE2.out];rfl,HB3.out⟩
    ·by_cases hg:xg=0
     ·subst hg
      have HE2:=yb (HE.out.trans (yg ⟨rfl,rfl⟩))
      go_wp2_with fail
      go_ret
      exact ⟨by rw [HE2.out];rfl,HB3.out⟩
     ·have e0:(xg==0)=false:=by rw [yf];exact hg
      have HE2:=yb (HE.out.trans (yh (fun h=>hg h.2)))
      clear hg
      go_wp2_with fail
      go_ret
      exact ⟨by rw [HE2.out];rfl,HB3.out⟩
  ·have hcd:decide ((k:Int)<(l.length:Int))=false:=ye (by omega)
   have hcd2:decide (k<l.length)=false:=ye hlt
   have HE:=yb (show R=-1 by rw [HQ.out,List.drop_eq_nil_of_le (by omega)];rfl)
   go_wp2_with fail
   go_ret
   exact ⟨by rw [HE.out];rfl,HB.out⟩
theorem EIntT:zc9 Tryz.prog 72 3 (.int .i64 0) 1 8:=⟨Tryz.underlying72,by kernel_rfl,rfl,by omega⟩
theorem zcP:(Tryz.prog.info? 74).map (·.size)=some 2:=by kernel_rfl
def OfEnd (w:World) (V:Tab×Int) (e:Ending) (w':World):Prop :=
 ∃pa pc,e=.returned (.tuple #[.agg #[.slice pa V.1.ps.length pc,.int .i64 V.1.root],.int .i64 V.2])/\Row w' 1 pa V.1.ps.length pc (V.1.ps.map (Value.int .i64))/\(∀x,pa=some x->w.heap.size<=x.block)/\Below w.heap.size w w'
structure OfM (tt:TypeId) (w W0 W:World) (r S Tb:Nat) (sz:Array Value) (root:Int) (ps:List Int) (v:Value):Prop where
 res:W.heap[r]?=some (.cells #[.slice none 0 0,.int .i64 0] tt (0,0))
 siz:W.heap[S]?=some (.cells sz 27 (0,0))
 tab:W.heap[Tb]?=some (.cells #[v,.int .i64 root] tt (0,0))
 own:W.ownsRow W0.heap.size 3 1 v ps.length (ps.map (Value.int .i64))
 bel:Below w.heap.size w W
 lt:w.heap.size<=r/\r<W0.heap.size/\S<W0.heap.size/\Tb<W0.heap.size/\r≠Tb/\S≠Tb/\w.heap.size<=Tb/\W0.heap.size<=W.heap.size
theorem OfM.on {tt:TypeId} {w:World} {S Tb:Nat} {sz:Array Value} {root:Int} {ps:List Int} {v:Value} (h:OfM tt w W0 W r S Tb sz root ps v) (hb:Below W.heap.size W W'):OfM tt w W0 W' r S Tb sz root ps v :=
 ⟨zab hb h.res,zab hb h.siz,zab hb h.tab,zaE h.own fun b hb2=>hb.block b (h.own.lt b hb2).2,h.bel.trans (hb.mono h.bel.size),by have:=h.lt;have:=hb.size;omega⟩
theorem OfM.far {tt:TypeId} {w:World} {o:Obj} {S Tb:Nat} {sz:Array Value} {root:Int} {ps:List Int} {v:Value} (h:OfM tt w W0 W r S Tb sz root ps v) (hg:(W.alloc o).grownBy W8 v.ownBlock) {b:Nat} (hb:b<W0.heap.size):W8.heap[b]?=W.heap[b]?:=by
 have hl:=h.lt
 rw [hg.block b (by rw [zan];omega) (fun e=>by have:=(h.own.lt b e.symm).1;omega)]
 exact zb7 W o (by omega)
theorem OfM.app {tt:TypeId} {w:World} {o:Obj} {S Tb:Nat} {sz:Array Value} {root:Int} {ps:List Int} {v:Value} (h:OfM tt w W0 W r S Tb sz root ps v) (hg:(W.alloc o).grownBy W8 v.ownBlock) 
  (hO:W8.ownsRow W0.heap.size 3 1 v' (ps.length+1) (ps.map (Value.int .i64)++[.int .i64 x])):OfM tt w W0 (W8.setCell ⟨Tb,0,none⟩ v') r S Tb sz root (ps++[x]) v':=by
 have hl:=h.lt
 have hT:W8.heap[Tb]?=some (.cells #[v,.int .i64 root] tt (0,0)):=(h.far hg hl.2.2.2.1).trans h.tab
 refine ⟨by rw [heap_setCell_other _ _ _ _ (show r≠Tb from hl.2.2.2.2.1)];exact (h.far hg hl.2.1).trans h.res,by rw [heap_setCell_other _ _ _ _ (show S≠Tb from hl.2.2.2.2.2.1)];exact (h.far hg hl.2.2.1).trans h.siz,by rw [heap_setCell_same _ Tb 0 _ _ _ hT];rfl,?_,?_,?_⟩
 ·rw [List.length_append,List.map_append]
  exact zaE hO fun b hb=>heap_setCell_other _ _ _ _ (show b≠Tb by have:=(hO.lt b hb).1;omega)
 ·exact ((h.bel.alloc h.bel.size o).grown hg (by rw [zan];have:=h.bel.size;omega) (fun b hb=>by have:=(h.own.lt b hb).1;omega)).setCell (p:=⟨Tb,0,none⟩) hl.2.2.2.2.2.2.1 _
 ·have:=hg.size
  rw [zan] at this
  have h2:(W8.setCell ⟨Tb,0,none⟩ v').heap.size=W8.heap.size:=by simp [World.setCell]
  omega
theorem tabV_nil:tabV []=({},20):=rfl
theorem tabV_size {s:Sec} {l:List Sec} (h:(getP (getV s.tr zdB)).1.kind≠2\/(getP (getV s.tr zdB)).1.n<1\/4097<(getP (getV s.tr zdB)).1.n):tabV (s::l)=({},20):=by unfold tabV;simp only;rw [yg h]
theorem tabV_root {s:Sec} {l:List Sec} (h:¬((getP (getV s.tr zdB)).1.kind≠2\/(getP (getV s.tr zdB)).1.n<1\/4097<(getP (getV s.tr zdB)).1.n)) (h2:(getP (getV s.tr kRoot)).1.kind≠8):tabV (s::l)=({},23):=by unfold tabV;simp only;rw [yh h,yg h2]
theorem tabV_ok {s:Sec} {l:List Sec} (h:¬((getP (getV s.tr zdB)).1.kind≠2\/(getP (getV s.tr zdB)).1.n<1\/4097<(getP (getV s.tr zdB)).1.n)) (h2:¬(getP (getV s.tr kRoot)).1.kind≠8) :
  tabV (s::l)=(⟨(List.range ((getP (getV s.tr zdB)).1.n.toNat-1)).map fun (i:Nat)=>zbL (s::l) ((i:Int)+1),(getP (getV s.tr kRoot)).1.n⟩,0):=by unfold tabV;simp only;rw [yh h,yh h2]
def evenL (l:List Sec):Prop:=∀s∈l,s.tr.kind=7->s.tr.l.length % 2=0
theorem zgb {w:World} {V:Tab×Int} {e:Int} (hV:V=({},e)) (hb:Below w.heap.size w W) (hr:w.heap.size<=r) (y0 y1:Value) :
  OfEnd w V (.returned (.tuple #[.agg #[.slice none 0 0,.int .i64 0],.int .i64 e])) ((W.setCell ⟨r,0,none⟩ y0).setCell ⟨r,1,none⟩ y1):=by
 subst hV
 exact ⟨none,0,rfl,Row.nil _ 1,fun x hx=>(by cases hx),(hb.setCell (p:=⟨r,0,none⟩) hr _).setCell (p:=⟨r,1,none⟩) hr _⟩
theorem of_any {w:World} {l:List Sec} {v:Value} (h:IsL w F l v) (hs:zfS l) (hev:evenL l):Calls Tryz.prog 29 #[v] w (OfEnd w (tabV l)):=by
 obtain ⟨a,cap,rfl,g1,g2,g3⟩:=h.len
 have hl63:(l.length:Int)<=9223372036854775807:=by unfold maxLen at g2;omega
 have HL:=yb h
 obtain ⟨V,hV⟩:∃V,V=tabV l:=⟨_,rfl⟩
 have HV:=yb hV
 have HSM:=yb hs
 have HEV:=yb hev
 rw [<-hV]
 clear h hV g2 g3 hs hev
 obtain ⟨r,hr⟩:∃r,r=w.heap.size:=⟨_,rfl⟩
 have HZ1:=yb (zac (w:=w) (b:=r) (.cells #[.slice none 0 0,.int .i64 0] 74) hr)
 have HB1:=yb (zam w (.cells #[.slice none 0 0,.int .i64 0] 74))
 have HRW:=yb (Nat.le_of_eq hr.symm)
 go_enter Tryz.func29,Tryz.ntmps29
 go_upto_region 1 with fail
 try rw [<-hr]
 clear hr
 generalize w.alloc _=W1 at *
 cases l with
 | nil =>
  have HE:=yb (HV.out.trans tabV_nil)
  obtain ⟨⟨z0,z1⟩,y0,y1⟩:=zaA HZ1.out
  go_wp2_with fail
  refine yi (zaa rfl _ _ r 74 _ (0,0) _ rfl (by exact zbW HZ1.out _ _) Tryz.underlying74 rfl (by exact zcP) _ rfl) rfl ?_
  exact zgb HE.out HB1.out HRW.out _ _
 | cons s0 l0 =>
  have HL1:=yb (HL.out.below HB1.out)
  have hL1:=HL1.out
  obtain ⟨-,-,-,b,off,rfl,-,-,hc⟩:=hL1.at (by simp)
  obtain ⟨gv,sl,hsec,c0,c1,c2,c3,c4⟩:=hc 0 s0 rfl
  obtain ⟨la,lc,rfl,-,-,-⟩:=hsec.2.len
  have hlen:(s0::l0).length=l0.length+1:=rfl
  have HG:=yb (fun (W:World) (hb:Below W1.heap.size W1 W) (key:List UInt8)=>vget_any (IsV.below hsec.2 hb) (HEV.out s0 (List.mem_cons_self ..)) key)
  have HPL:=yb (fun (W:World) (hb:Below w.heap.size w W) (n:Int) (h0:-2000000000000000000<=n) (h1:n<=2000000000000000000)=>xplace_any (HL.out.below hb) HSM.out n h0 h1)
  have HV1:=yb (fun h=>HV.out.trans (tabV_size h))
  have HV2:=yb (fun h h2=>HV.out.trans (tabV_root h h2))
  have HV3:=yb (fun h h2=>HV.out.trans (tabV_ok h h2))
  have HGS:=yb (HG.out W1 (Below.refl _ _) zdB)
  have HGR:=yb (fun (W:World) (hb:Below W1.heap.size W1 W)=>HG.out W hb kRoot)
  obtain ⟨PV1,hP1⟩:∃P,P=fun n=>zbL (s0::l0) n:=⟨_,rfl⟩
  have HPP:=yb (show ∀n,zbL (s0::l0) n=PV1 n from fun n=>by rw [hP1])
  simp only [HPP.out] at HPL HV3
  clear hP1
  generalize getP (getV s0.tr zdB)=Z at *
  generalize getP (getV s0.tr kRoot)=Q at *
  obtain ⟨zv,zb⟩:=Z
  obtain ⟨qv,qb⟩:=Q
  simp only at HV1 HV2 HV3
  unfold pvA at HGS HGR
  have hN0:(((s0::l0).length:Int)==0)=false:=by rw [yf];simp only [List.length_cons];omega
  have hN1:((s0::l0).length==0)=false:=by rw [yf];simp
  have hNp:0<(s0::l0).length:=by simp
  simp only [Nat.zero_mul,Nat.add_zero] at c0 c1 c2 c3 c4
  clear HL HL1 hL1 hc hsec HG HV HPP hlen HEV HSM c0
  generalize (s0::l0).length=N at *
  generalize s0.tr.kind=xk at *
  generalize s0.tr.n=xn at *
  generalize mkB s0.tr.s=xb at *
  generalize s0.tr.l.length=xl at *
  go_wp2_with fail
  refine HGS.out.mono ?_
  rintro e w2 ⟨zl,rfl,hzv,hb2⟩
  obtain ⟨za,zc,rfl,-,-,-⟩:=hzv.len
  simp only [pvA]
  have hb2a:=hb2.alloc hb2.size (.cells #[.int .i64 zv.kind,.int .i64 zv.n,.string (mkB zv.s),.slice za zv.l.length zc] 27)
  have HS2:=yb (zac (w:=w2) (b:=w2.heap.size) (.cells #[.int .i64 zv.kind,.int .i64 zv.n,.string (mkB zv.s),.slice za zv.l.length zc] 27) rfl)
  have HZ2:=yb (zab hb2a HZ1.out)
  have HX2:=yb hb2a
  have HWS:=yb (show w.heap.size<=w2.heap.size/\r<w2.heap.size from ⟨Nat.le_trans HB1.out.size hb2.size,Nat.lt_of_lt_of_le (zai HZ1.out) hb2.size⟩)
  have e1:=cell?_keep hb2a c1
  have e2:=cell?_keep hb2a c2
  have e3:=cell?_keep hb2a c3
  have e4:=cell?_keep hb2a c4
  clear hb2 hb2a hzv HGS HZ1 c1 c2 c3 c4
  generalize zv.kind=zk at *
  generalize zv.n=zn at *
  generalize mkB zv.s=zs at *
  generalize zv.l.length=zl2 at *
  go_upto_region 4 with fail
  generalize w2.heap.size=S4 at *
  generalize World.alloc _ _=W2 at *
  have HG2:=yb (HGR.out _ HX2.out)
  clear HGR
  go_wp2_with fail
  refine HG2.out.mono ?_
  rintro e w3 ⟨ql,rfl,hqv,hb3⟩
  obtain ⟨qa,qc,rfl,-,-,-⟩:=hqv.len
  simp only [pvA]
  have hb3a:=hb3.alloc hb3.size (.cells #[.int .i64 qv.kind,.int .i64 qv.n,.string (mkB qv.s),.slice qa qv.l.length qc] 27)
  have HQ3:=yb (zac (w:=w3) (b:=w3.heap.size) (.cells #[.int .i64 qv.kind,.int .i64 qv.n,.string (mkB qv.s),.slice qa qv.l.length qc] 27) rfl)
  have HS3:=yb (zab hb3a HS2.out)
  have HZ3:=yb (zab hb3a HZ2.out)
  have HB3:=yb ((HB1.out.trans (HX2.out.mono HB1.out.size)).trans (hb3a.mono (HB1.out.trans (HX2.out.mono HB1.out.size)).size))
  have HSS:=yb (show S4<w3.heap.size/\r<w3.heap.size from ⟨Nat.lt_of_lt_of_le (zai HS2.out) hb3.size,Nat.lt_of_lt_of_le (zai HZ2.out) hb3.size⟩)
  clear hb3 hb3a hqv HG2 HS2 HZ2 HX2 HB1 e1 e2 e3 e4
  generalize qv.kind=qk at *
  generalize qv.n=qn at *
  generalize mkB qv.s=qs at *
  generalize qv.l.length=ql2 at *
  go_upto_region 5 with fail
  generalize w3.heap.size=R4 at *
  generalize World.alloc _ _=W3 at *
  obtain ⟨⟨s1,s2,s3,s4⟩,-⟩:=zaf HS3.out
  obtain ⟨⟨q1,q2,q3,q4⟩,-⟩:=zaf HQ3.out
  obtain ⟨⟨z0,z1⟩,y0,y1⟩:=zaA HZ3.out
  by_cases h1:zk=2
  case neg =>
   have HE:=yb (HV1.out (.inl h1))
   have f0:(zk==2)=false:=by rw [yf];exact h1
   have f1:(zk != 2)=true:=by simp only [bne,f0,yj]
   clear h1 HV1 HV2 HV3 HPL
   go_wp2_with fail
   refine yi (zaa rfl _ _ r 74 _ (0,0) _ rfl (by exact zbW HZ3.out _ _) Tryz.underlying74 rfl (by exact zcP) _ rfl) rfl ?_
   exact zgb HE.out HB3.out HRW.out _ _
  subst h1
  by_cases h2:zn<1
  ·have HE:=yb (HV1.out (.inr (.inl h2)))
   have f0:decide (zn<1)=true:=yd h2
   clear h2 HV1 HV2 HV3 HPL
   go_wp2_with fail
   refine yi (zaa rfl _ _ r 74 _ (0,0) _ rfl (by exact zbW HZ3.out _ _) Tryz.underlying74 rfl (by exact zcP) _ rfl) rfl ?_
   exact zgb HE.out HB3.out HRW.out _ _
  have f2:decide (zn<1)=false:=ye h2
  by_cases h3:4097<zn
  ·have HE:=yb (HV1.out (.inr (.inr h3)))
   have f0:decide (4097<zn)=true:=yd h3
   clear h3 h2 HV1 HV2 HV3 HPL
   go_wp2_with fail
   refine yi (zaa rfl _ _ r 74 _ (0,0) _ rfl (by exact zbW HZ3.out _ _) Tryz.underlying74 rfl (by exact zcP) _ rfl) rfl ?_
   exact zgb HE.out HB3.out HRW.out _ _
  have f3:decide (4097<zn)=false:=ye h3
  have hno:¬((2:Int)≠2\/zn<1\/4097<zn):=by rintro (h|h|h);exact h rfl;exact h2 h;exact h3 h
  by_cases h8:qk=8
  case neg =>
   have HE:=yb (HV2.out hno h8)
   have f0:(qk==8)=false:=by rw [yf];exact h8
   have f1:(qk != 8)=true:=by simp only [bne,f0,yj]
   clear h8 h2 h3 hno HV1 HV2 HV3 HPL
   go_wp2_with fail
   refine yi (zaa rfl _ _ r 74 _ (0,0) _ rfl (by exact zbW HZ3.out _ _) Tryz.underlying74 rfl (by exact zcP) _ rfl) rfl ?_
   exact zgb HE.out HB3.out HRW.out _ _
  subst h8
  have HE:=yb (HV3.out hno (fun h=>h rfl))
  obtain ⟨M,hM⟩:∃M:Nat,zn=(M:Int)+1:=⟨(zn-1).toNat,by omega⟩
  subst hM
  have hM7:M<=4096:=by omega
  rw [show ((M:Int)+1).toNat-1=M by omega] at HE
  have HOM:=yb (show OfM 74 w (W3.alloc (.cells #[.slice none 0 0,.int .i64 qn] 74)) (W3.alloc (.cells #[.slice none 0 0,.int .i64 qn] 74)) r S4 W3.heap.size #[.int .i64 2,.int .i64 ((M:Int)+1),.string zs,.slice za zl2 zc] qn [] (.slice none 0 0) from
   ⟨zak _ HZ3.out,zak _ HS3.out,zac _ rfl,World.ownsRow_nil _ _ _ _,HB3.out.alloc HB3.out.size _,by
    have:=HSS.out;have:=HRW.out;have:=zai HQ3.out;have:=HB3.out.size;rw [zan];omega⟩)
  clear h2 h3 hno HV1 HV2 HV3 f2 f3
  go_upto_region 10 with fail
  generalize W3.heap.size=Tb at *
  generalize World.alloc _ _=W4 at *
  clear s1 s2 s3 s4 q1 q2 q3 q4 z0 z1 y0 y1 HS3 HQ3 HZ3 HB3
  go_wp2_with fail
  go_loopw [9] (fun v9 wr=>∃(k:Nat) (v:Value),v9=.int .i64 ((k:Int)+1)/\k<=M/\Hid (OfM 74 w W4 wr r S4 Tb #[.int .i64 2,.int .i64 ((M:Int)+1),.string zs,.slice za zl2 zc] qn ((List.range k).map fun (i:Nat)=>PV1 ((i:Int)+1)) v)) (fun v _=>M+1-(intOf v).toNat)
  case atStart=>exact ⟨0,_,rfl,Nat.zero_le _,HOM⟩
  case round =>
   obtain ⟨k,v,rfl,hk,HM⟩:=hrel
   obtain ⟨sa,sc,rfl,-,-⟩:=zas HM.out.own
   simp only [List.length_map,List.length_range] at HM
   obtain ⟨⟨s1,s2,s3,s4⟩,-⟩:=zaf HM.out.siz
   obtain ⟨⟨t0,t1⟩,tf0,tf1⟩:=zaA HM.out.tab
   by_cases hlt:k<M
   ·have hcd:decide ((k:Int)+1<(M:Int)+1)=true:=yd (by omega)
    have hcd2:decide ((k:Int)<(M:Int))=true:=yd (by omega)
    have hcd3:decide (k<M)=true:=yd hlt
    have HPD:=yb (HPL.out wr.drew (HM.out.bel.trans ((Below.refl _ wr).drew.mono HM.out.bel.size)) ((k:Int)+1) (by omega) (by omega))
    obtain ⟨iB,hiB,hzB,hsB,hbB⟩:=info_parts EIntT.info
    have HRG:=yb (show ((List.range (k+1)).map fun (i:Nat)=>PV1 ((i:Int)+1))=((List.range k).map fun (i:Nat)=>PV1 ((i:Int)+1))++[PV1 ((k:Int)+1)] by rw [List.range_succ,List.map_append];rfl)
    have HPN:=yb (show ((List.range k).map fun (i:Nat)=>PV1 ((i:Int)+1)).length=k by rw [List.length_map,List.length_range])
    generalize PV1 ((k:Int)+1)=pl at *
    go_wp2_with fail
    have t0d:=cell?_keep (Below.refl _ wr).drew t0
    go_region_law
     (first
      |(go_simp;go_at_call 68;refine HPD.out.mono ?_;rintro e w5 ⟨rfl,hb5⟩;have HM5:=yb (HM.out.on ((Below.refl _ wr).drew.trans hb5));have HO5:=yb (show w5.ownsRow W4.heap.size 3 1 (.slice sa k sc) k (((List.range k).map fun (i:Nat)=>PV1 ((i:Int)+1)).map (Value.int .i64)) by have h:=HM5.out.own;rwa [HPN.out] at h);obtain ⟨⟨m0,m1⟩,mf0,mf1⟩:=zaA HM5.out.tab;obtain ⟨⟨n0,n1⟩,nf0,nf1⟩:=zaA (zak (.cells #[.int .i64 pl] 3) HM5.out.tab))
      |(refine step_append_lies _ (by rfl) _ _ _ (by rfl) W4.heap.size 3 iB _ 1 8 EIntT.und hiB hzB hsB hbB rfl (by omega) (.slice sa k sc) k _ (by rfl) (HO5.out.alloc _) ⟨w5.heap.size,0,none⟩ 1 1 [.int .i64 pl] (by rfl) (by rfl) (World.news_of_block (cs:=#[.int .i64 pl]) (t:=3) (fr:=(0,0)) (heap_alloc_new w5 _)) (by simp [Value.oneCell']) (by omega) (by unfold maxLen;omega) (by omega) (by rw [zan];have:=HM5.out.lt;omega) (w5.heap.size+1) (by simp) ?_;intro g cap7 w7 hO7 hgrow hat hlt7;have HT7:=yb ((HM5.out.far hgrow HM5.out.lt.2.2.2.1).trans HM5.out.tab);have HM8:=yb (HM5.out.app hgrow (by rw [HPN.out];exact hO7));obtain ⟨⟨p0,p1⟩,pf0,pf1⟩:=zaA HT7.out))
    all_goals (try go_wp2_with fail)
    all_goals go_roundw
    all_goals first
     | exact ⟨k+1,_,by first|rfl|(congr 1),hlt,yb (by rw [HRG.out];exact HM8.out)⟩
     |(simp [intOf];omega)
   ·obtain rfl:k=M:=by omega
    have hcd:decide ((k:Int)+1<(k:Int)+1)=false:=ye (by omega)
    have hcd2:decide ((k:Int)<(k:Int))=false:=ye (by omega)
    have hcd3:decide (k<k)=false:=ye (by omega)
    obtain ⟨⟨z0,z1⟩,y0,y1⟩:=zaA HM.out.res
    have HLR:=yb HM.out.lt
    have HOW:=yb HM.out.own
    go_wp2_with fail
    refine yi (zaa rfl _ _ r 74 _ (0,0) _ rfl (by exact zbW HM.out.res _ _) Tryz.underlying74 rfl (by exact zcP) _ rfl) rfl ?_
    rw [HE.out]
    refine ⟨sa,sc,by simp only [List.length_map,List.length_range];rfl,?_,fun x hx=>by have h1:=(HOW.out.lt x.block (by rw [hx];rfl)).1;have h2:=HLR.out;omega,(HM.out.bel.setCell (p:=⟨r,0,none⟩) HLR.out.1 _).setCell (p:=⟨r,1,none⟩) HLR.out.1 _⟩
    have ho:=zaE (w':=(wr.setCell ⟨r,0,none⟩ (.slice sa k sc)).setCell ⟨r,1,none⟩ (.int .i64 qn)) HOW.out (fun b hb=>by
     have h1:=(HOW.out.lt b hb).1
     have h2:=HLR.out
     rw [heap_setCell_other _ _ _ _ (show b≠r by omega),heap_setCell_other _ _ _ _ (show b≠r by omega)])
    simp only [List.length_map,List.length_range] at ho |-
    exact (Row.of_own ho).2
theorem lastAt_is (w b:List UInt8):∀k,k+w.length<=b.length->Lib.lastOcc b w (k+1)=(match zdt w b k with|none=>(-1:Int)|some k=>(k:Int))
 | 0,h=>by
  have e:=Lib.RK.occAt_win b w 0 (by omega)
  unfold zdt
  by_cases hw:(b.drop 0).take w.length=w
  ·rw [yg hw,Lib.lastOcc_hit _ _ _ (by rw [e];exact beq_iff_eq.2 hw)];all_goals (try rfl)
  ·rw [yh hw,Lib.lastOcc_miss _ _ _ (by rw [e];exact beq_eq_false_iff_ne.2 hw)];all_goals (try rfl)
 | k+1,h=>by
  have e:=Lib.RK.occAt_win b w (k+1) (by omega)
  unfold zdt
  by_cases hw:(b.drop (k+1)).take w.length=w
  ·rw [yg hw,Lib.lastOcc_hit _ _ _ (by rw [e];exact beq_iff_eq.2 hw)]
  ·rw [yh hw,Lib.lastOcc_miss _ _ _ (by rw [e];exact beq_eq_false_iff_ne.2 hw)]
   exact lastAt_is w b k (by omega)
theorem lastW_is (w b:List UInt8):Lib.lastIndex b w=(match zcN w b with|none=>(-1:Int)|some k=>(k:Int)):=by
 unfold Lib.lastIndex zcN
 by_cases h:b.length<w.length
 ·rw [yh (by omega),yg h]
 ·rw [yg (by omega),yh h]
  exact lastAt_is w b _ (by omega)
theorem lastW_le {w b:List UInt8} (h:zcN w b=some k):k+w.length<=b.length:=by
 unfold zcN at h
 split at h
 ·cases h
 ·have:∀m,zdt w b m=some k->k<=m:=by
   intro m
   induction m with
   | zero=>intro h;unfold zdt at h;split at h<;>simp at h;omega
   | succ m ih =>
    intro h
    unfold zdt at h
    split at h
    ·simp at h;omega
    ·have:=ih h;omega
  have:=this _ h
  omega
end Go.Proofs.YtfafdeemfeaedaaGreat
