/-
  Our texts Xd4 to ArgsC, in one.
-/
import Derived.Test.YtfafdeemfeaedaaGreatPkW14
import Derived.StillTailTactics
import Derived.Deep.SlicePairs
import Derived.Lib.SmallJoins
import Derived.ChangeSlices
set_option maxRecDepth 8000
set_option maxHeartbeats 8000000
namespace Go.Proofs.YtfafdeemfeaedaaGreat
open Go.RowKit
theorem PsM.atP {w W0 W W8:World} {r p:Nat} {o:Obj} {gs:List Grp} {cs:List Value} {v:Value} (h:PsM w W0 W r p gs cs v) (hg8:(W.alloc o).grownBy W8 v.ownBlock) :
  W8.heap[p]?=some (.cells #[v,.int .i64 0,.int .i64 0,.string ⟨#[]⟩,.slice none 0 0] 33 (0,0)) :=
 (hg8.block p (by rw [zan];have:=zaj h.sb;omega) (fun e=>by have:=(h.gm.own.lt p e.symm).1;have:=h.lt;omega)).trans (zak _ h.sb)
theorem PsM.ret {w W0 W:World} {r p:Nat} {gs:List Grp} {cs:List Value} {v:Value} (h:PsM w W0 W r p gs cs v) {V:Sec×Int×Int} {e:Int} (hV:V=(Sec.none,0,e)) (y0 y1 y2 y3 y4:Value) :
  zeQ w V (.returned (.tuple #[.agg #[.slice none 0 0,.int .i64 0,.int .i64 0,.string ⟨#[]⟩,.slice none 0 0],.int .i64 0,.int .i64 e])) (((((W.setCell ⟨r,0,none⟩ y0).setCell ⟨r,1,none⟩ y1).setCell ⟨r,2,none⟩ y2).setCell ⟨r,3,none⟩ y3).setCell ⟨r,4,none⟩ y4) :=
 zgu hV h.bel h.lt.1 y0 y1 y2 y3 y4
theorem EsM.atG {w W W8:World} {o:Obj} {g:Nat} {n:Int} {es:List Ent} {sv:Value} (h:EsM w W g n es sv) (hg8:(W.alloc o).grownBy W8 sv.ownBlock):W8.heap[g]?=some (.cells #[.int .i64 n,sv] 42 (0,0)) :=
 (hg8.block g (by rw [zan];have:=zaj h.blk;omega) (fun e=>h.ne e.symm rfl)).trans (zak _ h.blk)
theorem set4p {w:World} {b:Nat} {x0 x1 x2 x3 x4:Value} {t:TypeId} (h:w.heap[b]?=some (.cells #[x0,x1,x2,x3,x4] t (0,0))) (y1 y2 y3 y4:Value) :
  ((((w.setCell ⟨b,1,none⟩ y1).setCell ⟨b,2,none⟩ y2).setCell ⟨b,3,none⟩ y3).setCell ⟨b,4,none⟩ y4).heap[b]?=some (.cells #[x0,y1,y2,y3,y4] t (0,0)):=by
 rw [heap_setCell_same _ _ 4 _ _ _ (heap_setCell_same _ _ 3 _ _ _ (heap_setCell_same _ _ 2 _ _ _ (heap_setCell_same w _ 1 _ _ _ h)))];rfl
theorem zfk {w:World} {b c:Nat} (hc:c≠b) (y1 y2 y3 y4:Value):((((w.setCell ⟨b,1,none⟩ y1).setCell ⟨b,2,none⟩ y2).setCell ⟨b,3,none⟩ y3).setCell ⟨b,4,none⟩ y4).heap[c]?=w.heap[c]?:=by
 rw [heap_setCell_other _ _ _ _ hc,heap_setCell_other _ _ _ _ hc,heap_setCell_other _ _ _ _ hc,heap_setCell_other _ _ _ _ hc]
theorem set4p_size (w:World) (b:Nat) (y1 y2 y3 y4:Value):((((w.setCell ⟨b,1,none⟩ y1).setCell ⟨b,2,none⟩ y2).setCell ⟨b,3,none⟩ y3).setCell ⟨b,4,none⟩ y4).heap.size=w.heap.size:=by simp [World.setCell]
theorem below_set4p {B:Nat} {w0 w:World} (h:Below B w0 w) {b:Nat} (hb:B<=b) (y1 y2 y3 y4:Value):Below B w0 ((((w.setCell ⟨b,1,none⟩ y1).setCell ⟨b,2,none⟩ y2).setCell ⟨b,3,none⟩ y3).setCell ⟨b,4,none⟩ y4) :=
 (((h.setCell hb _).setCell hb _).setCell hb _).setCell hb _
def grpsR (bs:List UInt8) (yq:Bool) (g:Nat) (gs:List Grp) (x:Tk) (U:Tk×Int×Int×Int):List Grp×Int×Int :=
 if zaK x=false then ([],0,20) else if U.2.2.2≠0 then ([],0,U.2.2.2) else if zaK U.1=false\/gs.length=64\/zc8 x.vn U.1.vn=false then ([],0,20)
 else if (zb2 bs yq U.1.vn.toNat U.2.2.1.toNat []).2.2≠0 then ([],0,(zb2 bs yq U.1.vn.toNat U.2.2.1.toNat []).2.2)
 else zbF bs yq g (gs++[⟨x.vn,(zb2 bs yq U.1.vn.toNat U.2.2.1.toNat []).1⟩]) ((zb2 bs yq U.1.vn.toNat U.2.2.1.toNat []).2.1:Int)
theorem grps_all {bs:List UInt8} {yq:Bool} {g:Nat} {gs:List Grp} {k:Int} (he:(nxtV bs yq k).2.2.2=0) (ht:zdF (nxtV bs yq k).1=false) :
  zbF bs yq (g+1) gs k=grpsR bs yq g gs (nxtV bs yq k).1 (nxtV bs yq (nxtV bs yq k).2.2.1):=by
 conv=>lhs;unfold zbF
 unfold grpsR
 simp only
 rw [yh (by rw [he];decide),yh (by rw [ht];decide)]
set_option maxHeartbeats 16000000 in
theorem dparse_any {w:World} {a:Option Addr} {cap:Nat} {bs:List UInt8} (hr:Row w 1 a bs.length cap (bs.map u8C)) (hn:bs.length<=390000) (k:Int) (yq:Bool) :
  Calls Tryz.prog 12 #[.slice a bs.length cap,.int .i64 k,.bool yq] w (zeQ w (secV bs yq k)):=by
 have HW:=yb (fun (W:World) (h:Below w.heap.size w W)=>rword_any (hr.mono h) (by omega) k yq [120,114,101,102])
 have HOL:=yb (fun h=>oneX_le (bs:=bs) (yq:=yq) (k:=k) (p:=zdX) h)
 obtain ⟨o1,o2⟩:=oneW_X zdX (zal bs k yq)
 unfold zc4 at HW
 rw [show zfI [120,114,101,102]=zdX from rfl,o1,o2] at HW
 clear o1 o2
 obtain ⟨V,hV⟩:∃V,V=secV bs yq k:=⟨_,rfl⟩
 rw [<-hV]
 unfold secV at hV
 simp only at hV
 generalize oneX zdX (zal bs k yq)=O at *
 obtain ⟨ot,oe⟩:=O
 simp only at hV HW HOL
 have HV:=yb hV
 have HRB:=yb hr
 clear hV hr
 obtain ⟨r,hr⟩:∃r,r=w.heap.size:=⟨_,rfl⟩
 have HZ1:=yb (zak (.cells #[.slice none 0 0,.int .i64 0,.int .i64 0,.string ⟨#[]⟩,.slice none 0 0] 33) (zac (w:=w) (b:=r) (.cells #[.slice none 0 0,.int .i64 0,.int .i64 0,.string ⟨#[]⟩,.slice none 0 0] 33) hr))
 have HP1:=yb (zac (w:=w.alloc (.cells #[.slice none 0 0,.int .i64 0,.int .i64 0,.string ⟨#[]⟩,.slice none 0 0] 33)) (b:=r+1) (.cells #[.slice none 0 0,.int .i64 0,.int .i64 0,.string ⟨#[]⟩,.slice none 0 0] 33) (by rw [zan,hr]))
 have HB1:=yb (za0 w (.cells #[.slice none 0 0,.int .i64 0,.int .i64 0,.string ⟨#[]⟩,.slice none 0 0] 33) (.cells #[.slice none 0 0,.int .i64 0,.int .i64 0,.string ⟨#[]⟩,.slice none 0 0] 33))
 have HRW:=yb (Nat.le_of_eq hr.symm)
 go_enter Tryz.func12,Tryz.ntmps12
 go_upto_region 2 with fail
 try rw [<-hr]
 clear hr
 generalize World.alloc _ _=W1 at *
 have HPR:=yb (show r<r+1 from Nat.lt_succ_self r)
 generalize r+1=p at *
 go_wp2_with fail
 refine (HW.out _ HB1.out).mono ?_
 rintro e w2 ⟨rfl,hb2⟩
 have HZ2:=yb (zab hb2 HZ1.out)
 have HP2:=yb (zab hb2 HP1.out)
 have HB2:=yo HB1 hb2
 clear HZ1 HP1 HB1 HW hb2
 obtain ⟨⟨z0,z1,z2,z3,z4⟩,y0,y1,y2,y3,y4⟩:=zbj HZ2.out
 by_cases hoe:oe=0
 case neg =>
  have HV2:=yb (HV.out.trans (yg hoe))
  have e0:(oe==0)=false:=by rw [yf];exact hoe
  have e1:(oe != 0)=true:=by simp only [bne,e0,yj]
  clear hoe
  go_wp2
  refine yi (zae rfl _ _ r 33 _ (0,0) _ rfl (by exact set5 HZ2.out _ _ _ _ _) Tryz.underlying33 rfl (by exact zbH) _ _ rfl rfl) rfl ?_
  exact zgu HV2.out HB2.out HRW.out _ _ _ _ _
 subst hoe
 have HV2:=yb (HV.out.trans (yh (by simp)))
 obtain ⟨ho1,ho2⟩:=HOL.out rfl
 obtain ⟨G,hG⟩:∃G,G=zbF bs yq 65 [] ot:=⟨_,rfl⟩
 rw [<-hG] at HV2
 have HG:=yb hG
 have HPM:=yb (show PsM w w2 w2 r p [] [] (.slice none 0 0) from ⟨HP2.out,HZ2.out,⟨World.ownsRow_nil _ _ _ _,rfl,zai.refl _ _⟩,HB2.out,HRW.out,HPR.out,zaj HP2.out⟩)
 clear hG HV HOL HZ2 HP2 HB2 z0 z1 z2 z3 z4 y0 y1 y2 y3 y4
 go_wp2_with fail
 go_loopw [1,11] (fun v c wr=>∃(gs:List Grp) (k2:Int) (cs:List Value) (gv:Value),v=.int .i64 k2/\c=.int .i64 gs.length/\gs.length<=64/\0<=k2/\k2<=bs.length/\Hid (PsM w w2 wr r p gs cs gv)/\Hid (G=zbF bs yq (65-gs.length) gs k2)) (fun _ c _=>65-(intOf c).toNat)
 case atStart=>exact ⟨[],ot,[],.slice none 0 0,rfl,rfl,by simp,ho1,ho2,HPM,HG⟩
 case round =>
  obtain ⟨gs,k2,cs,gv,rfl,rfl,hgl,hk0,hk1,HPM,HQ⟩:=hrel
  obtain ⟨sa,sc,rfl,-,-⟩:=zas HPM.out.gm.own
  have HN:=yb (dnext_any (HRB.out.mono HPM.out.bel) (by omega) k2 yq)
  have hto:=za3 (bs:=bs) (k:=k2) yq hk0 hk1
  rw [<-nxt_3] at hto
  obtain ⟨m,hm⟩:∃m,m+1=65-gs.length:=⟨64-gs.length,by omega⟩
  have hQ:=HQ.out
  rw [<-hm] at hQ
  have HM:=yb hm
  have hg64:decide ((gs.length:Int)<=64)=true:=yd (by omega)
  have hg64n:decide (gs.length<=64)=true:=yd hgl
  have HQE:=yb (fun he=>hQ.trans (zgB he))
  have HQT:=yb (fun he ht=>hQ.trans (zec he ht))
  have HQA:=yb (fun he ht=>hQ.trans (grps_all he ht))
  have HN2:=yb (fun (W:World) (hI:Below w.heap.size w W)=>dnext_any (HRB.out.mono hI) (by omega) (nxtV bs yq k2).2.2.1 yq)
  have HTI:=yb (trail_iff (nxtV bs yq k2).1)
  have HWX:=yb (fun W=>zfs (nxtV bs yq k2).1 (nxtV bs yq k2).2.1 (nxtV bs yq k2).2.2.1 W)
  have HSQ:=yb (zbP (nxtV bs yq k2).1.s [116,114,97,105,108,101,114])
  have HPV:=yb (fun (W:World) (h:Below w.heap.size w W)=>rvalue_any (HRB.out.mono h) (by omega) yq (nxtV bs yq k2).2.2.1)
  clear hm hQ HQ
  generalize nxtV bs yq k2=U at *
  obtain ⟨x,f,t,E⟩:=U
  simp only at hto HN HQE HQT HQA HN2 HTI HWX HSQ HPV
  have hto2:=za3 (bs:=bs) (k:=t) yq (by omega) hto.2
  rw [<-nxt_3] at hto2
  generalize nxtV bs yq t=U2 at *
  obtain ⟨y,f2,t2,E2⟩:=U2
  unfold grpsR at HQA
  simp only at HQA HN2 hto2
  have HWY:=yb (fun W=>zfs y f2 t2 W)
  unfold NxtEnd tokN at HN HN2
  simp only at HN HN2
  unfold tokN at HWX HWY
  obtain ⟨tr,htr⟩:∃tr,tr=decide (x.s=[116,114,97,105,108,101,114]):=⟨_,rfl⟩
  rw [<-htr] at HTI HSQ
  rw [HTI.out] at HQT HQA
  clear htr HTI
  generalize zaK x=wx at *
  generalize zaK y=wy at *
  generalize x.kind=a0 at *
  generalize x.vk=a1 at *
  generalize x.vn=a2 at *
  generalize mkB x.vs=s1 at *
  generalize mkB x.s=s2 at *
  generalize y.kind=b0 at *
  generalize y.vk=b1 at *
  generalize y.vn=b2 at *
  generalize mkB y.vs=q1 at *
  generalize mkB y.s=q2 at *
  go_wp2_with fail
  refine HN.out.mono ?_
  rintro e w3 ⟨rfl,hb3⟩
  have hb3a:=hb3.alloc hb3.size (.cells #[.int .i64 a0,.int .i64 f,.int .i64 t,.int .i64 a1,.int .i64 a2,.string s1,.slice none 0 0,.string s2] 111)
  have HT3:=yb (zac (w:=w3) (b:=w3.heap.size) (.cells #[.int .i64 a0,.int .i64 f,.int .i64 t,.int .i64 a1,.int .i64 a2,.string s1,.slice none 0 0,.string s2] 111) rfl)
  have HP3:=yb (HPM.out.on hb3a)
  clear hb3 hb3a HN HPM
  go_upto_region 9 with fail
  obtain ⟨T,hT⟩:∃T,T=w3.heap.size:=⟨_,rfl⟩
  rw [<-hT] at HT3 |-
  clear hT
  generalize World.alloc _ _=W3 at *
  obtain ⟨⟨v0,v1,v2,v3,v4,v5,v6,v7⟩,-⟩:=zag HT3.out
  by_cases hE:E=0
  case neg =>
   have HG3:=HQE.out hE
   have HVF:=yb (show V=(Sec.none,0,E) from HV2.out.trans (by rw [HG3];exact yg hE))
   have e0:(E==0)=false:=by rw [yf];exact hE
   have e1:(E != 0)=true:=by simp only [bne,e0,yj]
   obtain ⟨⟨z0,z1,z2,z3,z4⟩,y0,y1,y2,y3,y4⟩:=zbj HP3.out.rb
   clear hE HG3
   go_wp2
   refine yi (zae rfl _ _ r 33 _ (0,0) _ rfl (by exact set5 HP3.out.rb _ _ _ _ _) Tryz.underlying33 rfl (by exact zbH) _ _ rfl rfl) rfl ?_
   exact HP3.out.ret HVF.out _ _ _ _ _
  subst hE
  have hsq:=HSQ.out
  obtain ⟨k6,hk6⟩:∃k6,k6=(a0==6):=⟨_,rfl⟩
  rw [<-hk6] at HQT HQA
  have HK6:=yb hk6
  obtain ⟨tb,htb⟩:∃tb,tb=(k6&&tr):=⟨_,rfl⟩
  rw [<-htb] at HQT HQA
  have HTB:=yb htb
  clear htb hk6
  go_upto_region 11 with fail
  go_cut [59] from 37 to 143 (fun v wx=>v=.bool tb/\wx=W3)
  case first =>
   clear HQT HQA HQE HN2 HPV
   cases k6
   ·have e6:=HK6.out.symm
    obtain rfl:tb=false:=HTB.out
    go_wp2_with fail
    go_meet
    exact ⟨rfl,rfl⟩
   ·have e6:=HK6.out.symm
    obtain rfl:tb=tr:=HTB.out
    go_wp2_with fail
    go_meet
    exact ⟨rfl,rfl⟩
  case rest =>
  obtain ⟨rfl,hw⟩:=hcut
  subst hw
  clear hsq HSQ HK6 HTB
  cases tb
  case true =>
   have HG3:=HQT.out rfl rfl
   have HV3:=yb (show V=if (zbD bs yq t).2.2≠0 then (Sec.none,0,(zbD bs yq t).2.2) else if (zbD bs yq t).1.kind≠7 then (Sec.none,0,20) else (⟨gs,(zbD bs yq t).1⟩,(zbD bs yq t).2.1,0) from HV2.out.trans (by rw [HG3];exact yh (fun h=>h rfl)))
   generalize zbD bs yq t=P at *
   obtain ⟨pv,xt,xe⟩:=P
   unfold zbN at HPV
   simp only at HV3 HPV
   clear HQT HQA HQE HN2 HG3
   go_wp2_with fail
   refine (HPV.out _ HP3.out.bel).mono ?_
   rintro e w5 ⟨sl,rfl,hx5,hb5⟩
   obtain ⟨la,lc,rfl,-,-,-⟩:=hx5.len
   simp only [pvA]
   have hb5a:=hb5.alloc hb5.size (.cells #[.int .i64 pv.kind,.int .i64 pv.n,.string (mkB pv.s),.slice la pv.l.length lc] 27)
   have HT5:=yb (zac (w:=w5) (b:=w5.heap.size) (.cells #[.int .i64 pv.kind,.int .i64 pv.n,.string (mkB pv.s),.slice la pv.l.length lc] 27) rfl)
   have HX5:=yb (hx5.below (zam w5 (.cells #[.int .i64 pv.kind,.int .i64 pv.n,.string (mkB pv.s),.slice la pv.l.length lc] 27)))
   have HP5:=yb (HP3.out.on hb5a)
   have HWS:=yb (zaj HP3.out.sb)
   clear hb5 hb5a hx5 HPV HP3 HT3 v0 v1 v2 v3 v4 v5 v6 v7
   go_upto_region 33 with fail
   generalize w5.heap.size=T5 at *
   generalize World.alloc _ _=W5 at *
   obtain ⟨⟨t0,t1,t2',t3⟩,-⟩:=zaf HT5.out
   obtain ⟨⟨z0,z1,z2,z3,z4⟩,y0,y1,y2,y3,y4⟩:=zbj HP5.out.rb
   by_cases hxe:xe=0
   case neg =>
    have HV4:=yb (HV3.out.trans (yg hxe))
    have e0:(xe==0)=false:=by rw [yf];exact hxe
    have e1:(xe != 0)=true:=by simp only [bne,e0,yj]
    clear hxe HX5
    go_wp2
    refine yi (zae rfl _ _ r 33 _ (0,0) _ rfl (by exact set5 HP5.out.rb _ _ _ _ _) Tryz.underlying33 rfl (by exact zbH) _ _ rfl rfl) rfl ?_
    exact HP5.out.ret HV4.out _ _ _ _ _
   subst hxe
   have HV4:=yb (HV3.out.trans (yh (by simp)))
   clear HV3
   by_cases hxk:pv.kind=7
   case neg =>
    have HV5:=yb (HV4.out.trans (yg hxk))
    have e0:(pv.kind==7)=false:=by rw [yf];exact hxk
    have e1:(pv.kind != 7)=true:=by simp only [bne,e0,yj]
    clear hxk HX5 HV4
    generalize pv.kind=xk at *
    go_wp2
    refine yi (zae rfl _ _ r 33 _ (0,0) _ rfl (by exact set5 HP5.out.rb _ _ _ _ _) Tryz.underlying33 rfl (by exact zbH) _ _ rfl rfl) rfl ?_
    exact HP5.out.ret HV5.out _ _ _ _ _
   have HV5:=yb (HV4.out.trans (yh (fun h=>h hxk)))
   have e0:(pv.kind==7)=true:=by rw [beq_iff_eq];exact hxk
   have e1:(pv.kind != 7)=false:=by simp only [bne,e0,Bool.not_true]
   clear hxk HV4
   have HSC:=yb (show zbU W5 (fun b=>p<b) ⟨gs,pv⟩ (.slice sa gs.length sc) (.slice la pv.l.length lc) from
    ⟨HP5.out.gm.fin.keep (zaI.refl _ _) (fun b hb=>by have:=HP5.out.lt;show p<b;omega),HX5.out.keep (zaI.refl _ _) (fun b hb=>by have:=HWS.out;show p<b;omega)⟩)
   have HPA:=yb (show secA ⟨gs,pv⟩ (.slice sa gs.length sc) (.slice la pv.l.length lc)=.agg #[.slice sa gs.length sc,.int .i64 pv.kind,.int .i64 pv.n,.string (mkB pv.s),.slice la pv.l.length lc] from rfl)
   generalize pv.kind=xk at *
   generalize pv.n=xn at *
   generalize mkB pv.s=xb at *
   obtain ⟨⟨g0,g1,g2,g3,g4⟩,h0,h1,h2,h3,h4⟩:=zbj HP5.out.sb
   have HS6:=yb (set4p HP5.out.sb (.int .i64 xk) (.int .i64 xn) (.string xb) (.slice la pv.l.length lc))
   have HR6:=yb ((zfk (w:=W5) (b:=p) (c:=r) (by have:=HP5.out.lt;omega) (.int .i64 xk) (.int .i64 xn) (.string xb) (.slice la pv.l.length lc)).trans HP5.out.rb)
   have HB6:=yb (below_set4p HP5.out.bel (b:=p) (by have:=HP5.out.lt;omega) (.int .i64 xk) (.int .i64 xn) (.string xb) (.slice la pv.l.length lc))
   have HC6:=yb (show zbU ((((W5.setCell ⟨p,1,none⟩ (.int .i64 xk)).setCell ⟨p,2,none⟩ (.int .i64 xn)).setCell ⟨p,3,none⟩ (.string xb)).setCell ⟨p,4,none⟩ (.slice la pv.l.length lc)) (fun b=>p<b) ⟨gs,pv⟩ (.slice sa gs.length sc) (.slice la pv.l.length lc) from
    HSC.out.keep ⟨Nat.le_of_eq (set4p_size _ _ _ _ _ _).symm,fun b hb hF=>zfk (by omega) _ _ _ _⟩ (fun _ h=>h))
   have HRP:=yb HP5.out.lt
   clear HX5 HSC HP5 z0 z1 z2 z3 z4 y0 y1 y2 y3 y4
   go_upto_region 38 with fail
   generalize World.setCell (World.setCell (World.setCell (World.setCell W5 _ _) _ _) _ _) _ _=W6 at *
   clear g0 g1 g2 g3 g4 h0 h1 h2 h3 h4 t0 t1 t2' t3 HT5
   obtain ⟨⟨g0,g1,g2,g3,g4⟩,-⟩:=zbj HS6.out
   obtain ⟨⟨z0,z1,z2,z3,z4⟩,y0,y1,y2,y3,y4⟩:=zbj HR6.out
   go_wp2
   refine yi (zae rfl _ _ r 33 _ (0,0) _ rfl (by exact set5 HR6.out _ _ _ _ _) Tryz.underlying33 rfl (by exact zbH) _ _ rfl rfl) rfl ?_
   rw [HV5.out]
   refine ⟨.slice sa gs.length sc,.slice la pv.l.length lc,by rw [HPA.out];rfl,?_,zb6 HB6.out HRP.out.1 _ _ _ _ _⟩
   refine (zgN (B:=r+1) (HC6.out.keep (zaI.refl _ _) (fun b hb=>by have:=HRP.out;show r+1<=b;omega)) (Nat.lt_succ_self r) _ _ _ _ _).keep (zaI.refl _ _) (fun b hb=>by have:=HRP.out;show w.heap.size<=b;omega)
  have HQA2:=yb (HQA.out rfl rfl)
  clear HQT HQA HQE HPV
  go_wp2_with fail
  refine (HWX.out _).mono ?_
  rintro e w4 ⟨rfl,hb4⟩
  have HP4:=yb (HP3.out.on hb4)
  have HT4:=yb (zab hb4 HT3.out)
  clear hb4 HP3 HT3 HWX v0 v1 v2 v3 v4 v5 v6 v7
  obtain ⟨⟨v0,v1,v2,v3,v4,v5,v6,v7⟩,-⟩:=zag HT4.out
  cases wx
  case false =>
   have HG3:=HQA2.out.trans (yg rfl)
   have HVF:=yb (show V=(Sec.none,0,20) from HV2.out.trans (by rw [HG3];exact yg (by decide)))
   obtain ⟨⟨z0,z1,z2,z3,z4⟩,y0,y1,y2,y3,y4⟩:=zbj HP4.out.rb
   clear HG3 HQA2 HN2
   go_wp2
   refine yi (zae rfl _ _ r 33 _ (0,0) _ rfl (by exact set5 HP4.out.rb _ _ _ _ _) Tryz.underlying33 rfl (by exact zbH) _ _ rfl rfl) rfl ?_
   exact HP4.out.ret HVF.out _ _ _ _ _
  have HQB:=yb (HQA2.out.trans (yh (by decide)))
  have HN2b:=yb (HN2.out _ HP4.out.bel)
  clear HQA2 HN2
  go_wp2_with fail
  refine HN2b.out.mono ?_
  rintro e w5 ⟨rfl,hb5⟩
  have hb5a:=hb5.alloc hb5.size (.cells #[.int .i64 b0,.int .i64 f2,.int .i64 t2,.int .i64 b1,.int .i64 b2,.string q1,.slice none 0 0,.string q2] 111)
  have HY5:=yb (zac (w:=w5) (b:=w5.heap.size) (.cells #[.int .i64 b0,.int .i64 f2,.int .i64 t2,.int .i64 b1,.int .i64 b2,.string q1,.slice none 0 0,.string q2] 111) rfl)
  have HT5:=yb (zab hb5a HT4.out)
  have HP5:=yb (HP4.out.on hb5a)
  clear hb5 hb5a HN2b HP4 HT4 v0 v1 v2 v3 v4 v5 v6 v7
  go_upto_region 16 with fail
  obtain ⟨Y,hY⟩:∃Y,Y=w5.heap.size:=⟨_,rfl⟩
  rw [<-hY] at HY5 |-
  clear hY
  generalize World.alloc _ _=W5 at *
  obtain ⟨⟨v0,v1,v2,v3,v4,v5,v6,v7⟩,-⟩:=zag HT5.out
  obtain ⟨⟨u0,u1,u2,u3,u4,u5,u6,u7⟩,-⟩:=zag HY5.out
  by_cases hE2:E2=0
  case neg =>
   have HG3:=HQB.out.trans (yg hE2)
   have HVF:=yb (show V=(Sec.none,0,E2) from HV2.out.trans (by rw [HG3];exact yg hE2))
   have e0:(E2==0)=false:=by rw [yf];exact hE2
   have e1:(E2 != 0)=true:=by simp only [bne,e0,yj]
   obtain ⟨⟨z0,z1,z2,z3,z4⟩,y0,y1,y2,y3,y4⟩:=zbj HP5.out.rb
   clear hE2 HG3 HQB
   go_wp2
   refine yi (zae rfl _ _ r 33 _ (0,0) _ rfl (by exact set5 HP5.out.rb _ _ _ _ _) Tryz.underlying33 rfl (by exact zbH) _ _ rfl rfl) rfl ?_
   exact HP5.out.ret HVF.out _ _ _ _ _
  subst hE2
  have HQC:=yb (HQB.out.trans (yh (fun h=>h rfl)))
  clear HQB
  go_wp2
  go_quiet (fail)
  have HP6:=yb (HP5.out.on (zah (Below.refl _ _) nq))
  have HT6:=yb (zab (zah (Below.refl _ _) nq) HT5.out)
  have HY6:=yb (zab (zah (Below.refl _ _) nq) HY5.out)
  generalize W5.drewN nq=W6 at *
  clear HP5 HT5 HY5 v0 v1 v2 v3 v4 v5 v6 v7 u0 u1 u2 u3 u4 u5 u6 u7
  obtain ⟨⟨u0,u1,u2,u3,u4,u5,u6,u7⟩,-⟩:=zag HY6.out
  obtain ⟨bad,hbad⟩:∃bad:Bool,bad=(!wy||(decide (gs.length=64)||(decide (a2<0)||(decide (b2<0)||(decide (4097<a2)||decide (4097-a2<b2)))))):=⟨_,rfl⟩
  have HBD:=yb hbad
  clear hbad
  go_upto_region 19 with fail
  go_cut [108] from 37 to 143 (fun v wx=>v=.bool bad/\Hid (Below W6.heap.size W6 wx))
  case first =>
   clear HQC
   cases wy
   ·obtain rfl:bad=true:=HBD.out
    go_wp2_with (go_at_call 48;refine (HWY.out _).mono ?_;rintro e w7 ⟨rfl,hb7⟩;have HB7:=yb hb7;clear hb7)
    go_meet
    exact ⟨rfl,HB7⟩
   by_cases h64:gs.length=64
   ·have hd64:((gs.length:Int)==64)=true:=by rw [beq_iff_eq];omega
    have hd64n:(gs.length==64)=true:=by rw [beq_iff_eq];exact h64
    obtain rfl:bad=true:=by rw [HBD.out,yd h64];rfl
    clear h64
    go_wp2_with (go_at_call 48;refine (HWY.out _).mono ?_;rintro e w7 ⟨rfl,hb7⟩;have HB7:=yb hb7;clear hb7)
    go_meet
    exact ⟨rfl,HB7⟩
   have hd64:((gs.length:Int)==64)=false:=by rw [yf];omega
   have hd64n:(gs.length==64)=false:=by rw [yf];exact h64
   by_cases c1:a2<0
   ·have d1:decide (a2<0)=true:=yd c1
    obtain rfl:bad=true:=by rw [HBD.out,ye h64,d1];rfl
    go_wp2_with (go_at_call 48;refine (HWY.out _).mono ?_;rintro e w7 ⟨rfl,hb7⟩;have HB7:=yb hb7;clear hb7)
    go_meet
    exact ⟨rfl,HB7⟩
   have d1:decide (a2<0)=false:=ye c1
   by_cases c2:b2<0
   ·have d2:decide (b2<0)=true:=yd c2
    obtain rfl:bad=true:=by rw [HBD.out,ye h64,d1,d2];rfl
    go_wp2_with (go_at_call 48;refine (HWY.out _).mono ?_;rintro e w7 ⟨rfl,hb7⟩;have HB7:=yb hb7;clear hb7)
    go_meet
    exact ⟨rfl,HB7⟩
   have d2:decide (b2<0)=false:=ye c2
   by_cases c3:4097<a2
   ·have d3:decide (4097<a2)=true:=yd c3
    obtain rfl:bad=true:=by rw [HBD.out,ye h64,d1,d2,d3];rfl
    go_wp2_with (go_at_call 48;refine (HWY.out _).mono ?_;rintro e w7 ⟨rfl,hb7⟩;have HB7:=yb hb7;clear hb7)
    go_meet
    exact ⟨rfl,HB7⟩
   have d3:decide (4097<a2)=false:=ye c3
   have a20:0<=a2:=by omega
   have a21:a2<=4097:=by omega
   obtain ⟨b4,hb4⟩:∃b4,decide (4097-a2<b2)=b4:=⟨_,rfl⟩
   obtain rfl:bad=b4:=by rw [HBD.out,ye h64,d1,d2,d3,hb4];rfl
   clear h64 c1 c2 c3
   go_wp2_with (go_at_call 48;refine (HWY.out _).mono ?_;rintro e w7 ⟨rfl,hb7⟩;have HB7:=yb hb7;clear hb7)
   go_meet
   exact ⟨rfl,HB7⟩
  case rest =>
  obtain ⟨rfl,HB7⟩:=hcut
  have HP7:=yb (HP6.out.on HB7.out)
  have HY7:=yb (zab HB7.out HY6.out)
  generalize wc=W7 at *
  clear HP6 HT6 HY6 HB7 HWY u0 u1 u2 u3 u4 u5 u6 u7
  obtain ⟨⟨u0,u1,u2,u3,u4,u5,u6,u7⟩,-⟩:=zag HY7.out
  have HBE:=yb (show bad=true↔(wy=false\/gs.length=64\/zc8 a2 b2=false) by
   rw [HBD.out]
   unfold zc8
   simp only [Bool.or_eq_true,Bool.not_eq_true',decide_eq_true_eq,Bool.and_eq_false_iff,decide_eq_false_iff_not]
   refine or_congr Iff.rfl (or_congr Iff.rfl ?_)
   omega)
  clear HBD
  cases bad
  case true =>
   have HG3:=HQC.out.trans (yg (HBE.out.1 rfl))
   have HVF:=yb (show V=(Sec.none,0,20) from HV2.out.trans (by rw [HG3];exact yg (by decide)))
   obtain ⟨⟨z0,z1,z2,z3,z4⟩,y0,y1,y2,y3,y4⟩:=zbj HP7.out.rb
   clear HG3 HQC HBE
   go_wp2
   refine yi (zae rfl _ _ r 33 _ (0,0) _ rfl (by exact set5 HP7.out.rb _ _ _ _ _) Tryz.underlying33 rfl (by exact zbH) _ _ rfl rfl) rfl ?_
   exact HP7.out.ret HVF.out _ _ _ _ _
  have hnb:¬(wy=false\/gs.length=64\/zc8 a2 b2=false):=fun h=>by have:=HBE.out.2 h;cases this
  have HQD:=yb (HQC.out.trans (yh hnb))
  have hfit:zc8 a2 b2=true:=by
   cases h:zc8 a2 b2 with
   | true=>rfl
   | false=>exact absurd (.inr (.inr h)) hnb
  have h64:gs.length<=63:=by
   have:gs.length≠64:=fun h=>hnb (.inr (.inl h))
   omega
  have hfb:0<=b2/\b2<=4097/\0<=a2/\a2<=4097:=by
   unfold zc8 at hfit
   simp only [Bool.and_eq_true,decide_eq_true_eq] at hfit
   omega
  obtain ⟨N,hN⟩:∃N:Nat,b2=(N:Int):=⟨b2.toNat,by omega⟩
  subst hN
  have hN7:N<=4097:=by omega
  rw [show ((N:Int)).toNat=N from rfl] at HQD
  obtain ⟨T2,hT2⟩:∃T2:Nat,t2=(T2:Int):=⟨t2.toNat,by omega⟩
  subst hT2
  rw [show ((T2:Int)).toNat=T2 from rfl] at HQD
  have hT2l:T2<=bs.length:=by omega
  obtain ⟨Q,hQ⟩:∃Q,Q=zb2 bs yq N T2 []:=⟨_,rfl⟩
  rw [<-hQ] at HQD
  have HQ:=yb hQ
  have HFB:=yb hfb
  clear hQ hnb hfit hfb HQC HBE hto2
  have HY8:=yb (zak (.cells #[.int .i64 a2,.slice none 0 0] 42) HY7.out)
  have HE8:=yb (show EsM (W7.alloc (.cells #[.int .i64 a2,.slice none 0 0] 42)) (W7.alloc (.cells #[.int .i64 a2,.slice none 0 0] 42)) W7.heap.size a2 [] (.slice none 0 0) from
   ⟨zac _ rfl,World.ownsRow_nil _ _ _ _,zai.refl _ _,by rw [zan];omega⟩)
  have HPO:=yb (fun (W:World) (es:List Ent) (sv:Value) (h:EsM (W7.alloc (.cells #[.int .i64 a2,.slice none 0 0] 42)) W W7.heap.size a2 es sv)=>HP7.out.on (h.outer rfl))
  have HVB:=yb (show ∀b,Value.ownBlock (.slice sa gs.length sc)=some b->b<(W7.alloc (.cells #[.int .i64 a2,.slice none 0 0] 42)).heap.size from fun b hb=>by have:=(HP7.out.gm.own.lt b hb).2;rw [zan];omega)
  have HWW:=yb (show w2.heap.size<=(W7.alloc (.cells #[.int .i64 a2,.slice none 0 0] 42)).heap.size by have:=HP7.out.gm.kps.size;rw [zan];omega)
  go_upto_region 23 with fail
  generalize W7.heap.size=g at *
  generalize World.alloc _ _=W8 at *
  clear HP7 HY7 HY8 u0 u1 u2 u3 u4 u5 u6 u7
  go_wp2_with fail
  go_loopw [1,19] (fun v1 v wr=>∃(c k3:Nat) (es:List Ent) (sv:Value),v1=.int .i64 k3/\v=.int .i64 c/\c<=N/\k3<=bs.length/\Hid (es.length=c)/\Hid (EsM W8 wr g a2 es sv)/\Hid (Q=zb2 bs yq (N-c) k3 es)) (fun _ v _=>N-(intOf v).toNat)
  case atStart=>exact ⟨0,T2,[],.slice none 0 0,rfl,rfl,by omega,hT2l,yb rfl,HE8,HQ⟩
  case round =>
   obtain ⟨c,k3,es,sv,rfl,rfl,hcN,hk3,HES,HEM,HQR⟩:=hrel
   by_cases hlt:c<N
   ·have hcd:decide ((c:Int)<(N:Int))=true:=by simp;omega
    have hcd2:decide (c<N)=true:=by simp;omega
    have HEN:=yb (dentry_any (HRB.out.mono (HPO.out _ _ _ HEM.out).bel) (by omega) hk3 yq)
    obtain ⟨m2,hm2⟩:∃m2,m2+1=N-c:=⟨N-c-1,by omega⟩
    have HM2:=yb hm2
    have hQ1:=HQR.out
    rw [<-hm2,zb2] at hQ1
    have htl:(entV bs yq k3).2.2=0->(entV bs yq k3).2.1<=bs.length:=fun h=>entV_le hk3 h
    generalize entV bs yq k3=Z at *
    obtain ⟨ee,kk,er⟩:=Z
    simp only at hQ1 htl
    have HQ1:=yb hQ1
    unfold DEntEnd entA at HEN
    simp only at HEN
    have HEE:=yb (show entC ee=[.int .i64 ee.at_,.int .i64 ee.gen,.bool ee.used] from rfl)
    generalize ee.at_=ea at *
    generalize ee.gen=eg at *
    generalize ee.used=eu at *
    clear hm2 hQ1 HQR
    go_wp2_with fail
    refine HEN.out.mono ?_
    rintro e w6 ⟨rfl,hb6⟩
    have hb6a:=hb6.alloc hb6.size (.cells #[.int .i64 ea,.int .i64 eg,.bool eu] 44)
    have HE7:=yb (zac (w:=w6) (b:=w6.heap.size) (.cells #[.int .i64 ea,.int .i64 eg,.bool eu] 44) rfl)
    have HG7:=yb (HEM.out.below hb6a)
    clear hb6 hb6a HEN HEM
    go_upto_region 27 with fail
    obtain ⟨z,hz⟩:∃z,z=w6.heap.size:=⟨_,rfl⟩
    rw [<-hz] at HE7 |-
    clear hz
    generalize w6.alloc _=W9 at *
    obtain ⟨⟨l0,l1,l2⟩,-⟩:=zdt HE7.out
    obtain ⟨⟨g0,g1⟩,gf0,gf1⟩:=zaR HG7.out.blk
    by_cases her:er=0
    case neg =>
     have e0:(er==0)=false:=by rw [yf];exact her
     have e1:(er != 0)=true:=by simp only [bne,e0,yj]
     have hq3:Q=([],0,er):=HQ1.out.trans (yg her)
     have HG3:G=([],0,er):=HQD.out.trans (by rw [hq3];exact yg her)
     have HVF:=yb (show V=(Sec.none,0,er) from HV2.out.trans (by rw [HG3];exact yg her))
     have HP9:=yb (HPO.out _ _ _ HG7.out)
     obtain ⟨⟨z0,z1,z2,z3,z4⟩,y0,y1,y2,y3,y4⟩:=zbj HP9.out.rb
     clear her hq3 HG3 HQ1 htl
     go_wp2
     refine yi (zae rfl _ _ r 33 _ (0,0) _ rfl (by exact set5 HP9.out.rb _ _ _ _ _) Tryz.underlying33 rfl (by exact zbH) _ _ rfl rfl) rfl ?_
     exact HP9.out.ret HVF.out _ _ _ _ _
    subst her
    obtain ⟨va,vc,rfl,-,-⟩:=zas HG7.out.own
    have hL:es.length<=4097:=by have:=HES.out;omega
    have hone:∀u∈[Value.int .i64 ea,.int .i64 eg,.bool eu],u.oneCell'=true:=by
     intro u hu
     simp at hu
     rcases hu with rfl|rfl|rfl<;>rfl
    have HONE:=yb hone
    have HQ2:=yb (HQ1.out.trans (yh (by decide)))
    have HKK:=yb (htl rfl)
    clear hone HQ1 htl
    go_wp2_with (at_builtin;go_loud (refine zbR EEnt rfl (.tmp 132) (.tmp 134) rfl W8.heap.size _ es.length _ rfl (HG7.out.own.alloc _) _ 1 _ rfl (zcM _ #[.int .i64 ea,.int .i64 eg,.bool eu] _ 3 rfl rfl) HONE.out (by unfold maxLen;omega) (by omega) (by rw [zan];have:=HG7.out.kps.size;omega) ?_);intro v' w8 hO8 hg8 hn8;obtain ⟨ua,uc,rfl,-,-⟩:=zas hO8;have HG8:=yb (HG7.out.app hg8 (by rw [HEE.out];exact hO8));obtain ⟨⟨q0,q1'⟩,qf0,qf1⟩:=zaR (HG7.out.atG hg8);clear hO8 hg8 hn8)
    go_roundw
    case rel=>exact ⟨c+1,kk,es++[ee],_,rfl,by go_num,by omega,HKK.out,yb (by rw [List.length_append,HES.out];rfl),HG8,yb (by rw [HQ2.out,show N-(c+1)=m2 by have:=HM2.out;omega])⟩
    case measure=>simp [intOf];omega
   ·have hce:c=N:=by omega
    subst hce
    have hcd:decide ((c:Int)<(c:Int))=false:=ye (by omega)
    have hcd2:decide (c<c)=false:=ye (by omega)
    have hq3:Q=(es,k3,0):=HQR.out.trans (show zb2 bs yq (c-c) k3 es=(es,k3,0) by rw [Nat.sub_self];rfl)
    have HG3:=yb (show G=zbF bs yq m (gs++[⟨a2,es⟩]) (k3:Int) from HQD.out.trans (by rw [hq3];exact yh (fun h=>h rfl)))
    have HPW:=yb (HPO.out _ _ _ HEM.out)
    have HGF:=yb HEM.out.fin
    obtain ⟨va,vc,rfl,-,-⟩:=zas HEM.out.own
    obtain ⟨⟨g0,g1⟩,gf0,gf1⟩:=zaR HEM.out.blk
    obtain ⟨⟨p0,p1,p2,p3,p4⟩,pf0,pf1,pf2,pf3,pf4⟩:=zbj HPW.out.sb
    have HSZ:=yb (show W8.heap.size<=wr.heap.size from HEM.out.kps.size)
    have hone:∀u∈[Value.int .i64 a2,.slice va es.length vc],u.oneCell'=true:=by
     intro u hu
     simp at hu
     rcases hu with rfl|rfl<;>rfl
    have HONE:=yb hone
    clear hone hq3 HQR HQD HEM HPO HES
    go_wp2_with (at_builtin;go_loud (refine zbR EGrp rfl (.tmp 139) (.tmp 141) rfl w2.heap.size _ gs.length _ rfl (HPW.out.gm.own.alloc _) _ 1 _ rfl (zcM _ #[.int .i64 a2,.slice va es.length vc] _ 2 rfl rfl) HONE.out (by unfold maxLen;omega) (by omega) (by rw [zan];have:=HPW.out.gm.kps.size;omega) ?_);intro v' w8 hO8 hg8 hn8;obtain ⟨ua,uc,rfl,-,-⟩:=zas hO8;have HP8:=yb (HPW.out.app hg8 (HPW.out.gm.app hg8 HGF.out HWW.out HVB.out HSZ.out hO8 hn8));obtain ⟨⟨q0,q1',q2',q3',q4'⟩,qf0,qf1,qf2,qf3,qf4⟩:=zbj (HPW.out.atP hg8);clear hO8 hg8 hn8)
    go_roundw
    case rel=>exact ⟨gs++[⟨a2,es⟩],(k3:Int),_,_,rfl,by rw [List.length_append];go_num,by rw [List.length_append];simp;omega,by omega,by omega,HP8,yb (by rw [HG3.out,List.length_append,show 65-(gs.length+[(⟨a2,es⟩:Grp)].length)=m by have:=HM.out;simp;omega])⟩
    case measure=>simp [intOf];omega
theorem ERSec:zcU Tryz.prog 65 33 (.agg #[.slice none 0 0,.int .i64 0,.int .i64 0,.string ⟨#[]⟩,.slice none 0 0]) 5 80:=⟨Tryz.underlying65,by kernel_rfl,rfl,by omega⟩
theorem EIntC:zcU Tryz.prog 72 3 (.int .i64 0) 1 8:=⟨Tryz.underlying72,by kernel_rfl,rfl,by omega⟩
theorem SsM.swap {t:TypeId} {w W:World} {X Y:Nat->Prop} {l:List Sec} {cs:List Value} {v:Value} (h:SsM t w W X l cs v) (hX:∀b,b<W.heap.size->Y b->X b):SsM t w W Y l cs v :=
 ⟨h.own,h.hold.ltw.keep (zaI.refl _ _) (fun b hb=>⟨hb.1.1,hb.1.2.1,fun hy=>hb.1.2.2 (hX b hb.2 hy)⟩)⟩
theorem SsM.move {t:TypeId} {w W W':World} {X Y:Nat->Prop} {l:List Sec} {cs:List Value} {v:Value} (h:SsM t w W X l cs v) (hk:zai X W W') (hv:∀b,v.ownBlock=some b->¬X b) (hY:∀b,b<W.heap.size->Y b->X b):SsM t w W' Y l cs v :=
 ⟨zaE h.own (fun b hb=>hk.block b (h.own.lt b hb).2 (hv b hb)),h.hold.ltw.keep ⟨hk.size,fun b hb hF=>hk.block b hb hF.1.2.2⟩ (fun b hb=>⟨hb.1.1,hb.1.2.1,fun hy=>hb.1.2.2 (hY b hb.2 hy)⟩)⟩
def RdM (w W:World) (rd:List Int) (v:Value):Prop:=W.ownsRow w.heap.size 3 1 v rd.length (rd.map (Value.int .i64))
theorem zgH {w:World} {a:Option Addr} {cap:Nat} {bs:List UInt8} {ka:Option Addr} {kc:Nat} {kn:List Bool} (h:FlM w a cap bs ka kc kn) (hl:bs.length<=390000) (k:Int) :
  Calls Tryz.prog 25 #[.agg #[.slice a bs.length cap,.slice ka bs.length kc],.int .i64 k] w (zfy w (zbY bs kn 33 [] [] k)):=by
 have HI:=yb h
 obtain ⟨R,hR⟩:∃R,R=zbY bs kn 33 [] [] k:=⟨_,rfl⟩
 have HR:=yb hR
 rw [<-hR]
 clear h hR
 obtain ⟨B,hB⟩:∃B,B=w.heap.size:=⟨_,rfl⟩
 have HB1:=yb (zam w (.cells #[.slice a bs.length cap,.slice ka bs.length kc] 59))
 have HZ1:=yb (zac (w:=w) (b:=B) (.cells #[.slice a bs.length cap,.slice ka bs.length kc] 59) hB)
 have HWW:=yb (show B<(w.alloc (.cells #[.slice a bs.length cap,.slice ka bs.length kc] 59)).heap.size/\w.heap.size<=(w.alloc (.cells #[.slice a bs.length cap,.slice ka bs.length kc] 59)).heap.size by rw [zan,hB];omega)
 go_enter Tryz.func25,Tryz.ntmps25
 go_upto_region 1 with fail
 try rw [<-hB]
 clear hB
 generalize w.alloc _=W1 at *
 have HS1:=yb (SsM.nil 33 W1 W1 (fun b=>Value.ownBlock (.slice none 0 0)=some b))
 have HD1:=yb (show RdM W1 W1 [] (.slice none 0 0) from World.ownsRow_nil _ _ _ _)
 go_wp2_with fail
 go_loopw [1,7,8,9] (fun v1 v7 v8 v9 wr=>∃(rd:List Int) (l:List Sec) (k:Int) (cs:List Value),v1=.int .i64 k/\v9=.int .i64 l.length/\l.length<=32/\Hid (rd.length=l.length)/\Hid (SsM 33 W1 wr (fun b=>v8.ownBlock=some b) l cs v7)/\Hid (RdM W1 wr rd v8)/\Hid (Below W1.heap.size W1 wr)/\Hid (R=zbY bs kn (33-l.length) rd l k)) (fun _ _ _ v9 _=>33-(intOf v9).toNat)
 case atStart=>exact ⟨[],[],k,[],rfl,rfl,by simp,yb rfl,HS1,HD1,yb (Below.refl _ _),HR⟩
 case round =>
  obtain ⟨rd,l,k,cs,rfl,rfl,hl32,HRL,HSM,HRD,HB,HQ⟩:=hrel
  have hrl:rd.length<=32:=by have:=HRL.out;omega
  obtain ⟨sa,sc,rfl,-,-⟩:=zas HSM.out.own
  obtain ⟨da,dc,rfl,-,hdm⟩:=zas HRD.out
  have HZ:=yb (zab HB.out HZ1.out)
  have HBW:=yb (HB1.out.trans (HB.out.mono HB1.out.size))
  obtain ⟨⟨z0,z1⟩,-⟩:=zaR HZ.out
  obtain ⟨m,hm⟩:∃m,m+1=33-l.length:=⟨32-l.length,by omega⟩
  have hQ:=HQ.out
  rw [<-hm,zdn] at hQ
  have HM:=yb hm
  have d0:decide ((l.length:Int)<=32)=true:=yd (by omega)
  have d0n:decide (l.length<=32)=true:=yd hl32
  clear HQ hm
  by_cases h1:k<0
  ·have d1:decide (k<0)=true:=yd h1
   have HV:=yb (hQ.trans (yg (.inl h1)))
   clear hQ
   go_wp2_with fail
   go_ret3
   exact zbQ HV.out HBW.out
  have d1:decide (k<0)=false:=ye h1
  by_cases h2:(bs.length:Int)<=k
  ·have d2:decide ((bs.length:Int)<=k)=true:=yd h2
   have HV:=yb (hQ.trans (yg (.inr h2)))
   clear hQ
   go_wp2_with fail
   go_ret3
   exact zbQ HV.out HBW.out
  have d2:decide ((bs.length:Int)<=k)=false:=ye h2
  obtain ⟨K,rfl⟩:∃K:Nat,k=(K:Int):=⟨k.toNat,by omega⟩
  have hKl:K<bs.length:=by omega
  have HKL:=yb hKl
  rw [yh (by rintro (h|h);exact h1 h;exact h2 h),show ((K:Int)).toNat=K from rfl] at hQ
  have HQ:=yb hQ
  have HROW:=yb (Row.of_own HRD.out).2
  clear h1 h2 hQ
  go_wp2_with fail
  go_loop [10] (fun v10=>∃j:Nat,v10=.int .i64 j/\j<=rd.length/\Hid (∀i,i<j->rd.getD i 0≠(K:Int))) (fun v10=>rd.length-(intOf v10).toNat)
  case atStart=>exact ⟨0,rfl,by omega,yb (fun i hi=>by omega)⟩
  case round =>
   obtain ⟨j,rfl,hj,HNO⟩:=hrel
   by_cases hlt:j<rd.length
   ·have hcd:decide ((j:Int)<(rd.length:Int))=true:=yd (by omega)
    have hcd2:decide (j<rd.length)=true:=yd hlt
    have hcap:=HROW.out.2.1
    obtain ⟨b,off,rfl,-,hcc⟩:=HROW.out.at 0 j hlt
    have hcj:=hcc j hlt
    have HIN:=yb (show rd.getD j 0=(K:Int)->(K:Int)∈rd from fun e=>by
     rw [<-e,List.getD_eq_getElem?_getD,List.getElem?_eq_getElem hlt];exact List.getElem_mem hlt)
    clear hcc
    generalize hx:rd.getD j 0=x at *
    have HX:=yb hx
    clear hx
    by_cases hxk:x=(K:Int)
    ·subst hxk
     have e0:((K:Int)==(K:Int))=true:=by simp
     have HV:=yb (HQ.out.trans (yg (.inl (HIN.out rfl))))
     clear HQ HIN
     go_wp2_with fail
     go_ret3
     exact zbQ HV.out HBW.out
    ·have e0:(x==(K:Int))=false:=by rw [yf];exact hxk
     have HNO2:=yb (show ∀i,i<j+1->rd.getD i 0≠(K:Int) from fun i hi=>by
      rcases Nat.lt_or_ge i j with h|h
      ·exact HNO.out i h
      ·obtain rfl:i=j:=by omega
       rw [HX.out];exact hxk)
     clear HIN HNO hxk
     go_wp2_with fail
     go_round
     case rel=>exact ⟨j+1,by go_num,by omega,HNO2⟩
     case measure=>simp [intOf];omega
   ·have hcd:decide ((j:Int)<(rd.length:Int))=false:=ye (by omega)
    have hcd2:decide (j<rd.length)=false:=ye hlt
    have HNI:=yb (show (K:Int)∉rd from fun hm=>by
     obtain ⟨i,hi,e⟩:=List.getElem_of_mem hm
     refine HNO.out i (by omega) ?_
     rw [List.getD_eq_getElem?_getD,List.getElem?_eq_getElem hi]
     exact e)
    clear HNO hlt hj
    by_cases h32:l.length=32
    ·have HV:=yb (HQ.out.trans (yg (.inr (by omega))))
     have e0:((l.length:Int)==32)=true:=by rw [beq_iff_eq];omega
     have e1:(l.length==32)=true:=by rw [beq_iff_eq];exact h32
     clear HQ h32
     go_wp2_with fail
     go_ret3
     exact zbQ HV.out HBW.out
    have e0:((l.length:Int)==32)=false:=by rw [yf];omega
    have e1:(l.length==32)=false:=by rw [yf];exact h32
    have hl31:l.length<32:=by omega
    have hQ:=HQ.out.trans (yh (by rintro (h|h);exact HNI.out h;omega))
    have HFR:=yb (fun (W:World) (hb:Below w.heap.size w W)=>rfrom_any (HI.out.mono hb) HKL.out)
    have HNX:=yb (fun (W:World) (hb:Below w.heap.size w W)=>zfw (HI.out.mono hb) (Nat.le_of_lt HKL.out))
    have hEV:=zhf (bs:=(bs.drop K).take (zaU kn K-K)) (yq:=zaU kn K==bs.length)
    have HSE:=yb (show secV ((bs.drop K).take (zaU kn K-K)) (zaU kn K==bs.length) 0=zcZ bs kn K from rfl)
    rw [HSE.out] at hEV
    have HLN:=yb (show ((bs.drop K).take (zaU kn K-K)).length<=390000 by rw [List.length_take,ym];omega)
    generalize zcZ bs kn K=S at *
    obtain ⟨s,so,se⟩:=S
    simp only at hQ hEV
    unfold zeg at HFR
    generalize zaU kn K=n at *
    generalize (bs.drop K).take (n-K)=xs at *
    generalize (n==bs.length)=lst at *
    have HQ2:=yb hQ
    have HEV:=yb hEV
    clear hQ hEV HQ h32
    have HONI:=yb (show ∀u∈[Value.int .i64 (K:Int)],u.oneCell'=true from fun u hu=>by simp at hu;subst hu;rfl)
    have HNE:=yb (show ∀b,Value.ownBlock (.slice sa l.length sc)=some b->¬Value.ownBlock (.slice da rd.length dc)=some b from fun b h1 h2=>by
     obtain ⟨c1,e1⟩:=zaJ HSM.out.own h1
     obtain ⟨c2,e2⟩:=zaJ HRD.out h2
     exact za5 e1 e2 (by decide) rfl)
    clear z0 z1
    go_wp2_with (at_builtin;go_loud (refine zbR EIntC rfl (.tmp 45) (.tmp 47) rfl W1.heap.size _ rd.length _ rfl (World.ownsRow.alloc HRD.out _) _ 1 _ rfl (zcM _ #[.int .i64 (K:Int)] _ 1 rfl rfl) HONI.out (by unfold maxLen;omega) (by omega) (by rw [zan];have:=HB.out.size;omega) ?_);intro v' w8 hO8 hg8 hn8;obtain ⟨ua,uc,rfl,-,-⟩:=zas hO8;have HS8:=yb (HSM.out.move (Y:=fun b=>Value.ownBlock (.slice ua (rd.length+1) uc)=some b) (((zai.refl (fun b=>Value.ownBlock (.slice da rd.length dc)=some b) wr).alloc _).grown hg8 (fun k hk=>.inl hk)) HNE.out (fun b hb hy=>(hn8 b hy).resolve_right (by rw [zan];omega)));have HD8:=yb (show RdM W1 w8 (rd++[(K:Int)]) (.slice ua (rd.length+1) uc) by unfold RdM;rw [List.length_append,List.map_append];exact hO8);have HB8:=yb ((HB.out.alloc HB.out.size _).grown hg8 (by rw [zan];have:=HB.out.size;omega) (fun b hb=>(HRD.out.lt b hb).1));have HZ8:=yb (zab HB8.out HZ1.out);have HBW8:=yb (HB1.out.trans (HB8.out.mono HB1.out.size));clear hO8 hg8 hn8 HSM HRD HB HZ HBW HROW HNE;obtain ⟨⟨z0,z1⟩,-⟩:=zaR HZ8.out)
    refine (HFR.out _ HBW8.out).mono ?_
    rintro e w9 ⟨xa,xc,rfl,hxr,hb9⟩
    have HB9:=yo HB8 hb9
    have HS9:=yb (HS8.out.below hb9)
    have HD9:=yb (show RdM W1 w9 (rd++[(K:Int)]) (.slice ua (rd.length+1) uc) from zaE HD8.out fun b hb=>hb9.block b (HD8.out.lt b hb).2)
    have HPS:=yb (dparse_any hxr HLN.out 0 lst)
    rw [HSE.out] at HPS
    clear HFR hxr hb9 HB8 HS8 HD8 HZ8 HBW8 z0 z1 HSE HLN
    go_wp2_with fail
    refine HPS.out.mono ?_
    rintro e w3 ⟨gv,sl,rfl,hs3,hb3⟩
    obtain ⟨ga,gc,rfl,-,-,-⟩:=hs3.1.len
    obtain ⟨ta,tc,rfl,-,-,-⟩:=hs3.2.len
    simp only [secA]
    have hb3a:=hb3.alloc hb3.size (.cells #[.slice ga s.gs.length gc,.int .i64 s.tr.kind,.int .i64 s.tr.n,.string (mkB s.tr.s),.slice ta s.tr.l.length tc] 33)
    have HT3:=yb (zac (w:=w3) (b:=w3.heap.size) (.cells #[.slice ga s.gs.length gc,.int .i64 s.tr.kind,.int .i64 s.tr.n,.string (mkB s.tr.s),.slice ta s.tr.l.length tc] 33) rfl)
    have HX3:=yb (hs3.below (zam w3 (.cells #[.slice ga s.gs.length gc,.int .i64 s.tr.kind,.int .i64 s.tr.n,.string (mkB s.tr.s),.slice ta s.tr.l.length tc] 33)))
    have HB3:=yo HB9 hb3a
    have HS3:=yb (HS9.out.below hb3a)
    have HD3:=yb (show RdM W1 (w3.alloc (.cells #[.slice ga s.gs.length gc,.int .i64 s.tr.kind,.int .i64 s.tr.n,.string (mkB s.tr.s),.slice ta s.tr.l.length tc] 33)) (rd++[(K:Int)]) (.slice ua (rd.length+1) uc) from zaE HD9.out fun b hb=>hb3a.block b (HD9.out.lt b hb).2)
    have HW2:=yb (show W1.heap.size<=w9.heap.size/\w9.heap.size<=w3.heap.size/\(∀b,Value.ownBlock (.slice sa l.length sc)=some b->b<w9.heap.size)/\∀b,Value.ownBlock (.slice ua (rd.length+1) uc)=some b->b<w9.heap.size from ⟨HB9.out.size,hb3.size,fun b hb=>(HS9.out.own.lt b hb).2,fun b hb=>(HD9.out.lt b hb).2⟩)
    have HZ3:=yb (zab HB3.out HZ1.out)
    have HBW3:=yb (HB1.out.trans (HB3.out.mono HB1.out.size))
    clear hb3 hb3a hs3 HS9 HD9 HB9 HPS
    go_upto_region 18 with fail
    obtain ⟨T,hT⟩:∃T,T=w3.heap.size:=⟨_,rfl⟩
    rw [<-hT] at HT3 HW2 |-
    clear hT
    generalize World.alloc _ _=W3 at *
    obtain ⟨⟨t0,t1,t2,t3,t4⟩,-⟩:=zbj HT3.out
    obtain ⟨⟨z0,z1⟩,-⟩:=zaR HZ3.out
    by_cases he6:se=6
    ·subst he6
     have HV:=yb (HQ2.out.trans (yg rfl))
     have HN3:=yb (HNX.out _ HBW3.out)
     clear HQ2 HNX HEV
     go_wp2_with fail
     refine HN3.out.mono ?_
     rintro e w5 ⟨rfl,hb5⟩
     have HB5:=yo HBW3 hb5
     clear hb5
     go_wp2_with fail
     go_ret3
     exact zbQ HV.out HB5.out
    have HQ3:=yb (HQ2.out.trans (yh he6))
    have e6:(se==6)=false:=by rw [yf];exact he6
    clear HQ2 HNX
    by_cases he0:se=0
    case neg =>
     have HV:=yb (HQ3.out.trans (yg he0))
     have e00:(se==0)=false:=by rw [yf];exact he0
     have e01:(se != 0)=true:=by simp only [bne,e00,yj]
     clear HQ3 he0 he6 HEV
     go_wp2_with fail
     go_ret3
     exact zbQ HV.out HBW3.out
    subst he0
    have HV:=yb (HQ3.out.trans (yh (fun h=>h rfl)))
    obtain ⟨-,hev⟩:=HEV.out rfl
    have HEV2:=yb hev
    clear HQ3 HEV hev he6
    have HSC:=yb (show secC s (.slice ga s.gs.length gc) (.slice ta s.tr.l.length tc)=[.slice ga s.gs.length gc,.int .i64 s.tr.kind,.int .i64 s.tr.n,.string (mkB s.tr.s),.slice ta s.tr.l.length tc] from rfl)
    have HPA:=yb (show pvA s.tr (.slice ta s.tr.l.length tc)=.agg #[.int .i64 s.tr.kind,.int .i64 s.tr.n,.string (mkB s.tr.s),.slice ta s.tr.l.length tc] from rfl)
    have hone:∀u∈secC s (.slice ga s.gs.length gc) (.slice ta s.tr.l.length tc),u.oneCell'=true:=by
     intro u hu
     rw [HSC.out] at hu
     simp at hu
     rcases hu with rfl|rfl|rfl|rfl|rfl<;>rfl
    rw [HSC.out] at hone
    have HONE:=yb hone
    have HGT:=yb (fun (W:World) (hx:IsV W (fun b=>w9.heap.size<=b) s.tr (.slice ta s.tr.l.length tc))=>rget_any hx (fun _=>HEV2.out) kPrev)
    rw [HPA.out] at HGT
    have HNE3:=yb (show ∀b,Value.ownBlock (.slice sa l.length sc)=some b->¬Value.ownBlock (.slice ua (rd.length+1) uc)=some b from fun b h1 h2=>by
     obtain ⟨c1,e1⟩:=zaJ HS3.out.own h1
     obtain ⟨c2,e2⟩:=zaJ HD3.out h2
     exact za5 e1 e2 (by decide) rfl)
    clear hone
    generalize hGV:getV s.tr kPrev=GV at *
    clear hGV
    generalize hK1:s.tr.kind=xk at *
    generalize hK2:s.tr.n=xn at *
    generalize hK3:mkB s.tr.s=xb at *
    clear hK1 hK2 hK3 z0 z1
    go_wp2_with (at_builtin;go_loud (refine zbR ERSec rfl (.tmp 69) (.tmp 71) rfl W1.heap.size _ l.length _ rfl (HS3.out.own.alloc _) _ 1 _ rfl (zcM _ #[.slice ga s.gs.length gc,.int .i64 xk,.int .i64 xn,.string xb,.slice ta s.tr.l.length tc] _ 5 rfl rfl) HONE.out (by unfold maxLen;omega) (by omega) (by rw [zan];have:=HW2.out;have:=zaj HT3.out;omega) ?_);intro v' w8 hO8 hg8 hn8;obtain ⟨qa,qc,rfl,-,-⟩:=zas hO8;have HS8:=yb (HS3.out.app hg8 HX3.out HW2.out.1 HW2.out.2.2.1 HW2.out.2.2.2 (by rw [HSC.out];exact hO8) hn8);have HST:=yb (zfd hg8 HW2.out.2.2.1);have HX8:=yb (HX3.out.keep HST.out (fun _ h=>h));have HT8:=yb ((HST.out.2 T (zaj HT3.out) HW2.out.2.1).trans HT3.out);have HD8:=yb (show RdM W1 w8 (rd++[(K:Int)]) (.slice ua (rd.length+1) uc) from zaE HD3.out fun b hb=>(hg8.block b (by rw [zan];have:=(HD3.out.lt b hb).2;omega) (fun e=>HNE3.out b e.symm hb)).trans (zb5 _ _ (HD3.out.lt b hb).2));have HB8:=yb ((HB3.out.alloc HB3.out.size _).grown hg8 (by rw [zan];have:=HB3.out.size;omega) (fun b hb=>(HS3.out.own.lt b hb).1));clear hO8 hg8 hn8 HS3 HX3 HT3 HD3 HB3 HZ3 HBW3 HNE3 t0 t1 t2 t3 t4;obtain ⟨⟨t0,t1,t2,t3,t4⟩,-⟩:=zbj HT8.out)
    have HG8:=yb (HGT.out _ HX8.out.2)
    clear HGT
    cases GV with
    | none =>
     refine HG8.out.mono ?_
     rintro e w9 ⟨xl,rfl,hv9,hb9⟩
     obtain ⟨la,lc,rfl,-,-,-⟩:=hv9.len
     simp only [getP,pvA,PV.none]
     have HB9:=yb (HB1.out.trans ((HB8.out.trans (hb9.mono HB8.out.size)).mono HB1.out.size))
     have HS9:=yb (HS8.out.below hb9)
     clear hv9 hb9 HG8 HX8 HT8 HD8 HB8 HS8 t0 t1 t2 t3 t4
     go_wp2_with fail
     go_ret3
     rw [HV.out]
     exact ⟨_,rfl,((HS9.out.below (zam _ _)).fin.keep (zaI.refl _ _) (fun b hb=>Nat.le_trans HWW.out.2 hb)),HB9.out.alloc HB9.out.size _⟩
    | some v =>
     refine HG8.out.mono ?_
     rintro e w9 ⟨xl,rfl,hv9,hb9⟩
     obtain ⟨la,lc,rfl,-,-,-⟩:=hv9.len
     simp only [getP,pvA]
     have hb9a:=hb9.alloc hb9.size (.cells #[.int .i64 v.kind,.int .i64 v.n,.string (mkB v.s),.slice la v.l.length lc] 27)
     have HY9:=yb (zac (w:=w9) (b:=w9.heap.size) (.cells #[.int .i64 v.kind,.int .i64 v.n,.string (mkB v.s),.slice la v.l.length lc] 27) rfl)
     have HB9:=yo HB8 hb9a
     have HS9:=yb (HS8.out.below hb9a)
     have HD9:=yb (show RdM W1 (w9.alloc (.cells #[.int .i64 v.kind,.int .i64 v.n,.string (mkB v.s),.slice la v.l.length lc] 27)) (rd++[(K:Int)]) (.slice ua (rd.length+1) uc) from zaE HD8.out fun b hb=>hb9a.block b (HD8.out.lt b hb).2)
     clear hv9 hb9 hb9a HG8 HX8 HT8 HD8 HB8 HS8 t0 t1 t2 t3 t4
     have HV2:=yb (show R=if v.kind≠2 then ([],0,20) else zbY bs kn m (rd++[(K:Int)]) (l++[s]) v.n from HV.out)
     clear HV
     generalize v.kind=vk at *
     generalize v.n=vn at *
     generalize mkB v.s=vb at *
     go_upto_region 24 with fail
     generalize w9.heap.size=Y at *
     generalize World.alloc _ _=W9 at *
     obtain ⟨⟨y0,y1,y2,y3⟩,-⟩:=zaf HY9.out
     by_cases hk2:vk=2
     case neg =>
      have HV3:=yb (HV2.out.trans (yg hk2))
      have e00:(vk==2)=false:=by rw [yf];exact hk2
      have e01:(vk != 2)=true:=by simp only [bne,e00,yj]
      have HBF:=yb (HB1.out.trans (HB9.out.mono HB1.out.size))
      clear hk2
      go_wp2_with fail
      go_ret3
      exact zbQ HV3.out HBF.out
     subst hk2
     have HV3:=yb (HV2.out.trans (yh (fun h=>h rfl)))
     have HLN:=yb (show (l++[s]).length=l.length+1 by simp)
     clear HV2
     go_wp2_with fail
     go_roundw
     case rel=>exact ⟨rd++[(K:Int)],l++[s],vn,_,rfl,by rw [HLN.out];go_num,by rw [HLN.out];omega,yb (by rw [HLN.out,List.length_append,HRL.out];rfl),HS9,HD9,HB9,yb (by rw [HV3.out,HLN.out,show 33-(l.length+1)=m by have:=HM.out;omega])⟩
     case measure=>simp [intOf];omega
theorem zgO {w w':World} {row:Option Nat} (h:w.drew.grownBy w' row):w.grownBy w' row:=⟨h.os,h.tape,h.output,h.size,h.block⟩
theorem IsSs.take1 {w:World} {F:Nat->Prop} {l:List Sec} {cs:List Value} {k:Nat} (h:IsSs w F (l.take k) cs) {s:Sec} (hk:l[k]?=some s) {gv sl:Value} (hv:zbU w F s gv sl):IsSs w F (l.take (k+1)) (cs++secC s gv sl):=by
 rw [List.take_add_one,hk];exact h.snoc hv
theorem secsOf_any {w:World} {F:Nat->Prop} {l:List Sec} {v:Value} (h:IsL w F l v) (hl:l.length<=1000) :
  Calls Tryz.prog 27 #[v] w fun e w'=>∃v',e=.returned v'/\IsL w' anyF l v'/\Below w.heap.size w w':=by
 obtain ⟨a,cap,rfl,g1,g2,g3⟩:=h.len
 have hl63:(l.length:Int)<=9223372036854775807:=by omega
 have HL:=yb h
 clear h g2 g3
 go_enter Tryz.func27,Tryz.ntmps27
 go_wp2_with fail
 go_loopw [3,4] (fun v3 v4 wr=>∃(j:Nat) (ds:List Value),v4=.int .i64 j/\j<=l.length/\Hid (IsSs w F (l.take j) ds)/\Hid (wr.ownsRow w.heap.size 33 5 v3 j ds)/\Hid (Below w.heap.size w wr)) (fun _ v _=>l.length-(intOf v).toNat)
 case atStart=>exact ⟨0,[],rfl,Nat.zero_le _,yb rfl,yb (World.ownsRow_nil _ _ _ _),yb (Below.refl _ _)⟩
 case round =>
  obtain ⟨j,ds,rfl,hj,HI,HO,HB⟩:=hrel
  obtain ⟨oa,oc,rfl,-,-⟩:=zas HO.out
  by_cases hlt:j<l.length
  case neg =>
   have hcd:decide ((j:Int)<(l.length:Int))=false:=ye (by omega)
   have hcd2:decide (j<l.length)=false:=ye hlt
   obtain rfl:j=l.length:=by omega
   have HF:=yb (show IsL wr anyF l (.slice oa l.length oc) from ⟨oa,oc,ds,rfl,(Row.of_own HO.out).2,fun _ _ _=>trivial,by
    have:=HI.out;rw [List.take_length] at this;exact this.keep (zaI.of_below HB.out) (fun _ _=>trivial)⟩)
   go_wp2_with fail
   go_ret
   exact ⟨_,rfl,HF.out,HB.out⟩
  have hcd:decide ((j:Int)<(l.length:Int))=true:=yd (by omega)
  have hcd2:decide (j<l.length)=true:=yd hlt
  have hL2:=HL.out
  obtain ⟨-,-,-,b,off,rfl,-,-,hc⟩:=hL2.at (by omega)
  obtain ⟨s,hx⟩:∃s,l[j]?=some s:=⟨_,List.getElem?_eq_getElem hlt⟩
  obtain ⟨gv,sl,hsec,d0,d1,d2,d3,d4⟩:=hc j s hx
  obtain ⟨ga,gc,rfl,-,-,-⟩:=hsec.1.len
  obtain ⟨la,lc,rfl,-,-,-⟩:=hsec.2.len
  have HI2:=yb (HI.out.take1 hx hsec)
  have hone:∀u∈secC s (.slice ga s.gs.length gc) (.slice la s.tr.l.length lc),u.oneCell'=true:=by
   intro u hu
   simp [secC,pvC] at hu
   rcases hu with rfl|rfl|rfl|rfl|rfl<;>rfl
  have HSC:=yb (show secC s (.slice ga s.gs.length gc) (.slice la s.tr.l.length lc)=[.slice ga s.gs.length gc,.int .i64 s.tr.kind,.int .i64 s.tr.n,.string (mkB s.tr.s),.slice la s.tr.l.length lc] from rfl)
  rw [HSC.out] at hone HI2
  have HONE:=yb hone
  have hBd:=HB.out.drew
  have c0:=cell?_keep hBd d0
  have c1:=cell?_keep hBd d1
  have c2:=cell?_keep hBd d2
  have c3:=cell?_keep hBd d3
  have c4:=cell?_keep hBd d4
  have hlj:(j:Int)<(l.length:Int):=by omega
  obtain ⟨iB,hiB,hzB,hsB,hbB⟩:=info_parts ERSec.info
  clear hL2 hc hx hsec hone hBd d0 d1 d2 d3 d4 HI HSC
  generalize s.gs.length=gn at *
  generalize s.tr.kind=xk at *
  generalize s.tr.n=xn at *
  generalize mkB s.tr.s=xb at *
  generalize s.tr.l.length=xl at *
  go_wp2_with fail
  go_region_law (first|(refine step_append_lies _ (by rfl) _ _ _ (by rfl) w.heap.size 33 iB _ 5 80 ERSec.und hiB hzB hsB hbB ERSec.cells ERSec.pos (.slice oa j oc) j ds (by rfl) ((HO.out.alloc _).drew) ⟨wr.heap.size,0,none⟩ 1 1 [.slice ga gn gc,.int .i64 xk,.int .i64 xn,.string xb,.slice la xl lc] (by rfl) (by rfl) (World.news_of_block (cs:=#[.slice ga gn gc,.int .i64 xk,.int .i64 xn,.string xb,.slice la xl lc]) (t:=33) (fr:=(0,0)) (heap_alloc_new wr _)) (by simp [Value.oneCell']) (by omega) (by unfold maxLen;omega) (by omega) (by simp;have:=HB.out.size;omega) (wr.heap.size+1) (by simp) ?_;intro g cap7 w7 hO7 hgrow hat hlt7;have HO8:=yb hO7;have HB8:=yb ((HB.out.alloc HB.out.size _).grown (zgO hgrow) (by rw [zan];have:=HB.out.size;omega) (fun b hb=>(HO.out.lt b hb).1));clear hO7 hgrow hat hlt7))
  all_goals (try go_wp2_with fail)
  all_goals clear c0 c1 c2 c3 c4
  all_goals go_roundw
  all_goals first
   | exact ⟨j+1,_,by first|rfl|go_num,by omega,HI2,HO8,HB8⟩
   |(simp [intOf];omega)
theorem secsSame_any {w:World} {F G:Nat->Prop} {l:List Sec} {v v':Value} (h:IsL w F l v) (h':IsL w G l v') :
  Calls Tryz.prog 26 #[v,v'] w fun e w'=>e=.returned (.bool true)/\Below w.heap.size w w':=by
 obtain ⟨a,cap,rfl,g1,g2,-⟩:=h.len
 obtain ⟨a',cap',rfl,-,-,-⟩:=h'.len
 have hl63:(l.length:Int)<=9223372036854775807:=by unfold maxLen at g2;omega
 clear g1
 have HL:=yb h
 have HL':=yb h'
 have hLL:((l.length:Int) != l.length)=false:=by simp
 clear h h' g2
 go_enter Tryz.func26,Tryz.ntmps26
 go_wp2_with fail
 go_loopw [5] (fun v wr=>∃c:Nat,v=.int .i64 c/\c<=l.length/\Hid (Below w.heap.size w wr)) (fun v _=>l.length-(intOf v).toNat)
 case atStart=>exact ⟨0,rfl,Nat.zero_le _,yb (Below.refl _ _)⟩
 case round =>
  obtain ⟨c,rfl,hc,HB⟩:=hrel
  by_cases hlt:c<l.length
  case neg =>
   have hcd:decide ((c:Int)<(l.length:Int))=false:=ye (by omega)
   have hcd2:decide (c<l.length)=false:=ye (by omega)
   go_wp2
   go_ret
   exact ⟨rfl,HB.out⟩
  have hcd:decide ((c:Int)<(l.length:Int))=true:=by simp;omega
  have hcd2:decide (c<l.length)=true:=by simp;omega
  have hlj:(c:Int)<(l.length:Int):=by omega
  have hL2:=HL.out.below HB.out
  have hL2':=HL'.out.below HB.out
  obtain ⟨-,-,-,b,off,rfl,-,-,hcc⟩:=hL2.at (by omega)
  obtain ⟨-,-,-,b',off',rfl,-,-,hcc'⟩:=hL2'.at (by omega)
  obtain ⟨s,hx⟩:∃s,l[c]?=some s:=⟨_,List.getElem?_eq_getElem hlt⟩
  obtain ⟨gv,sl,hsec,c0,c1,c2,c3,c4⟩:=hcc c s hx
  obtain ⟨gv',sl',hsec',c0',c1',c2',c3',c4'⟩:=hcc' c s hx
  have HSS:=yb (fun p:za7 wr=>dsame_eq (hsec.below p.h) (hsec'.below p.h))
  unfold secA at HSS
  have u0:=za7.cell c0
  have u1:=za7.cell c1
  have u2:=za7.cell c2
  have u3:=za7.cell c3
  have u4:=za7.cell c4
  have u0':=za7.cell c0'
  have u1':=za7.cell c1'
  have u2':=za7.cell c2'
  have u3':=za7.cell c3'
  have u4':=za7.cell c4'
  clear hL2 hL2' hcc hcc' hx hsec hsec' c0 c1 c2 c3 c4 c0' c1' c2' c3' c4'
  generalize s.tr.kind=xk at *
  generalize s.tr.n=xn at *
  generalize mkB s.tr.s=xb at *
  go_wp2_with fail
  refine zce (by kernel_rfl) (by kernel_rfl) ?_
  repeat (go_big_quiet_step ((go_at_call 13;with_reducible exact Calls.below_of (HSS.out _))))
  refine wpQuiet_nil ?_
  rintro _ ⟨⟨w6,hb6⟩,rfl⟩
  have HB6:=yo HB hb6
  clear hb6 u0 u1 u2 u3 u4 u0' u1' u2' u3' u4' HSS HB
  go_wp2
  go_roundw
  case rel=>exact ⟨c+1,by go_num,by omega,HB6⟩
  case measure=>simp [intOf];omega
theorem zeJ {bs:List UInt8} {kn:List Bool}:∀(g:Nat) (rd:List Int) (l:List Sec) (a:Int),l.length<=33->(zbY bs kn g rd l a).1.length<=33
 | 0,_,_,_,_=>by unfold zbY;simp
 | g+1,rd,l,a,h=>by
  rw [zdn]
  split
  ·simp
  split
  ·simp
  rename_i h2
  have h3:l.length<32:=by
   rcases Nat.lt_or_ge l.length 32 with h4|h4
   ·exact h4
   ·exact absurd (.inr h4) h2
  split
  ·simp
  split
  ·simp
  split
  ·simp;omega
  ·split
   ·simp
   ·exact zeJ g _ _ _ (by simp;omega)
theorem law_csecs {a sa:Option Addr} {cap n sc:Nat} {bs:List UInt8} {L:List (Int×Int)} (k:Int) (w:World) (hr:Row w 1 a bs.length cap (bs.map u8C)) (hs:SRow w sa n sc L) :
  Calls Tryz.prog 6 #[.slice a bs.length cap,.slice sa n sc,.int .i64 k] w (PlEndX w):=by
 have hi:=hr.i64
 have HW:=yb (fun W=>works17 W)
 by_cases hbig:800<bs.length
 ·have hb2:decide (800<bs.length)=true:=yd hbig
  have hb3:decide ((800:Int)<bs.length)=true:=yd (by omega)
  clear hr hs hbig
  go_enter Tryz.func6,Tryz.ntmps6
  go_wp2_with (go_at_call 19;refine (HW.out _).mono ?_;rintro e w' ⟨rfl,hb⟩)
  go_ret
  exact ⟨rfl,hb⟩
 have hb2:decide (800<bs.length)=false:=ye hbig
 have hb3:decide ((800:Int)<bs.length)=false:=ye (by omega)
 by_cases hbn:30<n
 ·have hb4:decide (30<n)=true:=yd hbn
  have hb5:decide ((30:Int)<n)=true:=yd (by omega)
  clear hr hs hbig hbn
  go_enter Tryz.func6,Tryz.ntmps6
  go_wp2_with (go_at_call 19;refine (HW.out _).mono ?_;rintro e w' ⟨rfl,hb⟩)
  go_ret
  exact ⟨rfl,hb⟩
 have hb4:decide (30<n)=false:=ye hbn
 have hb5:decide ((30:Int)<n)=false:=ye (by omega)
 have hl8:bs.length<=800:=by omega
 have HSP:=yb (sparse_any hr hl8 hs (by omega))
 have HRS:=yb (fun (W:World) (hb:Below w.heap.size w W)=>rsparse_any (hr.mono hb) hl8 (hs.mono hb) (by omega))
 generalize knL bs.length L=kn at *
 have HST:=yb (fun (W:World) (p:Nat) (h:SrcI W p bs kn)=>zda h (by omega) k)
 have HRT:=yb (fun (W:World) (ka:Option Addr) (kc:Nat) (h:FlM W a cap bs ka kc kn)=>zgH h (by omega) k)
 have HLE:=yb (zeJ (bs:=bs) (kn:=kn) 33 [] [] k (by simp))
 generalize zbY bs kn 33 [] [] k=V at *
 clear hr hs hbig hbn
 obtain ⟨l,y,z⟩:=V
 simp only at HLE
 unfold zfy at HST HRT
 simp only at HST HRT
 have hyy:(y==y)=true:=by simp
 have hzz:(z==z)=true:=by simp
 go_enter Tryz.func6,Tryz.ntmps6
 go_wp2_with fail
 refine HSP.out.mono ?_
 rintro e w1 ⟨p,U,rfl,hK,hb1⟩
 have HB1:=yb hb1
 have HL1:=yb (HST.out _ _ hK.srcI)
 clear hK hb1 HSP HST
 go_wp2_with fail
 refine HL1.out.mono ?_
 rintro e w2 ⟨v,rfl,hv2,hb2'⟩
 have HB2:=yo HB1 hb2'
 have HR2:=yb (HRS.out _ HB2.out)
 have HV2:=yb hv2
 clear hb2' hv2 HL1 HB1 HRS
 go_wp2_with fail
 refine HR2.out.mono ?_
 rintro e w3 ⟨ka,kc,rfl,hF,hb3'⟩
 have HB3:=yo HB2 hb3'
 have HL3:=yb (HRT.out _ _ _ hF)
 have HV3:=yb (HV2.out.below hb3')
 clear hb3' hF HR2 HB2 HRT HV2
 go_wp2_with fail
 refine HL3.out.mono ?_
 rintro e w4 ⟨v',rfl,hv4,hb4'⟩
 have HB4:=yo HB3 hb4'
 have HV4:=yb (HV3.out.below hb4')
 have HY4:=yb hv4
 have HO4:=yb (secsOf_any HV4.out (by have:=HLE.out;omega))
 clear hb4' hv4 HL3 HB3 HV3
 go_wp2_with fail
 refine HO4.out.mono ?_
 rintro e w5 ⟨v5,rfl,hv5,hb5'⟩
 have HB5:=yo HB4 hb5'
 have HS5:=yb (secsSame_any hv5 (HY4.out.below hb5'))
 clear hb5' hv5 HO4 HB4 HV4 HY4
 go_wp2_with fail
 refine HS5.out.mono ?_
 rintro e w6 ⟨rfl,hb6'⟩
 have HB6:=yo HB5 hb6'
 clear hb6' HS5 HB5
 go_wp2_with (go_at_call 19;refine (HW.out _).mono ?_;rintro e w7 ⟨rfl,hb7'⟩)
 go_ret
 exact ⟨rfl,HB6.out.trans (hb7'.mono HB6.out.size)⟩
end Go.Proofs.YtfafdeemfeaedaaGreat
namespace Go.Proofs.YtfafdeemfeaedaaGreat
open Go.RowKit Go.Sort Go.ChangeShapes Go.WideShapes Go.Joins Go.Deep
theorem bd_i64 {n:Int} (h:(Lit.int .i64 n).wf=true):-9223372036854775808<=n/\n<=9223372036854775807:=by
 simp [Lit.wf,IntKind.min,IntKind.max,IntKind.signed,IntKind.bits] at h;omega
section
variable {H : Type} {enc : TypeId × Value -> H} {w : World} {base : Nat} {spare : Nat -> Bool} {held : Bool}
theorem span_slice {a:Option Addr} {n cap:Nat} {d:DataW H} {p:List MemPlace} (h:DataW.Trod enc Tryz.prog w base spare held 50 (.slice a n cap) d p):∃l:List (Int×Int),SRow w a n cap l/\Fit l:=by
 obtain ⟨fuel,hf⟩:=h
 rcases open_slice_pairs Tryz.underlying50 Tryz.underlying129 (by kernel_rfl) rfl rfl (by kernel_rfl) (by kernel_rfl) hf with ⟨hcs,_⟩|⟨x,l,c,m,k,V0,V1,D0,D1,P0,P1,hcs,_,hl,hm,hmm,_,hc⟩
 ·simp [Value.cells] at hcs
  obtain ⟨rfl,rfl,rfl⟩:=hcs
  exact ⟨[],Row.nil w 2,fun x hx=>(by cases hx)⟩
 ·simp [Value.cells] at hcs
  obtain ⟨rfl,rfl,rfl⟩:=hcs
  have hnm:n<=m:=by rw [hmm];split<;>omega
  have each:∀i,i<n->∃q:Int×Int,w.cell? (x.add (i*2))=some (.int .i64 q.1)/\w.cell? (x.add (i*2+1))=some (.int .i64 q.2)/\(-9223372036854775808<=q.1/\q.1<=9223372036854775807)/\(-9223372036854775808<=q.2/\q.2<=9223372036854775807):=fun i hi=>by
   obtain ⟨e0,e1,t0,t1⟩:=hc i (by omega)
   obtain ⟨z0,h0,_,w0⟩:=DataW.trod_int Tryz.underlying3 t0
   obtain ⟨z1,h1,_,w1⟩:=DataW.trod_int Tryz.underlying3 t1
   simp at h0 h1
   exact ⟨(z0,z1),by rw [e0,h0],by rw [e1,h1],bd_i64 w0,bd_i64 w1⟩
  obtain ⟨f,hf⟩:=choose_lt each
  refine ⟨(List.range n).map f,⟨by rw [zbT];simp,hl,hm,fun h=>(by cases h),fun hn=>?_⟩,fun z hz=>?_⟩
  ·have h0:=(hf 0 (by omega)).1
   have hb:=World.block_lt_of_cell? w _ h0
   obtain ⟨b,off,spot⟩:=x
   have hspot:spot=none:=by simpa [Addr.add] using World.cell?_spot h0
   subst hspot
   refine ⟨b,off,rfl,by simpa [Addr.add] using hb,fun j u hj=>?_⟩
   have hj2:j<((List.range n).map f).length*2:=by
    have:=(List.getElem?_eq_some_iff.1 hj).1
    rwa [zbT] at this
   simp at hj2
   have hi:j / 2<n:=by omega
   obtain ⟨g0,g1⟩:=zg4 ((List.range n).map f) (j / 2) (by simpa using hi)
   have hg:((List.range n).map f).getD (j / 2) (0,0)=f (j / 2):=by simp [List.getD,hi]
   rw [hg] at g0 g1
   obtain ⟨e0,e1,_⟩:=hf (j / 2) hi
   by_cases hp:j % 2=0
   ·have hj3:2*(j / 2)=j:=by omega
    rw [hj3] at g0
    rw [show j / 2*2=j from by omega,Addr.add_lit] at e0
    rw [e0,<-hj,g0]
   ·have hj3:2*(j / 2)+1=j:=by omega
    rw [hj3] at g1
    rw [show j / 2*2+1=j from by omega,Addr.add_lit] at e1
    rw [e1,<-hj,g1]
  ·obtain ⟨i,hi,rfl⟩:=List.mem_map.1 hz
   obtain ⟨_,_,b0,b1⟩:=hf i (List.mem_range.1 hi)
   exact ⟨b0.1,b0.2,b1.1,b1.2⟩
end
end Go.Proofs.YtfafdeemfeaedaaGreat
namespace Go.Proofs.YtfafdeemfeaedaaGreat
open Go.RowKit Go.ChangeShapes Go.WideShapes
theorem byte_slice {H:Type} {enc:TypeId×Value->H} {w:World} {a:Option Addr} {n cap:Nat} {d:DataW H} {p:List MemPlace} (h:DataW.Trod enc Tryz.prog w 0 (fun _=>true) true 22 (.slice a n cap) d p) :
  ∃bs:List UInt8,bs.length=n/\Row w 1 a bs.length cap (bs.map u8C):=by
 obtain ⟨fuel,hf⟩:=h
 rcases open_ints Tryz.underlying22 Tryz.underlying5 (by kernel_rfl) hf with ⟨hcs,_⟩|⟨x,l,c,zs,hcs,_,hl,hm,hz,_,hcell,hwz⟩
 ·simp [Value.cells] at hcs
  obtain ⟨rfl,rfl,rfl⟩:=hcs
  exact ⟨[],rfl,Row.nil w 1⟩
 ·simp [Value.cells] at hcs
  obtain ⟨rfl,rfl,rfl⟩:=hcs
  exact row_bytes (w:=w) (a:=some x) (len:=n) (cap:=cap) (zs:=zs) (.inr ⟨x,rfl,hl,hm,by simpa using hz,hcell,hwz⟩)
end Go.Proofs.YtfafdeemfeaedaaGreat
