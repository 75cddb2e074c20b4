/-
  Our texts Xr4 to Ps7, in one.
-/
import Derived.Test.YtfafdeemfeaedaaGreatPkQ4
import Derived.BigQuiet
import Derived.Deep.QuietTactic
import Derived.IntWalk
import Derived.Deep.RegionHeld3
import Derived.Deep.AppendLies
import Derived.PlainAid
import Derived.Deep.DeepCutAuto
import Derived.Test.YtfafdeemfeaedaaGreatProg
import Derived.Sort.LotA
import Derived.Sort.Lot0
import Derived.Deep.Draws
import Derived.RangeFuncBox
import Derived.RangeFuncNested
import Derived.RangeFuncBound
import Derived.RangeFuncCalls
import Derived.RangeFuncLeaves
import Derived.Shelf.Abstract
import Derived.Shelf.RegionOpen
import Derived.OwnWalkIn
import Derived.TacticsInMore
import Derived.LoopNIn
import Derived.LoopIn
set_option maxRecDepth 8000
set_option maxHeartbeats 8000000
namespace Go.Proofs.YtfafdeemfeaedaaGreat
open Go.RowKit
def grp1 (bs:List UInt8) (yo:Bool) (x:Tk) (k:Int):Grp×Int×Int :=
 if zaD x=false then (⟨0,[]⟩,0,20)
 else if (nxtV bs yo k).2.2.2≠0 then (⟨0,[]⟩,0,(nxtV bs yo k).2.2.2)
 else if zaD (nxtV bs yo k).1=false\/zfo x.vn (nxtV bs yo k).1.vn=false then (⟨0,[]⟩,0,20)
 else if (zcM bs yo (nxtV bs yo k).1.vn.toNat (nxtV bs yo k).2.2.1.toNat []).2.2≠0 then (⟨0,[]⟩,0,(zcM bs yo (nxtV bs yo k).1.vn.toNat (nxtV bs yo k).2.2.1.toNat []).2.2)
 else (⟨x.vn,(zcM bs yo (nxtV bs yo k).1.vn.toNat (nxtV bs yo k).2.2.1.toNat []).1⟩,(zcM bs yo (nxtV bs yo k).1.vn.toNat (nxtV bs yo k).2.2.1.toNat []).2.1,0)
theorem zbM {w:World} {b:Nat} {x0 x1:Value} {t:TypeId} (h:w.heap[b]?=some (.cells #[x0,x1] t (0,0))) (y0 y1:Value) :
  ((w.setCell ⟨b,0,none⟩ y0).setCell ⟨b,1,none⟩ y1).heap[b]?=some (.cells #[y0,y1] t (0,0)):=by
 rw [heap_setCell_same _ _ 1 _ _ _ (heap_setCell_same w _ 0 _ _ _ h)];rfl
theorem zax {w:World} {b:Nat} {x0 x1:Value} {t:TypeId} (h:w.heap[b]?=some (.cells #[x0,x1] t (0,0))) :
  (w.cell? ⟨b,0,none⟩=some x0/\w.cell? ⟨b,1,none⟩=some x1)/\(w.frozen? ⟨b,0,none⟩=false/\w.frozen? ⟨b,1,none⟩=false):=by
 refine ⟨⟨?_,?_⟩,frozen_of_row w b 0 _ _ h,frozen_of_row w b 1 _ _ h⟩
 ·rw [cell_of_row w b 0 _ _ _ h];rfl
 ·rw [cell_of_row w b 1 _ _ _ h];rfl
theorem zdq:(Tryz.prog.info? 42).map (·.size)=some 2:=by kernel_rfl
theorem EEnt:zdM Tryz.prog 40 44 (.agg #[.int .i64 0,.int .i64 0,.bool false]) 3 24:=⟨Tryz.underlying40,by kernel_rfl,rfl,by omega⟩
theorem entV_le {bs:List UInt8} {yo:Bool} {k:Nat} (_hk:k<=bs.length) (_h:(entV bs yo k).2.2=0):(entV bs yo k).2.1<=bs.length:=by
 unfold entV
 split
 ·exact Nat.zero_le _
 ·split
  ·exact Nat.zero_le _
  ·show zcL bs k+19<=_;omega
section
variable {w0 w w' : World} {p : Nat} {a : Option Addr} {cap : Nat} {bs : List UInt8} {yo : Bool} {at_ : Int}
theorem IsRd.set2r (h:IsRd w0 w p a cap bs yo at_) {r:Nat} (hr:p≠r) (h0:w0.heap.size<=r) (y0 y1:Value):IsRd w0 ((w.setCell ⟨r,0,none⟩ y0).setCell ⟨r,1,none⟩ y1) p a cap bs yo at_ :=
 ⟨by rw [heap_setCell_other _ _ _ _ hr,heap_setCell_other _ _ _ _ hr];exact h.blk,h.new,h.row,(h.bel.setCell h0 _).setCell h0 _,h.small⟩
theorem zfX {S:Nat->Prop} {W:World} (h:zae S w W) {r:Nat} (hr:w.heap.size<=r) (y0 y1:Value):zae S w ((W.setCell ⟨r,0,none⟩ y0).setCell ⟨r,1,none⟩ y1) :=
 (h.setCell (.inr hr) _).setCell (.inr hr) _
theorem IsRd.grown (h:IsRd w0 w p a cap bs yo at_) {row:Option Nat} (hg:w.grownBy w' row) (hr:∀b,row=some b->b≠p/\w0.heap.size<=b):IsRd w0 w' p a cap bs yo at_ :=
 ⟨(hg.block p h.lt (fun e=>(hr p e.symm).1 rfl)).trans h.blk,h.new,h.row,h.bel.grown hg h.bel.size (fun b hb=>(hr b hb).2),h.small⟩
theorem IsRd.set (h:IsRd w0 w p a cap bs yo at_) {r:Nat} (hr:p≠r) (h0:w0.heap.size<=r) (i:Nat) (y:Value):IsRd w0 (w.setCell ⟨r,i,none⟩ y) p a cap bs yo at_ :=
 ⟨by rw [heap_setCell_other _ _ _ _ hr];exact h.blk,h.new,h.row,h.bel.setCell h0 _,h.small⟩
structure GrM (w W:World) (r g:Nat) (n:Int) (es:List Ent) (sv:Value):Prop where
 blk:W.heap[g]?=some (.cells #[.int .i64 n,sv] 42 (0,0))
 res:W.heap[r]?=some (.cells #[.int .i64 0,.slice none 0 0] 42 (0,0))
 own:W.ownsRow w.heap.size 44 3 sv es.length (zbY es)
 kps:zae (fun b=>b=p) w W
 gne:w.heap.size<=g/\r≠g/\g≠p
theorem GrM.ne {W:World} {r g:Nat} {n:Int} {es:List Ent} {sv:Value} (h:GrM (p:=p) w W r g n es sv) {b:Nat} (hb:sv.ownBlock=some b):b≠g/\b≠r:=by
 obtain ⟨cs,hc⟩:=zaB h.own hb
 exact ⟨zaO hc h.blk (by decide),zaO hc h.res (by decide)⟩
theorem GrM.on {W W':World} {r g:Nat} {n:Int} {es:List Ent} {sv:Value} (h:GrM (p:=p) w W r g n es sv) (hr:r≠p) (hp:p<w.heap.size) (hk:zae (fun b=>b=p) W W'):GrM (p:=p) w W' r g n es sv :=
 ⟨hk.obj h.blk h.gne.2.2,hk.obj h.res hr,zaA h.own fun b hb=>hk.block b (h.own.lt b hb).2 (by have:=(h.own.lt b hb).1;omega),h.kps.trans hk (fun x hx=>.inl hx),h.gne⟩
theorem GrM.atG {W W8:World} {o:Obj} {r g:Nat} {n:Int} {es:List Ent} {sv:Value} (h:GrM (p:=p) w W r g n es sv) (hg8:(W.alloc o).grownBy W8 sv.ownBlock):W8.heap[g]?=some (.cells #[.int .i64 n,sv] 42 (0,0)) :=
 (hg8.block g (by rw [zan];have:=zaf h.blk;omega) (fun e=>(h.ne e.symm).1 rfl)).trans (zai _ h.blk)
theorem GrM.app {W W8:World} {o:Obj} {r g:Nat} {n:Int} {es:List Ent} {sv:Value} (h:GrM (p:=p) w W r g n es sv) (hg8:(W.alloc o).grownBy W8 sv.ownBlock) {x:Ent} {v':Value} (hO:W8.ownsRow w.heap.size 44 3 v' (es.length+1) (zbY es++entC x)) :
  GrM (p:=p) w (W8.setCell ⟨g,1,none⟩ v') r g n (es++[x]) v':=by
 have hG:=h.atG hg8
 refine ⟨by rw [heap_setCell_same _ g 1 _ _ _ hG];rfl,?_,?_,((h.kps.alloc o).grown hg8 (fun k hk=>.inr (h.own.lt k hk).1)).setCell (.inr h.gne.1) _,h.gne⟩
 ·rw [heap_setCell_other _ _ _ _ h.gne.2.1]
  exact (hg8.block r (by rw [zan];have:=zaf h.res;omega) (fun e=>(h.ne e.symm).2 rfl)).trans (zai _ h.res)
 ·have h2:zbY (es++[x])=zbY es++entC x:=by rw [zdV];simp [zbY]
  rw [h2,List.length_append]
  refine zaA hO fun b hb=>?_
  obtain ⟨cs,hc⟩:=zaB hO hb
  exact heap_setCell_other _ _ _ _ (zaO hc hG (by decide))
theorem isE_own {W:World} {B:Nat} {es:List Ent} {sv:Value} (h:W.ownsRow B 44 3 sv es.length (zbY es)):IsE W (fun b=>B<=b) es sv:=by
 obtain ⟨a,cap,e,-,-⟩:=zas h
 subst e
 exact ⟨a,cap,rfl,(Row.of_own h).2,fun h0 x hx=>(h.lt x.block (by rw [hx];rfl)).1⟩
theorem GrM.fin {W:World} {r g:Nat} {n:Int} {es:List Ent} {sv:Value} (h:GrM (p:=p) w W r g n es sv) (y0 y1:Value):IsE ((W.setCell ⟨r,0,none⟩ y0).setCell ⟨r,1,none⟩ y1) (fun b=>w.heap.size<=b) es sv :=
 isE_own (zaA h.own fun b hb=>by rw [heap_setCell_other _ _ _ _ (show b≠r from (h.ne hb).2),heap_setCell_other _ _ _ _ (show b≠r from (h.ne hb).2)])
def GrpEnd (w0 w:World) (p:Nat) (a:Option Addr) (cap:Nat) (bs:List UInt8) (yo:Bool) (V:Grp×Int×Int) (e:Ending) (w':World):Prop :=
 ∃v,e=.returned (.tuple #[.agg #[.int .i64 V.1.first,v],.int .i64 V.2.2])/\IsE w' (fun b=>w.heap.size<=b) V.1.es v/\(∃at2:Int,IsRd w0 w' p a cap bs yo at2/\(V.2.2=0->at2=V.2.1))/\zae (fun b=>b=p) w w'
theorem grp_no {V:Grp×Int×Int} {W:World} {r:Nat} {e:Int} (hV:V=(⟨0,[]⟩,0,e)) (he:e≠0) (hI:∃at2:Int,IsRd w0 W p a cap bs yo at2) (hk:zae (fun b=>b=p) w W) (hpr:p≠r) (h0:w0.heap.size<=r) (hr:w.heap.size<=r) (y0 y1:Value) :
  GrpEnd w0 w p a cap bs yo V (.returned (.tuple #[.agg #[.int .i64 0,.slice none 0 0],.int .i64 e])) ((W.setCell ⟨r,0,none⟩ y0).setCell ⟨r,1,none⟩ y1):=by
 subst hV
 obtain ⟨at2,hI⟩:=hI
 exact ⟨_,rfl,IsE.nil _ _,⟨at2,hI.set2r hpr h0 _ _,fun h=>absurd h he⟩,zfX hk hr _ _⟩
theorem xgroup_any {k:Int} (h:IsRd w0 w p a cap bs yo k) (h0:0<=k) (h1:k<=bs.length) (x:Tk) (f t:Int):Calls Tryz.prog 80 #[.pointer (some ⟨p,0,none⟩),.agg (tokN x f t)] w (GrpEnd w0 w p a cap bs yo (grp1 bs yo x k)):=by
 have HWX:=ya (fun W=>zeL x f t W)
 have hto:=zaP (bs:=bs) (k:=k) yo h0 h1
 rw [<-nxt_3] at hto
 have hsm:=h.small
 have HN:=ya (fun (W:World) (hI:IsRd w0 W p a cap bs yo k)=>ze1 hI)
 obtain ⟨V,hV⟩:∃V,V=grp1 bs yo x k:=⟨_,rfl⟩
 rw [<-hV]
 unfold grp1 at hV
 generalize nxtV bs yo k=U at *
 obtain ⟨y,f2,t2,E⟩:=U
 simp only at hV hto HN
 have HWY:=ya (fun W=>zeL y f2 t2 W)
 have HV:=ya hV
 have HR:=ya h
 clear hV h
 unfold tokN at HWX HWY HN |-
 generalize zaD x=wx at *
 generalize zaD y=wy at *
 generalize x.kind=a0 at *
 generalize x.vk=a1 at *
 generalize x.vn=a2 at *
 generalize mkB x.vs=s1 at *
 generalize mkB x.s=s2 at *
 generalize y.kind=b0 at *
 generalize y.vk=b1 at *
 generalize y.vn=b2 at *
 generalize mkB y.vs=q1 at *
 generalize mkB y.s=q2 at *
 obtain ⟨B,hB⟩:∃B,B=w.heap.size:=⟨_,rfl⟩
 have HB1:=ya (zaT w (.cells #[.int .i64 a0,.int .i64 f,.int .i64 t,.int .i64 a1,.int .i64 a2,.string s1,.slice none 0 0,.string s2] 150) (.cells #[.int .i64 0,.slice none 0 0] 42))
 have HX1:=ya (zai (w:=w.alloc (.cells #[.int .i64 a0,.int .i64 f,.int .i64 t,.int .i64 a1,.int .i64 a2,.string s1,.slice none 0 0,.string s2] 150)) (.cells #[.int .i64 0,.slice none 0 0] 42) (zac (w:=w) (b:=B) (.cells #[.int .i64 a0,.int .i64 f,.int .i64 t,.int .i64 a1,.int .i64 a2,.string s1,.slice none 0 0,.string s2] 150) hB))
 have HZ1:=ya (zac (w:=w.alloc (.cells #[.int .i64 a0,.int .i64 f,.int .i64 t,.int .i64 a1,.int .i64 a2,.string s1,.slice none 0 0,.string s2] 150)) (b:=B+1) (.cells #[.int .i64 0,.slice none 0 0] 42) (by rw [zan,hB]))
 have HI1:=ya (HR.out.mono HB1.out)
 have HPR:=ya (show p≠B+1 by have:=HR.out.lt;omega)
 have HPB:=ya (show p≠B by have:=HR.out.lt;omega)
 have HRW:=ya (show w.heap.size<=B+1 by omega)
 have HR0:=ya (Nat.le_trans HR.out.bel.size HRW.out)
 have HK1:=ya (zar (S:=fun b=>b=p) HB1.out)
 go_enter Tryz.func80,Tryz.ntmps80
 go_upto_region 1 with fail
 try rw [<-hB]
 generalize World.alloc _ _=W1 at *
 clear hB
 generalize B+1=r at *
 obtain ⟨⟨x0,x1,x2,x3,x4,x5,x6,x7⟩,-⟩:=zao HX1.out
 obtain ⟨⟨z0,z1⟩,y0,y1⟩:=zax HZ1.out
 go_wp2_with fail
 refine (HWX.out _).mono ?_
 rintro e w2 ⟨rfl,hb2⟩
 have HX2:=ya (zaa hb2 HX1.out)
 have HZ2:=ya (zaa hb2 HZ1.out)
 have HI2:=ya (HI1.out.mono hb2)
 have HK2:=ya (zae.trans HK1.out (zar (S:=fun _=>False) hb2) (fun x h=>(by cases h)))
 clear HX1 HZ1 HI1 HK1 HB1 HWX hb2 x0 x1 x2 x3 x4 x5 x6 x7 z0 z1 y0 y1
 obtain ⟨⟨x0,x1,x2,x3,x4,x5,x6,x7⟩,-⟩:=zao HX2.out
 obtain ⟨⟨z0,z1⟩,y0,y1⟩:=zax HZ2.out
 cases wx
 case false =>
  have HV2:=ya (HV.out.trans (yf rfl))
  go_wp2
  refine yh (zab rfl _ _ r 42 _ (0,0) _ rfl (by exact zbM HZ2.out _ _) Tryz.underlying42 rfl (by exact zdq) _ rfl) rfl ?_
  exact grp_no HV2.out (by decide) ⟨_,HI2.out⟩ HK2.out HPR.out HR0.out HRW.out _ _
 have HV2:=ya (HV.out.trans (yg (by decide)))
 clear HV
 go_wp2_with fail
 refine (HN.out _ HI2.out).mono ?_
 rintro e w3 ⟨rfl,hi3,hk3⟩
 have HT3:=ya (zac (w:=w3) (b:=w3.heap.size) (.cells #[.int .i64 b0,.int .i64 f2,.int .i64 t2,.int .i64 b1,.int .i64 b2,.string q1,.slice none 0 0,.string q2] 150) rfl)
 have HX3:=ya (zai (.cells #[.int .i64 b0,.int .i64 f2,.int .i64 t2,.int .i64 b1,.int .i64 b2,.string q1,.slice none 0 0,.string q2] 150) (hk3.obj HX2.out (Ne.symm HPB.out)))
 have HZ3:=ya (zai (.cells #[.int .i64 b0,.int .i64 f2,.int .i64 t2,.int .i64 b1,.int .i64 b2,.string q1,.slice none 0 0,.string q2] 150) (hk3.obj HZ2.out (Ne.symm HPR.out)))
 have HI3:=ya (hi3.mono (zag w3 (.cells #[.int .i64 b0,.int .i64 f2,.int .i64 t2,.int .i64 b1,.int .i64 b2,.string q1,.slice none 0 0,.string q2] 150)))
 have HK3:=ya ((zae.trans HK2.out hk3 (fun x h=>.inl h)).alloc (.cells #[.int .i64 b0,.int .i64 f2,.int .i64 t2,.int .i64 b1,.int .i64 b2,.string q1,.slice none 0 0,.string q2] 150))
 have HTW:=ya (Nat.le_trans HK2.out.size hk3.size)
 have HTP:=ya (show p≠w3.heap.size by have:=hi3.lt;omega)
 have HTX:=ya (show r<w3.heap.size/\B<w3.heap.size from ⟨zaf (hk3.obj HZ2.out (Ne.symm HPR.out)),zaf (hk3.obj HX2.out (Ne.symm HPB.out))⟩)
 clear HX2 HZ2 HI2 HK2 hi3 hk3 HN x0 x1 x2 x3 x4 x5 x6 x7 z0 z1 y0 y1
 go_upto_region 4 with fail
 obtain ⟨T,hT⟩:∃T,T=w3.heap.size:=⟨_,rfl⟩
 rw [<-hT] at HT3 HTW HTP HTX |-
 clear hT
 generalize World.alloc _ _=W3 at *
 obtain ⟨⟨x0,x1,x2,x3,x4,x5,x6,x7⟩,-⟩:=zao HX3.out
 obtain ⟨⟨v0,v1,v2,v3,v4,v5,v6,v7⟩,-⟩:=zao HT3.out
 obtain ⟨⟨z0,z1⟩,y0,y1⟩:=zax HZ3.out
 by_cases hE:E=0
 case neg =>
  have HV3:=ya (HV2.out.trans (yf hE))
  have e0:(E==0)=false:=by rw [ye];exact hE
  have e1:(E != 0)=true:=by simp only [bne,e0,yi]
  have HE:=ya hE
  clear hE
  go_wp2
  refine yh (zab rfl _ _ r 42 _ (0,0) _ rfl (by exact zbM HZ3.out _ _) Tryz.underlying42 rfl (by exact zdq) _ rfl) rfl ?_
  exact grp_no HV3.out HE.out ⟨_,HI3.out⟩ HK3.out HPR.out HR0.out HRW.out _ _
 subst hE
 have HV3:=ya (HV2.out.trans (yg (by decide)))
 clear HV2
 rw [yf rfl] at HI3
 obtain ⟨N,hN⟩:∃N,N=b2.toNat:=⟨_,rfl⟩
 have HFT:=ya (fun W=>fits_any a2 b2 W)
 obtain ⟨fv,hfv⟩:∃fv,fv=zfo a2 b2:=⟨_,rfl⟩
 rw [<-hfv] at HFT HV3
 have HFV:=ya hfv
 clear hfv
 rw [<-hN] at HV3
 obtain ⟨Q,hQ⟩:∃Q,Q=zcM bs yo N t2.toNat []:=⟨_,rfl⟩
 rw [<-hQ] at HV3
 have HQ:=ya hQ
 have HNN:=ya hN
 clear hQ hN
 go_wp2_with fail
 refine (HWY.out _).mono ?_
 rintro e w4 ⟨rfl,hb4⟩
 have HX4:=ya (zaa hb4 HX3.out)
 have HT4:=ya (zaa hb4 HT3.out)
 have HZ4:=ya (zaa hb4 HZ3.out)
 have HI4:=ya (HI3.out.mono hb4)
 have HK4:=ya (zae.trans HK3.out (zar (S:=fun _=>False) hb4) (fun x h=>(by cases h)))
 clear HX3 HT3 HZ3 HI3 HK3 hb4 HWY x0 x1 x2 x3 x4 x5 x6 x7 v0 v1 v2 v3 v4 v5 v6 v7 z0 z1 y0 y1
 obtain ⟨⟨x0,x1,x2,x3,x4,x5,x6,x7⟩,-⟩:=zao HX4.out
 obtain ⟨⟨v0,v1,v2,v3,v4,v5,v6,v7⟩,-⟩:=zao HT4.out
 obtain ⟨⟨z0,z1⟩,y0,y1⟩:=zax HZ4.out
 cases wy
 case false =>
  have HV4:=ya (HV3.out.trans (yf (.inl rfl)))
  go_wp2
  refine yh (zab rfl _ _ r 42 _ (0,0) _ rfl (by exact zbM HZ4.out _ _) Tryz.underlying42 rfl (by exact zdq) _ rfl) rfl ?_
  exact grp_no HV4.out (by decide) ⟨_,HI4.out⟩ HK4.out HPR.out HR0.out HRW.out _ _
 cases fv
 case false =>
  have HV4:=ya (HV3.out.trans (yf (.inr rfl)))
  go_wp2_with (go_at_call 116;refine (HFT.out _).mono ?_;rintro e w5 ⟨rfl,rfl⟩)
  refine yh (zab rfl _ _ r 42 _ (0,0) _ rfl (by exact zbM HZ4.out _ _) Tryz.underlying42 rfl (by exact zdq) _ rfl) rfl ?_
  exact grp_no HV4.out (by decide) ⟨_,HI4.out⟩ HK4.out HPR.out HR0.out HRW.out _ _
 have HV4:=ya (HV3.out.trans (yg (by simp)))
 have hfb:0<=b2/\b2<=4097:=by
  have h:=HFV.out
  unfold zfo at h
  simp only [eq_comm (a:=true),Bool.and_eq_true,decide_eq_true_eq] at h
  omega
 have hb2N:b2=(N:Int):=by have:=HNN.out;omega
 subst hb2N
 have hN7:N<=4097:=by omega
 clear HV3 HFV HNN hfb
 go_upto_region 9 with (go_at_call 116;refine (HFT.out _).mono ?_;rintro e w5 ⟨rfl,rfl⟩)
 have HT5:=ya (zai (.cells #[.int .i64 a2,.slice none 0 0] 42) HT4.out)
 have HG5:=ya (show GrM (p:=p) w (w4.alloc (.cells #[.int .i64 a2,.slice none 0 0] 42)) r w4.heap.size a2 [] (.slice none 0 0) from ⟨zac _ rfl,zai _ HZ4.out,World.ownsRow_nil _ _ _ _,HK4.out.alloc _,HK4.out.size,Nat.ne_of_lt (zaf HZ4.out),fun e=>by have:=HI4.out.lt;omega⟩)
 have HI5:=ya (HI4.out.mono (zag w4 (.cells #[.int .i64 a2,.slice none 0 0] 42)))
 have HPW:=ya (show p<w.heap.size from HR.out.lt)
 have HWR0:=ya (Nat.le_trans HR.out.bel.size (ym _))
 generalize w4.heap.size=g at *
 generalize World.alloc _ _=W5 at *
 clear HX4 HT4 HZ4 HI4 HK4 x0 x1 x2 x3 x4 x5 x6 x7 v0 v1 v2 v3 v4 v5 v6 v7 z0 z1 y0 y1
 obtain ⟨⟨v0,v1,v2,v3,v4,v5,v6,v7⟩,-⟩:=zao HT5.out
 go_wp2_with fail
 clear v0 v1 v2 v3 v4 v5 v6 v7 HT5
 go_loopw [49] (fun v wr=>∃(c k2:Nat) (es:List Ent) (sv:Value),v=.int .i64 c/\c<=N/\k2<=bs.length/\Hid (es.length=c)/\Hid (IsRd w0 wr p a cap bs yo (k2:Int))/\Hid (GrM (p:=p) w wr r g a2 es sv)/\Hid (Q=zcM bs yo (N-c) k2 es)) (fun v _=>N-(intOf v).toNat)
 case atStart=>exact ⟨0,t2.toNat,[],.slice none 0 0,rfl,by omega,by omega,ya rfl,ya (by rw [Int.toNat_of_nonneg (by omega)];exact HI5.out),HG5,HQ⟩
 case round =>
  obtain ⟨c,k2,es,sv,rfl,hcN,hk2,HES,HI,HGM,HQR⟩:=hrel
  by_cases hlt:c<N
  ·have hcd:decide ((c:Int)<(N:Int))=true:=by simp;omega
   have hcd2:decide (c<N)=true:=by simp;omega
   have HEN:=ya (xentry_any HI.out hk2)
   obtain ⟨m,hm⟩:∃m,m+1=N-c:=⟨N-c-1,by omega⟩
   have HM:=ya hm
   have hQ1:=HQR.out
   rw [<-hm,zcM] at hQ1
   have htl:(entV bs yo k2).2.2=0->(entV bs yo k2).2.1<=bs.length:=fun h=>entV_le hk2 h
   generalize entV bs yo k2=Y at *
   obtain ⟨ee,kk,er⟩:=Y
   simp only at hQ1 htl
   have HQ1:=ya hQ1
   unfold EntEnd entA at HEN
   simp only at HEN
   have HEE:=ya (show entC ee=[.int .i64 ee.at_,.int .i64 ee.gen,.bool ee.used] from rfl)
   generalize ee.at_=ea at *
   generalize ee.gen=eg at *
   generalize ee.used=eu at *
   clear hm hQ1 HQR
   go_wp2_with fail
   refine HEN.out.mono ?_
   rintro e w6 ⟨rfl,⟨at2,hi6,hat⟩,hk6⟩
   have HE7:=ya (zac (w:=w6) (b:=w6.heap.size) (.cells #[.int .i64 ea,.int .i64 eg,.bool eu] 44) rfl)
   have HI7:=ya (hi6.mono (zag w6 (.cells #[.int .i64 ea,.int .i64 eg,.bool eu] 44)))
   have HG7:=ya ((HGM.out.on (Ne.symm HPR.out) HPW.out hk6).on (Ne.symm HPR.out) HPW.out (zar (zag w6 (.cells #[.int .i64 ea,.int .i64 eg,.bool eu] 44))))
   have HAT:=ya hat
   clear hi6 hk6 hat HEN HI HGM
   go_upto_region 12 with fail
   obtain ⟨z,hz⟩:∃z,z=w6.heap.size:=⟨_,rfl⟩
   rw [<-hz] at HE7 |-
   clear hz
   generalize w6.alloc _=W7 at *
   obtain ⟨⟨l0,l1,l2⟩,-⟩:=zbu HE7.out
   obtain ⟨⟨g0,g1⟩,gf0,gf1⟩:=zax HG7.out.blk
   obtain ⟨⟨z0,z1⟩,y0,y1⟩:=zax HG7.out.res
   by_cases her:er=0
   case neg =>
    have e0:(er==0)=false:=by rw [ye];exact her
    have e1:(er != 0)=true:=by simp only [bne,e0,yi]
    have HVF:=ya (HV4.out.trans (show _=((⟨0,[]⟩,0,er):Grp×Int×Int) by rw [HQ1.out,yf her];exact yf her))
    have HER:=ya her
    clear her HQ1 HAT htl
    go_wp2
    refine yh (zab rfl _ _ r 42 _ (0,0) _ rfl (by exact zbM HG7.out.res _ _) Tryz.underlying42 rfl (by exact zdq) _ rfl) rfl ?_
    exact grp_no HVF.out HER.out ⟨_,HI7.out⟩ HG7.out.kps HPR.out HR0.out HRW.out _ _
   subst her
   obtain ⟨sa,sc,rfl,-,-⟩:=zas HG7.out.own
   have hL:es.length<=4097:=by have:=HES.out;omega
   have hone:∀u∈[Value.int .i64 ea,.int .i64 eg,.bool eu],u.oneCell'=true:=by
    intro u hu
    simp at hu
    rcases hu with rfl|rfl|rfl<;>rfl
   have HONE:=ya hone
   have HQ2:=ya (HQ1.out.trans (yg (by decide)))
   have HKK:=ya (htl rfl)
   clear hone HQ1 htl
   go_wp2_with (at_builtin;go_loud (refine zdC EEnt rfl (.tmp 61) (.tmp 63) rfl w.heap.size _ es.length _ rfl (HG7.out.own.alloc _) _ 1 _ rfl (zgh _ #[.int .i64 ea,.int .i64 eg,.bool eu] _ 3 rfl rfl) HONE.out (by unfold maxLen;omega) (by omega) (by rw [zan];have:=HG7.out.kps.size;omega) ?_);intro v' w8 hO8 hg8 hn8;obtain ⟨va,vc,rfl,-,-⟩:=zas hO8;have HG8:=ya (HG7.out.app hg8 (by rw [HEE.out];exact hO8));have HI8:=ya (((HI7.out.mono (zag _ _)).grown hg8 (fun b hb=>⟨fun e=>by have:=(HG7.out.own.lt b hb).1;have:=HPW.out;omega,Nat.le_trans HR.out.bel.size (HG7.out.own.lt b hb).1⟩)).set (r:=g) (Ne.symm HG7.out.gne.2.2) (Nat.le_trans HR.out.bel.size HG7.out.gne.1) 1 (.slice va (es.length+1) vc));obtain ⟨⟨q0,q1⟩,qf0,qf1⟩:=zax (HG7.out.atG hg8);clear hO8 hg8 hn8)
   go_roundw
   case rel=>exact ⟨c+1,kk,es++[ee],_,by go_num,by omega,HKK.out,ya (by rw [List.length_append,HES.out];rfl),by rw [<-HAT.out rfl];exact HI8,HG8,ya (by rw [HQ2.out,show N-(c+1)=m by have:=HM.out;omega])⟩
   case measure=>simp [intOf];omega
  ·have hce:c=N:=by omega
   subst hce
   have hcd:decide ((c:Int)<(c:Int))=false:=yd (by omega)
   have hcd2:decide (c<c)=false:=yd (by omega)
   have HQ2:=ya (HQR.out.trans (show zcM bs yo (c-c) k2 es=(es,k2,0) by rw [Nat.sub_self];rfl))
   have HVF:=ya (HV4.out.trans (show _=((⟨a2,es⟩,k2,0):Grp×Int×Int) by rw [HQ2.out];exact yg (fun h=>h rfl)))
   obtain ⟨⟨g0,g1⟩,gf0,gf1⟩:=zax HGM.out.blk
   obtain ⟨⟨z0,z1⟩,y0,y1⟩:=zax HGM.out.res
   obtain ⟨sa,sc,hsv,-,-⟩:=zas HGM.out.own
   subst hsv
   go_wp2
   refine yh (zab rfl _ _ r 42 _ (0,0) _ rfl (by exact zbM HGM.out.res _ _) Tryz.underlying42 rfl (by exact zdq) _ rfl) rfl ?_
   rw [HVF.out]
   refine ⟨_,rfl,?_,⟨_,HI.out.set2r HPR.out HR0.out _ _,fun _=>rfl⟩,zfX HGM.out.kps HRW.out _ _⟩
   exact HGM.out.fin _ _
end
structure FlM (w:World) (a:Option Addr) (cap:Nat) (bs:List UInt8) (ka:Option Addr) (kc:Nat) (kn:List Bool):Prop where
 row:Row w 1 a bs.length cap (bs.map u8C)
 kno:Row w 1 ka kn.length kc (kn.map Value.bool)
 len:kn.length=bs.length
theorem FlM.mono {w w':World} {a:Option Addr} {cap:Nat} {bs:List UInt8} {ka:Option Addr} {kc:Nat} {kn:List Bool} (h:FlM w a cap bs ka kc kn) (hb:Below w.heap.size w w'):FlM w' a cap bs ka kc kn:=⟨h.row.mono hb,h.kno.mono hb,h.len⟩
def FromEnd (w:World) (bs:List UInt8) (kn:List Bool) (k:Nat) (e:Ending) (w':World):Prop :=
 ∃a c,e=.returned (.tuple #[.slice a ((bs.drop k).take (zaQ kn k-k)).length c,.bool (zaQ kn k==bs.length)])/\Row w' 1 a ((bs.drop k).take (zaQ kn k-k)).length c (((bs.drop k).take (zaQ kn k-k)).map u8C)/\Below w.heap.size w w'
theorem grps_err {bs:List UInt8} {yo:Bool} {g:Nat} {gs:List Grp} {k:Int} (he:(nxtV bs yo k).2.2.2≠0):zbC bs yo (g+1) gs k=([],0,(nxtV bs yo k).2.2.2):=by
 unfold zbC;simp only;rw [yf he]
theorem zfR {bs:List UInt8} {yo:Bool} {g:Nat} {gs:List Grp} {k:Int} (he:(nxtV bs yo k).2.2.2=0) (ht:zdX (nxtV bs yo k).1=true):zbC bs yo (g+1) gs k=(gs,(nxtV bs yo k).2.2.1,0):=by
 unfold zbC;simp only;rw [yg (by rw [he];decide),yf ht]
theorem grps_bad {bs:List UInt8} {yo:Bool} {g:Nat} {gs:List Grp} {k:Int} (he:(nxtV bs yo k).2.2.2=0) (ht:zdX (nxtV bs yo k).1=false) (hw:zaD (nxtV bs yo k).1=false):zbC bs yo (g+1) gs k=([],0,20):=by
 unfold zbC;simp only;rw [yg (by rw [he];decide),yg (by rw [ht];decide),yf hw]
theorem grps_full {bs:List UInt8} {yo:Bool} {g:Nat} {gs:List Grp} {k:Int} (he:(nxtV bs yo k).2.2.2=0) (ht:zdX (nxtV bs yo k).1=false) (hw:zaD (nxtV bs yo k).1=true) (hl:gs.length=64) :
  zbC bs yo (g+1) gs k=([],0,if (nxtV bs yo (nxtV bs yo k).2.2.1).2.2.2≠0 then (nxtV bs yo (nxtV bs yo k).2.2.1).2.2.2 else 20):=by
 unfold zbC;simp only
 rw [yg (by rw [he];decide),yg (by rw [ht];decide),yg (by rw [hw];decide)]
 split
 ·rfl
 ·rw [yf (.inr (.inl hl))]
theorem grps_step {bs:List UInt8} {yo:Bool} {g:Nat} {gs:List Grp} {k:Int} (he:(nxtV bs yo k).2.2.2=0) (ht:zdX (nxtV bs yo k).1=false) (hl:gs.length≠64) :
  zbC bs yo (g+1) gs k=if (grp1 bs yo (nxtV bs yo k).1 (nxtV bs yo k).2.2.1).2.2≠0 then ([],0,(grp1 bs yo (nxtV bs yo k).1 (nxtV bs yo k).2.2.1).2.2)
   else zbC bs yo g (gs++[(grp1 bs yo (nxtV bs yo k).1 (nxtV bs yo k).2.2.1).1]) (grp1 bs yo (nxtV bs yo k).1 (nxtV bs yo k).2.2.1).2.1:=by
 conv=>lhs;unfold zbC
 simp only
 rw [yg (by rw [he];decide),yg (by rw [ht];decide)]
 unfold grp1
 generalize nxtV bs yo (nxtV bs yo k).2.2.1=u
 generalize nxtV bs yo k=t
 by_cases hw:zaD t.1=false
 ·simp [hw]
 rw [yg hw,yg hw]
 by_cases hu:u.2.2.2≠0
 ·rw [yf hu,yf hu]
  simp [hu]
 rw [yg hu,yg hu]
 by_cases hf:zaD u.1=false\/zfo t.1.vn u.1.vn=false
 ·rw [yf (hf.imp id fun h=>.inr h),yf hf]
  simp
 rw [yg (fun h=>h.elim (fun a=>hf (.inl a)) (fun b=>b.elim hl (fun c=>hf (.inr c)))),yg hf]
 by_cases hq:(zcM bs yo u.1.vn.toNat u.2.2.1.toNat []).2.2≠0
 ·rw [yf hq,yf hq]
  simp [hq]
 ·rw [yg hq,yg hq]
  simp
theorem grp1_le {bs:List UInt8} {yo:Bool} {x:Tk} {k:Int} (h0:0<=k) (h1:k<=bs.length):0<=(grp1 bs yo x k).2.1/\(grp1 bs yo x k).2.1<=bs.length:=by
 have hto:=zaP (bs:=bs) (k:=k) yo h0 h1
 rw [<-nxt_3] at hto
 have hen:∀(m a:Nat) (l:List Ent),a<=bs.length->(zcM bs yo m a l).2.1<=bs.length:=by
  intro m
  induction m with
  | zero=>intro a l h;exact h
  | succ m ih =>
   intro a l h
   rw [zcM]
   split
   ·exact Nat.zero_le _
   ·rename_i he
    exact ih _ _ (entV_le h (by simpa using he))
 unfold grp1
 split
 ·exact ⟨Int.le_refl _,by show (0:Int)<=_;omega⟩
 split
 ·exact ⟨Int.le_refl _,by show (0:Int)<=_;omega⟩
 split
 ·exact ⟨Int.le_refl _,by show (0:Int)<=_;omega⟩
 split
 ·exact ⟨Int.le_refl _,by show (0:Int)<=_;omega⟩
 ·have:=hen (nxtV bs yo k).1.vn.toNat (nxtV bs yo k).2.2.1.toNat [] (by omega)
  exact ⟨by show (0:Int)<=((_:Nat):Int);omega,by show ((_:Nat):Int)<=_;omega⟩
theorem EGrp:zdM Tryz.prog 24 42 (.agg #[.int .i64 0,.slice none 0 0]) 2 32:=⟨Tryz.underlying24,by kernel_rfl,rfl,by omega⟩
theorem trail_iff (x:Tk):zdX x=(x.kind==6&&decide (x.s=[116,114,97,105,108,101,114])):=by
 unfold zdX
 congr 1
 by_cases h:x.s=[116,114,97,105,108,101,114]<;>simp [h]
theorem zb8 (W:World) (o:Obj) {b:Nat} (hb:b<W.heap.size):(W.alloc o).heap[b]?=W.heap[b]?:=(zag W o).block b hb
structure GsM (w W:World) (p:Nat) (gs:List Grp) (cs:List Value) (v:Value):Prop where
 own:W.ownsRow w.heap.size 42 2 v gs.length cs
 hold:IsGs W (fun b=>w.heap.size<=b/\v.ownBlock≠some b) gs cs
 kps:zae (fun b=>b=p) w W
theorem GsM.on {w W W':World} {p:Nat} {gs:List Grp} {cs:List Value} {v:Value} (h:GsM w W p gs cs v) (hp:p<w.heap.size) (hk:zae (fun b=>b=p) W W'):GsM w W' p gs cs v :=
 ⟨zaA h.own fun b hb=>hk.block b (h.own.lt b hb).2 (by have:=(h.own.lt b hb).1;omega),h.hold.keep ⟨hk.size,fun b hb hF=>hk.block b hb (by have:=hF.1;omega)⟩ (fun _ h=>h),h.kps.trans hk (fun x hx=>.inl hx)⟩
theorem GsM.fin {w W:World} {p:Nat} {gs:List Grp} {cs:List Value} {v:Value} (h:GsM w W p gs cs v):IsG W (fun b=>w.heap.size<=b) gs v:=by
 obtain ⟨a,cap,e,-,-⟩:=zas h.own
 subst e
 exact ⟨a,cap,cs,rfl,(Row.of_own h.own).2,fun h0 x hx=>(h.own.lt x.block (by rw [hx];rfl)).1,h.hold.keep (zay.refl _ _) (fun b hb=>hb.1)⟩
theorem GsM.app {w W W8:World} {p:Nat} {o:Obj} {gs:List Grp} {cs:List Value} {v v':Value} (h:GsM w W p gs cs v) (hg8:(W.alloc o).grownBy W8 v.ownBlock) {n:Int} {es:List Ent} {sv:Value} {B:Nat} (he:IsE W (fun b=>B<=b) es sv) (hB:w.heap.size<=B) (hv:∀b,v.ownBlock=some b->b<B) (_hBW:B<=W.heap.size)
  (hO:W8.ownsRow w.heap.size 42 2 v' (gs.length+1) (cs++[.int .i64 n,sv])) (hn:∀b,v'.ownBlock=some b->v.ownBlock=some b\/(W.alloc o).heap.size<=b):GsM w W8 p (gs++[⟨n,es⟩]) (cs++[.int .i64 n,sv]) v':=by
 have hst:zay (fun b=>v.ownBlock≠some b/\b<W.heap.size) W W8:=⟨by have:=hg8.size;rw [zan] at this;omega,fun b hb hF=>by
  rw [hg8.block b (by rw [zan];omega) (fun e=>hF.1 e.symm)]
  exact (zb8 W o hb)⟩
 refine ⟨by rw [List.length_append];exact hO,?_,(h.kps.alloc o).grown hg8 (fun k hk=>.inr (h.own.lt k hk).1)⟩
 have hnew:∀b,b<W.heap.size->v.ownBlock≠some b->v'.ownBlock≠some b:=fun b hb hne e=>by
  rcases hn b e with h1|h1
  ·exact hne h1
  ·rw [zan] at h1;omega
 have lt_e:∀ {es:List Ent} {sv:Value} {F:Nat->Prop},IsE W F es sv->IsE W (fun b=>F b/\b<W.heap.size) es sv:=fun {es sv F} h=>by
  obtain ⟨a,cap,e,hr,hF⟩:=h
  exact ⟨a,cap,e,hr,fun h0 x hx=>⟨hF h0 x hx,hr.lt h0 x hx⟩⟩
 have lt_g:∀ {gs:List Grp} {cs:List Value} {F:Nat->Prop},IsGs W F gs cs->IsGs W (fun b=>F b/\b<W.heap.size) gs cs:=fun {gs}=>by
  induction gs with
  | nil=>exact fun h=>h
  | cons g gs ih=>exact fun ⟨v,t,e,h1,h2⟩=>⟨v,t,e,lt_e h1,ih h2⟩
 refine IsGs.snoc ?_ ?_
 ·have h2:=(lt_g h.hold)
  have h3:IsGs W8 (fun b=>(w.heap.size<=b/\v.ownBlock≠some b)/\b<W.heap.size) gs cs:=h2.keep ⟨hst.1,fun b hb hF=>hst.2 b hb ⟨hF.1.2,hF.2⟩⟩ (fun _ h=>h)
  exact h3.keep (zay.refl _ _) (fun b hb=>⟨hb.1.1,hnew b hb.2 hb.1.2⟩)
 ·have h2:IsE W (fun b=>B<=b/\b<W.heap.size) es sv:=lt_e he
  have hne:∀b,B<=b->v.ownBlock≠some b:=fun b hb e=>by have:=hv b e;omega
  have h3:IsE W8 (fun b=>B<=b/\b<W.heap.size) es sv:=h2.keep ⟨hst.1,fun b hb hF=>hst.2 b hb ⟨hne b hF.1,hF.2⟩⟩ (fun _ h=>h)
  exact h3.keep (zay.refl _ _) (fun b hb=>⟨Nat.le_trans hB hb.1,hnew b hb.2 (hne b hb.1)⟩)
section
variable {w0 w : World} {p : Nat} {a : Option Addr} {cap : Nat} {bs : List UInt8} {yo : Bool}
def GsEnd (w0 w:World) (p:Nat) (a:Option Addr) (cap:Nat) (bs:List UInt8) (yo:Bool) (V:List Grp×Int×Int) (e:Ending) (w':World):Prop :=
 ∃v,e=.returned (.tuple #[v,.int .i64 V.2.2])/\IsG w' (fun b=>w.heap.size<=b) V.1 v/\(∃at2:Int,IsRd w0 w' p a cap bs yo at2/\(V.2.2=0->at2=V.2.1))/\zae (fun b=>b=p) w w'
theorem gs_no {V:List Grp×Int×Int} {W:World} {e:Int} (hV:V=([],0,e)) (he:e≠0) (hI:∃at2:Int,IsRd w0 W p a cap bs yo at2) (hk:zae (fun b=>b=p) w W):GsEnd w0 w p a cap bs yo V (.returned (.tuple #[.slice none 0 0,.int .i64 e])) W:=by
 subst hV
 obtain ⟨at2,hI⟩:=hI
 exact ⟨_,rfl,IsG.nil _ _,⟨at2,hI,fun h=>absurd h he⟩,hk⟩
def lenV:Value->Nat | .slice _ n _=>n|_=>0
theorem xgroups_any {k:Int} (h:IsRd w0 w p a cap bs yo k) (h0:0<=k) (h1:k<=bs.length):Calls Tryz.prog 44 #[.pointer (some ⟨p,0,none⟩)] w (GsEnd w0 w p a cap bs yo (zbC bs yo 65 [] k)):=by
 have hsm:=h.small
 have HPW:=ya (show p<w.heap.size from h.lt)
 obtain ⟨R,hR⟩:∃R,R=zbC bs yo 65 [] k:=⟨_,rfl⟩
 rw [<-hR]
 have HRR:=ya hR
 have HR:=ya h
 clear h hR
 go_enter Tryz.func44,Tryz.ntmps44
 go_wp2
 go_loopw [4] (fun v wr=>∃(gs:List Grp) (k2:Int) (cs:List Value),gs.length<=64/\0<=k2/\k2<=bs.length/\Hid (IsRd w0 wr p a cap bs yo k2)/\Hid (GsM w wr p gs cs v)/\Hid (R=zbC bs yo (65-gs.length) gs k2)) (fun v _=>65-lenV v)
 case atStart=>exact ⟨[],k,[],by simp,h0,h1,HR,ya ⟨World.ownsRow_nil _ _ _ _,rfl,zae.refl _ _⟩,HRR⟩
 case round =>
  obtain ⟨gs,k2,cs,hgl,hk0,hk1,HI,HGM,HQ⟩:=hrel
  obtain ⟨sa,sc,rfl,-,-⟩:=zas HGM.out.own
  have HN:=ya (ze1 HI.out)
  have hto:=zaP (bs:=bs) (k:=k2) yo hk0 hk1
  rw [<-nxt_3] at hto
  obtain ⟨m,hm⟩:∃m,m+1=65-gs.length:=⟨64-gs.length,by omega⟩
  have hQ:=HQ.out
  rw [<-hm] at hQ
  have HM:=ya hm
  have HQE:=ya (fun he=>hQ.trans (grps_err he))
  have HQT:=ya (fun he ht=>hQ.trans (zfR he ht))
  have HQB:=ya (fun he ht hw=>hQ.trans (grps_bad he ht hw))
  have HQF:=ya (fun he ht hw hl=>hQ.trans (grps_full he ht hw hl))
  have HQS:=ya (fun he ht hl=>hQ.trans (grps_step he ht hl))
  have HN2:=ya (fun (W:World) (hI:IsRd w0 W p a cap bs yo (nxtV bs yo k2).2.2.1)=>ze1 hI)
  have HGR:=ya (fun (W:World) (hI:IsRd w0 W p a cap bs yo (nxtV bs yo k2).2.2.1)=>xgroup_any hI (by omega) hto.2 (nxtV bs yo k2).1 (nxtV bs yo k2).2.1 (nxtV bs yo k2).2.2.1)
  have HGL:=ya (grp1_le (bs:=bs) (yo:=yo) (x:=(nxtV bs yo k2).1) (k:=(nxtV bs yo k2).2.2.1) (by omega) hto.2)
  have HGB:=ya (fun (h:zaD (nxtV bs yo k2).1=false)=>show (grp1 bs yo (nxtV bs yo k2).1 (nxtV bs yo k2).2.2.1).2.2=20 by unfold grp1;rw [yf h])
  have HTI:=ya (trail_iff (nxtV bs yo k2).1)
  have HWX:=ya (fun W=>zeL (nxtV bs yo k2).1 (nxtV bs yo k2).2.1 (nxtV bs yo k2).2.2.1 W)
  have HSQ:=ya (zcQ (nxtV bs yo k2).1.s [116,114,97,105,108,101,114])
  clear hm hQ HQ
  generalize nxtV bs yo k2=U at *
  obtain ⟨x,f,t,E⟩:=U
  simp only at hto HN HQE HQT HQB HQF HQS HN2 HGR HGL HTI HWX HSQ
  generalize nxtV bs yo t=U2 at *
  obtain ⟨y,f2,t2,E2⟩:=U2
  generalize grp1 bs yo x t=G at *
  obtain ⟨⟨gn,ge⟩,gk,gr⟩:=G
  unfold GrpEnd at HGR
  simp only at HQF HQS HN2 HGR HGL HGB
  unfold tokN at HN HN2 HWX HGR
  obtain ⟨tr,htr⟩:∃tr,tr=decide (x.s=[116,114,97,105,108,101,114]):=⟨_,rfl⟩
  rw [<-htr] at HTI HSQ
  rw [HTI.out] at HQT HQB HQF HQS
  clear htr HTI
  generalize zaD x=wx at *
  generalize x.kind=a0 at *
  generalize x.vk=a1 at *
  generalize x.vn=a2 at *
  generalize mkB x.vs=s1 at *
  generalize mkB x.s=s2 at *
  generalize y.kind=b0 at *
  generalize y.vk=b1 at *
  generalize y.vn=b2 at *
  generalize mkB y.vs=q1 at *
  generalize mkB y.s=q2 at *
  go_wp2_with fail
  refine HN.out.mono ?_
  rintro e w3 ⟨rfl,hi3,hk3⟩
  have HT3:=ya (zac (w:=w3) (b:=w3.heap.size) (.cells #[.int .i64 a0,.int .i64 f,.int .i64 t,.int .i64 a1,.int .i64 a2,.string s1,.slice none 0 0,.string s2] 150) rfl)
  have HI3:=ya (hi3.mono (zag w3 (.cells #[.int .i64 a0,.int .i64 f,.int .i64 t,.int .i64 a1,.int .i64 a2,.string s1,.slice none 0 0,.string s2] 150)))
  have HG3:=ya ((HGM.out.on HPW.out hk3).on HPW.out (zar (zag w3 (.cells #[.int .i64 a0,.int .i64 f,.int .i64 t,.int .i64 a1,.int .i64 a2,.string s1,.slice none 0 0,.string s2] 150))))
  have HTP:=ya (show w3.heap.size≠p by have:=hi3.lt;omega)
  clear hi3 hk3 HN HI HGM
  go_upto_region 3 with fail
  obtain ⟨T,hT⟩:∃T,T=w3.heap.size:=⟨_,rfl⟩
  rw [<-hT] at HT3 HTP |-
  clear hT
  generalize World.alloc _ _=W3 at *
  obtain ⟨⟨v0,v1,v2,v3,v4,v5,v6,v7⟩,-⟩:=zao HT3.out
  by_cases hE:E=0
  case neg =>
   have HV3:=ya (HQE.out hE)
   have e0:(E==0)=false:=by rw [ye];exact hE
   have e1:(E != 0)=true:=by simp only [bne,e0,yi]
   have HE:=ya hE
   clear hE
   go_wp2
   go_ret2
   exact gs_no HV3.out HE.out ⟨_,HI3.out⟩ HG3.out.kps
  subst hE
  rw [yf rfl] at HI3
  have hsq:=HSQ.out
  obtain ⟨k6,hk6⟩:∃k6,k6=(a0==6):=⟨_,rfl⟩
  rw [<-hk6] at HQT HQB HQF HQS
  have HK6:=ya hk6
  obtain ⟨tb,htb⟩:∃tb,tb=(k6&&tr):=⟨_,rfl⟩
  rw [<-htb] at HQT HQB HQF HQS
  have HTB:=ya htb
  clear htb hk6
  go_upto_region 5 with fail
  go_cut [27] from 10 to 59 (fun v wx=>v=.bool tb/\wx=W3)
  case first =>
   clear HQT HQB HQF HQS HN2 HGR HGL HGB
   cases k6
   ·have e6:=HK6.out.symm
    obtain rfl:tb=false:=HTB.out
    go_wp2_with fail
    go_meet
    exact ⟨rfl,rfl⟩
   ·have e6:=HK6.out.symm
    obtain rfl:tb=tr:=HTB.out
    go_wp2_with fail
    go_meet
    exact ⟨rfl,rfl⟩
  case rest =>
  obtain ⟨rfl,hw⟩:=hcut
  subst hw
  clear hsq HSQ HK6 HTB
  cases tb
  case true =>
   have HV3:=ya (HQT.out rfl rfl)
   clear HQT HQB HQF HQS HN2 HGR HGL HGB v0 v1 v2 v3 v4 v5 v6 v7
   go_wp2
   go_ret2
   rw [HV3.out]
   exact ⟨_,rfl,HG3.out.fin,⟨_,HI3.out,fun _=>rfl⟩,HG3.out.kps⟩
  have HQB2:=ya (HQB.out rfl rfl)
  have HQF2:=ya (HQF.out rfl rfl)
  have HQS2:=ya (HQS.out rfl rfl)
  clear HQT HQB HQF HQS
  obtain ⟨fb,hfb⟩:∃fb,fb=(decide (gs.length=64)&&wx):=⟨_,rfl⟩
  have HFB:=ya hfb
  clear hfb
  go_upto_region 7 with fail
  go_cut [35] from 10 to 59 (fun v wx=>v=.bool fb/\Hid (IsRd w0 wx p a cap bs yo t)/\Hid (GsM w wx p gs cs (.slice sa gs.length sc))/\Hid (wx.heap[T]?=some (.cells #[.int .i64 a0,.int .i64 f,.int .i64 t,.int .i64 a1,.int .i64 a2,.string s1,.slice none 0 0,.string s2] 150 (0,0))))
  case first =>
   clear HQB2 HQF2 HQS2 HN2 HGR HGL HGB
   by_cases h64:gs.length=64
   ·obtain rfl:fb=wx:=by rw [HFB.out,yb h64,Bool.true_and]
    have hd64:((gs.length:Int)==64)=true:=by rw [beq_iff_eq];omega
    have hd64n:(gs.length==64)=true:=by rw [beq_iff_eq];exact h64
    clear h64
    go_wp2_with (go_at_call 79;refine (HWX.out _).mono ?_;rintro e w4 ⟨rfl,hb4⟩;have HI4:=ya (HI3.out.mono hb4);have HG4:=ya (HG3.out.on HPW.out (zar hb4));have HT4:=ya (zaa hb4 HT3.out))
    go_meet
    exact ⟨rfl,HI4,HG4,HT4⟩
   ·obtain rfl:fb=false:=by rw [HFB.out,yd h64,Bool.false_and]
    have hd64:((gs.length:Int)==64)=false:=by rw [ye];omega
    have hd64n:(gs.length==64)=false:=by rw [ye];exact h64
    go_wp2_with fail
    go_meet
    exact ⟨rfl,HI3,HG3,HT3⟩
  case rest =>
  obtain ⟨rfl,HI4,HG4,HT4⟩:=hcut
  clear HI3 HG3 HT3 v0 v1 v2 v3 v4 v5 v6 v7 HWX
  obtain ⟨⟨v0,v1,v2,v3,v4,v5,v6,v7⟩,-⟩:=zao HT4.out
  cases fb
  case true =>
   have h64:gs.length=64/\wx=true:=by have:=HFB.out;simpa using this.symm
   have HVF:=ya (HQF2.out h64.2 h64.1)
   clear HQB2 HQS2 HQF2 HGR HGL HGB HFB h64
   go_wp2_with fail
   refine (HN2.out _ HI4.out).mono ?_
   rintro e w5 ⟨rfl,hi5,hk5⟩
   have HI5:=ya (hi5.mono (zag w5 (.cells #[.int .i64 b0,.int .i64 f2,.int .i64 t2,.int .i64 b1,.int .i64 b2,.string q1,.slice none 0 0,.string q2] 150)))
   have HG5:=ya ((HG4.out.on HPW.out hk5).on HPW.out (zar (zag w5 (.cells #[.int .i64 b0,.int .i64 f2,.int .i64 t2,.int .i64 b1,.int .i64 b2,.string q1,.slice none 0 0,.string q2] 150))))
   have HT5:=ya (zac (w:=w5) (b:=w5.heap.size) (.cells #[.int .i64 b0,.int .i64 f2,.int .i64 t2,.int .i64 b1,.int .i64 b2,.string q1,.slice none 0 0,.string q2] 150) rfl)
   clear hi5 hk5 HN2 HI4 HG4 HT4 v0 v1 v2 v3 v4 v5 v6 v7
   go_upto_region 9 with fail
   generalize w5.heap.size=T5 at *
   generalize World.alloc _ _=W5 at *
   obtain ⟨⟨v0,v1,v2,v3,v4,v5,v6,v7⟩,-⟩:=zao HT5.out
   by_cases hE2:E2=0
   ·subst hE2
    rw [yg (by decide)] at HVF
    go_wp2
    go_ret2
    exact gs_no HVF.out (by decide) ⟨_,HI5.out⟩ HG5.out.kps
   ·have e0:(E2==0)=false:=by rw [ye];exact hE2
    have e1:(E2 != 0)=true:=by simp only [bne,e0,yi]
    have HE2:=ya hE2
    rw [yf hE2] at HVF
    clear hE2
    go_wp2
    go_ret2
    exact gs_no HVF.out HE2.out ⟨_,HI5.out⟩ HG5.out.kps
  have HGE:=ya (show gr≠0->R=([],0,gr) from fun h=>by
   by_cases h64:gs.length=64
   ·have hwx:wx=false:=by have:=HFB.out;rw [yb h64,Bool.true_and] at this;exact this.symm
    rw [HQB2.out hwx,HGB.out hwx]
   ·have:=HQS2.out h64
    rw [yf h] at this
    exact this)
  have HGO:=ya (show gr=0->gs.length≠64/\R=zbC bs yo m (gs++[⟨gn,ge⟩]) gk from fun h=>by
   by_cases h64:gs.length=64
   ·have hwx:wx=false:=by have:=HFB.out;rw [yb h64,Bool.true_and] at this;exact this.symm
    have:=HGB.out hwx
    rw [h] at this
    cases this
   ·have:=HQS2.out h64
    rw [yg (by rw [h];decide)] at this
    exact ⟨h64,this⟩)
  clear HQB2 HQF2 HQS2 HGB HFB HN2
  go_wp2_with fail
  refine (HGR.out _ HI4.out).mono ?_
  rintro e w6 ⟨gv,rfl,hie,⟨at2,hi6,hat⟩,hk6⟩
  have HG6:=ya (HG4.out.on HPW.out hk6)
  have HVB:=ya (show ∀b,Value.ownBlock (.slice sa gs.length sc)=some b->b<wc.heap.size from fun b hb=>(HG4.out.own.lt b hb).2)
  have HWW:=ya (show w.heap.size<=wc.heap.size/\wc.heap.size<=w6.heap.size from ⟨HG4.out.kps.size,hk6.size⟩)
  obtain ⟨va,vc,rfl,-,-⟩:=hie.len
  have HI7:=ya (hi6.mono (zag w6 (.cells #[.int .i64 gn,.slice va ge.length vc] 42)))
  have HG7:=ya (HG6.out.on HPW.out (zar (zag w6 (.cells #[.int .i64 gn,.slice va ge.length vc] 42))))
  have HE7:=ya (hie.below (zag w6 (.cells #[.int .i64 gn,.slice va ge.length vc] 42)))
  have HZ7:=ya (zac (w:=w6) (b:=w6.heap.size) (.cells #[.int .i64 gn,.slice va ge.length vc] 42) rfl)
  have HAT:=ya hat
  have HWS:=ya (zan w6 (.cells #[.int .i64 gn,.slice va ge.length vc] 42))
  clear hie hi6 hat hk6 HG4 HI4 HT4 HGR HG6 v0 v1 v2 v3 v4 v5 v6 v7
  go_upto_region 14 with fail
  obtain ⟨z,hz⟩:∃z,z=w6.heap.size:=⟨_,rfl⟩
  rw [<-hz] at HZ7 HWW HWS |-
  clear hz
  generalize w6.alloc _=W7 at *
  obtain ⟨⟨z0,z1⟩,-⟩:=zax HZ7.out
  by_cases hgr:gr=0
  case neg =>
   have HVF:=ya (HGE.out hgr)
   have e0:(gr==0)=false:=by rw [ye];exact hgr
   have e1:(gr != 0)=true:=by simp only [bne,e0,yi]
   have HE2:=ya hgr
   clear hgr
   go_wp2
   go_ret2
   exact gs_no HVF.out HE2.out ⟨_,HI7.out⟩ HG7.out.kps
  subst hgr
  obtain ⟨h64,hRQ⟩:=HGO.out rfl
  have hL:gs.length<=63:=by omega
  have HRQ:=ya hRQ
  have hone:∀u∈[Value.int .i64 gn,.slice va ge.length vc],u.oneCell'=true:=by
   intro u hu
   simp at hu
   rcases hu with rfl|rfl<;>rfl
  have HONE:=ya hone
  have HKK:=ya HGL.out
  clear hone h64 hRQ HGO HGE HGL
  go_wp2_with (at_builtin;go_loud (refine zdC EGrp rfl (.tmp 56) (.tmp 58) rfl w.heap.size _ gs.length _ rfl (HG7.out.own.alloc _) _ 1 _ rfl (zgh _ #[.int .i64 gn,.slice va ge.length vc] _ 2 rfl rfl) HONE.out (by unfold maxLen;omega) (by omega) (by rw [zan];have:=HG7.out.kps.size;omega) ?_);intro v' w8 hO8 hg8 hn8;obtain ⟨ua,uc,rfl,-,-⟩:=zas hO8;have HG8:=ya (HG7.out.app hg8 HE7.out HWW.out.1 HVB.out (by have:=HWW.out.2;have:=HWS.out;omega) hO8 hn8);have HI8:=ya ((HI7.out.mono (zag _ _)).grown hg8 (fun b hb=>⟨fun e=>by have:=(HG7.out.own.lt b hb).1;have:=HPW.out;omega,Nat.le_trans HR.out.bel.size (HG7.out.own.lt b hb).1⟩));clear hO8 hg8 hn8)
  go_roundw
  case rel=>exact ⟨gs++[⟨gn,ge⟩],gk,_,by rw [List.length_append];simp;omega,HKK.out.1,HKK.out.2,by rw [<-HAT.out rfl];exact HI8,HG8,ya (by rw [HRQ.out,List.length_append,show 65-(gs.length+[(⟨gn,ge⟩:Grp)].length)=m by have:=HM.out;simp;omega])⟩
  case measure=>simp [lenV];omega
end
def pk:List Int->List UInt8
 | a::b::t=>UInt8.ofNat (16*a+b).toNat::pk t
 | _=>[]
theorem pk_append:∀(n:Nat) (l m:List Int),l.length=2*n->pk (l++m)=pk l++pk m
 | 0,l,m,h=>by
  obtain rfl:l=[]:=List.eq_nil_of_length_eq_zero (by omega)
  rfl
 | n+1,l,m,h=>by
  rcases l with _|⟨a,_|⟨b,t⟩⟩
  ·simp at h
  ·simp at h;omega
  ·simp only [List.cons_append,pk]
   rw [pk_append n t m (by simp at h;omega)]
structure DgP (ds:List Int) (out:List UInt8) (half:Int):Prop where
 bd:∀d∈ds,0<=d/\d<=15
 form:∃ps:List Int,ps.length=2*out.length/\pk ps=out/\((half=-1/\ds=ps)\/(0<=half/\ds=ps++[half]))
theorem DgP.nil:DgP [] [] (-1):=⟨fun d h=>(by cases h),[],rfl,rfl,.inl ⟨rfl,rfl⟩⟩
theorem DgP.put {ds:List Int} {out:List UInt8} {half:Int} (h:DgP ds out half) {d:Int} (h0:0<=d) (h1:d<=15):(half<0->DgP (ds++[d]) out d)/\(0<=half->DgP (ds++[d]) (out++[UInt8.ofNat (16*half+d).toNat]) (-1)):=by
 obtain ⟨hb,ps,hl,hp,hf⟩:=h
 have hb2:∀x∈ds++[d],0<=x/\x<=15:=fun x hx=>by
  rcases List.mem_append.1 hx with h|h
  ·exact hb x h
  ·simp at h;subst h;exact ⟨h0,h1⟩
 refine ⟨fun hn=>⟨hb2,ps,hl,hp,.inr ⟨h0,?_⟩⟩,fun hn=>⟨hb2,ds++[d],?_,?_,.inl ⟨rfl,rfl⟩⟩⟩
 ·rcases hf with ⟨_,rfl⟩|⟨h,_⟩
  ·rfl
  ·omega
 ·rcases hf with ⟨h,_⟩|⟨h,rfl⟩
  ·omega
  ·simp;omega
 ·rcases hf with ⟨h,_⟩|⟨h,rfl⟩
  ·omega
  ·rw [List.append_assoc,pk_append _ _ _ hl,hp];rfl
def i64C (x:Int):Value:=.int .i64 x
structure DgM (w:World) (v:Value) (ds:List Int) (wr:World):Prop where
 row:wr.ownsRow w.heap.size 3 1 v ds.length (ds.map i64C)
 bel:Below w.heap.size w wr
theorem DgM.put {w wr w5:World} {v v':Value} {ds:List Int} (h:DgM w v ds wr) (d:Int) (O:Obj) (hO5:w5.ownsRow w.heap.size 3 1 v' (ds.length+1) (ds.map i64C++[.int .i64 d])) (hg5:(wr.alloc O).grownBy w5 v.ownBlock):DgM w v' (ds++[d]) w5 :=
 ⟨by have h:=hO5;simpa [i64C] using h,(h.bel.alloc h.bel.size _).grown hg5 (by rw [zan];have:=h.bel.size;omega) (fun q hq=>(h.row.lt q hq).1)⟩
theorem DgM.len {w wr:World} {v:Value} {ds:List Int} (h:DgM w v ds wr):∃a cap,v=.slice a ds.length cap/\Row wr 1 a ds.length cap (ds.map i64C):=by
 obtain ⟨a,cap,hv,hr,-⟩:=Row.of_owns h.row
 exact ⟨a,cap,hv,hr⟩
structure PA (p:List UInt8) (N:Int) (ov:Bool):Prop where
 dg:p.all isDg=true
 ov_:ov=decide (2147483647<valD p)
 n:ov=false->N=(valD p:Nat)
def PB (p:List UInt8) (i:Nat) (N P:Int) (ov:Bool):Prop:=∃w r,p=w++46::r/\w.length=i/\PA w N ov/\r.all isDg=true/\P=(mil r:Nat)
theorem PA.nil:PA [] 0 false:=⟨rfl,rfl,fun _=>rfl⟩
theorem PA.over {p:List UInt8} {N:Int} (h:PA p N true) {c:UInt8} (hc:isDg c=true):PA (p++[c]) N true :=
 ⟨zcI _ _ h.dg hc,by have:=h.ov_;rw [eq_comm,decide_eq_true_iff] at this;rw [eq_comm,decide_eq_true_iff,zbw];omega,fun h=>by cases h⟩
theorem PA.more {p:List UInt8} {N:Int} (h:PA p N false) {c:UInt8} (hc:isDg c=true) (M:Int) (hM:M=10*N+(dgV c:Nat)) (o:Bool) (ho:o=decide (2147483647<M)):PA (p++[c]) M o:=by
 have h1:=h.n rfl
 have hv:M=(valD (p++[c]):Nat):=by rw [zbw,hM,h1];omega
 refine ⟨zcI _ _ h.dg hc,?_,fun _=>hv⟩
 rw [ho,Bool.eq_iff_iff,decide_eq_true_iff,decide_eq_true_iff];omega
theorem mil_by (r:List UInt8) (c:UInt8) (b:Nat) (hb:b=100000 / 10 ^ (min (r.length+1) 7-1)):mil (r++[c])=mil r+b*dgV c:=by
 by_cases h:r.length<6
 ·rw [mil_snoc_lt r c h,hb,Nat.min_eq_left (by omega)]
  congr 2
  have:r.length=0\/r.length=1\/r.length=2\/r.length=3\/r.length=4\/r.length=5:=by omega
  rcases this with h|h|h|h|h|h<;>rw [h]
 ·rw [mil_snoc_ge r c (by omega),hb,Nat.min_eq_right (by omega)]
  simp
theorem PB.more {p:List UInt8} {i:Nat} {N P:Int} {ov:Bool} (h:PB p i N P ov) {c:UInt8} (hc:isDg c=true) (b:Nat) (hb:b=100000 / 10 ^ (min (p.length-i) 7-1)) (Q:Int) (hQ:Q=P+(b:Int)*((c.toNat:Int)-48)):PB (p++[c]) i N Q ov:=by
 obtain ⟨w,r,e,hl,hA,hr,hP⟩:=h
 have hlen:=congrArg List.length e
 simp only [List.length_append,List.length_cons] at hlen
 refine ⟨w,r++[c],by rw [e];simp,hl,hA,zcI _ _ hr hc,?_⟩
 rw [mil_by r c b (by rw [hb];congr 3;omega),hQ,hP,<-zgI hc]
 push_cast
 rfl
theorem PB.bd {p:List UInt8} {i:Nat} {N P:Int} {ov:Bool} (h:PB p i N P ov):0<=P/\P<=999999:=by
 obtain ⟨w,r,e,hl,hA,hr,rfl⟩:=h
 have:=zfu r hr
 omega
theorem PA.fin {p:List UInt8} {N:Int} {ov:Bool} (h:PA p N ov) (sg:Int):za6 sg p=if p.length=0 then (0,0,11) else if ov=true then (0,0,5) else (2,sg*N,0):=by
 rw [parseB_int sg p h.dg]
 by_cases h0:p.length=0
 ·rw [yf h0,yf h0]
 ·rw [yg h0,yg h0]
  have h1:=h.ov_
  cases ov
  ·rw [eq_comm,decide_eq_false_iff_not] at h1
   rw [yg h1,yg (by decide),h.n rfl]
  ·rw [eq_comm,decide_eq_true_iff] at h1
   rw [yf h1,yf rfl]
theorem PB.fin {p:List UInt8} {i:Nat} {N P:Int} {ov:Bool} (h:PB p i N P ov) (sg:Int):za6 sg p=if p.length=1 then (0,0,11) else if ov=true\/(N=2147483647/\0<P) then (0,0,5) else (3,sg*(1000000*N+P),0):=by
 obtain ⟨w,r,e,hl,hA,hr,rfl⟩:=h
 have hlen:=congrArg List.length e
 simp only [List.length_append,List.length_cons] at hlen
 rw [e,parseB_real sg w r hA.dg hr,<-e]
 by_cases h0:p.length=1
 ·rw [yf h0,yf (by omega)]
 ·rw [yg h0,yg (by omega)]
  have h1:=hA.ov_
  cases ov
  ·rw [eq_comm,decide_eq_false_iff_not] at h1
   have h2:=hA.n rfl
   by_cases h3:N=2147483647/\0<((mil r:Nat):Int)
   ·rw [yf (.inr (by omega)),yf (.inr h3)]
   ·rw [yg (by rintro (h|h);exact h1 h;exact h3 (by omega)),yg (by rintro (h|h);cases h;exact h3 h),h2]
    rw [Int.natCast_add,Int.natCast_mul,Int.mul_comm 1000000];rfl
  ·rw [eq_comm,decide_eq_true_iff] at h1
   rw [yf (.inl h1),yf (.inl rfl)]
structure Rx (w:World) (r n:Nat) (f:Nat) (W:World):Prop where
 blk:W.heap[r]?=some (.cells #[.int .i64 0,.int .i64 0,.int .i64 0,.int .i64 0,.int .i64 0,.string ⟨#[]⟩,.slice none 0 0,.string ⟨#[]⟩] 111 (0,0))
 no:W.heap[n]?=some (.cells #[.int .i64 0,.int .i64 f,.int .i64 f,.int .i64 0,.int .i64 0,.string ⟨#[]⟩,.slice none 0 0,.string ⟨#[]⟩] 111 (0,0))
 bel:Below w.heap.size w W
 wr:w.heap.size<=r
theorem Rx.on {w W W':World} {r n f:Nat} (h:Rx w r n f W) (hb:Below W.heap.size W W'):Rx w r n f W':=⟨zaa hb h.blk,zaa hb h.no,h.bel.trans (hb.mono h.bel.size),h.wr⟩
theorem Rx.alloc {w W:World} {r n f:Nat} (h:Rx w r n f W) (o:Obj):Rx w r n f (W.alloc o):=h.on (zag W o)
theorem zc2:∀a b:List UInt8,Op.bytesLess a b=sLt a b
 | [],[]=>rfl
 | [],_::_=>rfl
 | _::_,[]=>rfl
 | a::l,b::m=>by
  simp only [Op.bytesLess,sLt]
  rw [zc2 l m]
  by_cases h:a.toNat<b.toNat
  ·rw [yf h]
   have:(a<b):=h
   simp [this]
  ·rw [yg h]
   have h':¬(a<b):=h
   by_cases h2:b.toNat<a.toNat
   ·rw [yf h2]
    have:(a==b)=false:=by rw [ye];intro e;subst e;omega
    simp [h',this]
   ·rw [yg h2]
    have:a=b:=UInt8.toNat_inj.1 (by omega)
    subst this
    simp
theorem zal (l:List UInt8):(mkB l).toList=l:=by unfold mkB;exact ByteArray.toList_eq _
structure Box4 (w:World) (b:Nat) (v:PV) (sl:Value):Prop where
 blk:w.heap[b]?=some (.cells #[.int .i64 v.kind,.int .i64 v.n,.string (mkB v.s),sl] 27 (0,0))
theorem Box4.cells {w:World} {b:Nat} {v:PV} {sl:Value} (h:Box4 w b v sl):w.cell? ⟨b,0,none⟩=some (.int .i64 v.kind)/\w.cell? ⟨b,1,none⟩=some (.int .i64 v.n)/\w.cell? ⟨b,2,none⟩=some (.string (mkB v.s))/\w.cell? ⟨b,3,none⟩=some sl:=by
 refine ⟨?_,?_,?_,?_⟩
 ·rw [cell_of_row w b 0 _ _ _ h.blk];rfl
 ·rw [cell_of_row w b 1 _ _ _ h.blk];rfl
 ·rw [cell_of_row w b 2 _ _ _ h.blk];rfl
 ·rw [cell_of_row w b 3 _ _ _ h.blk];rfl
def anyF:Nat->Prop:=fun _=>True
theorem IsV.any {w:World} {F:Nat->Prop} {v:PV} {sl:Value} (h:IsV w F v sl):IsV w anyF v sl:=h.weaken fun _ _=>trivial
theorem zcE {v x:PV} {k:Nat} (h:v.l[k]?=some x):SizeOf.sizeOf x<SizeOf.sizeOf v:=by
 obtain ⟨a,b,c,l⟩:=v
 have:SizeOf.sizeOf x<SizeOf.sizeOf l:=List.sizeOf_lt_of_mem (List.mem_of_getElem? (h:l[k]?=some x))
 simp only [PV.mk.sizeOf_spec];omega
theorem zeU {w:World} {g n cap:Nat} {d:Bool} {a:Option Addr} (h:w.heap[g]?=some (.cells #[.bool d,.slice a n cap] 166 (0,0))) (hn:n<=maxLen) :
  Calls Tryz.prog 158 #[.pointer (some ⟨g,0,none⟩)] w fun e w'=>e=.returned (.bool (d&&n % 2==0))/\w=w':=by
 have c0:w.cell? ⟨g,0,none⟩=some (.bool d):=by rw [cell_of_row w g 0 _ _ _ h];rfl
 have c1:w.cell? ⟨g,1,none⟩=some (.slice a n cap):=by rw [cell_of_row w g 1 _ _ _ h];rfl
 have hi:(n:Int)<=9223372036854775807:=by unfold maxLen at hn;omega
 have he:((n:Int) % 2==0)=(n % 2==0):=by rw [Bool.eq_iff_iff];simp;omega
 have HE:=ya he
 clear h hn he
 cases d
 ·go_enter Tryz.func158,Tryz.ntmps158
  go_wp2
  go_ret
  exact ⟨rfl,rfl⟩
 ·go_enter Tryz.func158,Tryz.ntmps158
  go_wp2
  go_ret
  exact ⟨zaY (by rw [Bool.true_and];exact HE.out),rfl⟩
section
variable {w0 w w' : World} {F F' G : Nat -> Prop} {p : Nat} {a : Option Addr} {cap : Nat} {bs : List UInt8} {yo : Bool} {st : List Lv} {at_ : Int} {gs : List Nat} {osl : Value}
def RefEnd (w0 w:World) (F G:Nat->Prop) (p:Nat) (a:Option Addr) (cap:Nat) (bs:List UInt8) (yo:Bool) (st:List Lv) (gs:List Nat) (osl:Value) (R:PV×Int×Int) (e:Ending) (w':World):Prop :=
 e=.returned (.tuple #[pvA R.1 (.slice none 0 0),.int .i64 R.2.2])/\zaq w0 w' F G p a cap bs yo st R.2.1 gs osl/\zae (fun b=>b=p) w w'
theorem fin4 (h:zaq w0 w F G p a cap bs yo st at_ gs osl) {W:World} (hb:Below w.heap.size w W) {q:Nat} (hq:w.heap.size<=q) (hl:q<W.heap.size) (y0 y1 y2 y3:Value) :
  zaq w0 ((((W.setCell ⟨q,0,none⟩ y0).setCell ⟨q,1,none⟩ y1).setCell ⟨q,2,none⟩ y2).setCell ⟨q,3,none⟩ y3) F G p a cap bs yo st at_ gs osl /\
   zae (fun b=>b=p) w ((((W.setCell ⟨q,0,none⟩ y0).setCell ⟨q,1,none⟩ y1).setCell ⟨q,2,none⟩ y2).setCell ⟨q,3,none⟩ y3) :=
 ⟨((h.res (G':=fun b=>G b\/b=q) hb (fun b hb=>hb.imp id fun e=>by rw [e];exact ⟨hq,hl⟩)).set4 (.inr rfl) _ _ _ _).give fun b hb=>.inl hb,zaV (zar hb) hq _ _ _ _⟩
theorem fin4a (h:zaq w0 w F G p a cap bs yo st at_ gs osl) {W:World} (hb:Below w.heap.size w W) {q:Nat} (hq:w.heap.size<=q) (hl:q<W.heap.size) (at2:Int) (y0 y1 y2 y3:Value) :
  zaq w0 (((((W.setCell ⟨p,1,none⟩ (.int .i64 at2)).setCell ⟨q,0,none⟩ y0).setCell ⟨q,1,none⟩ y1).setCell ⟨q,2,none⟩ y2).setCell ⟨q,3,none⟩ y3) F G p a cap bs yo st at2 gs osl /\
   zae (fun b=>b=p) w (((((W.setCell ⟨p,1,none⟩ (.int .i64 at2)).setCell ⟨q,0,none⟩ y0).setCell ⟨q,1,none⟩ y1).setCell ⟨q,2,none⟩ y2).setCell ⟨q,3,none⟩ y3) :=
 ⟨(((h.res (G':=fun b=>G b\/b=q) hb (fun b hb=>hb.imp id fun e=>by rw [e];exact ⟨hq,hl⟩)).setAt at2).set4 (.inr rfl) _ _ _ _).give fun b hb=>.inl hb,
  zaV (zae.setCell (S:=fun b=>b=p) (a:=⟨p,1,none⟩) (zar hb) (.inl rfl) _) hq _ _ _ _⟩
theorem drew4 {W:World} {S:Nat->Prop} (h:zaq w0 W F G p a cap bs yo st at_ gs osl/\zae S w W):zaq w0 W.drew F G p a cap bs yo st at_ gs osl/\zae S w W.drew:=⟨h.1.drewN 1,h.2.drewN 1⟩
theorem ref_any (h:zaq w0 w F G p a cap bs yo st at_ gs osl) (v:PV):Calls Tryz.prog 161 #[.pointer (some ⟨p,0,none⟩),pvA v (.slice none 0 0)] w (RefEnd w0 w F G p a cap bs yo st gs osl (refV bs yo at_ v)):=by
 have HN:=ya (fun (W:World) (hb:Below w.heap.size w W)=>zdb (h.bytes.mono hb) h.small at_ yo)
 obtain ⟨R,hR⟩:∃R,R=refV bs yo at_ v:=⟨_,rfl⟩
 rw [<-hR]
 unfold refV at hR
 simp only at hR
 have HWH:=ya (fun (W:World)=>zgs (zah bs at_ yo).1 (zah bs at_ yo).2.1 (zah bs at_ yo).2.2.1 W)
 have HN2:=ya (fun (W:World) (hb:Below w.heap.size w W)=>zdb (h.bytes.mono hb) h.small (zah bs at_ yo).2.2.1 yo)
 generalize zah bs (zah bs at_ yo).2.2.1 yo=V2 at *
 generalize zah bs at_ yo=V at *
 obtain ⟨x,gf,gt,ger⟩:=V
 obtain ⟨y,rf,rt,rer⟩:=V2
 simp only at hR HN2 HWH
 unfold zdL tokN at HN HN2
 unfold tokN at HWH
 simp only at HN HN2
 unfold pvA
 have HR:=ya hR
 have HYS:=ya (zcQ y.s [82])
 clear hR
 generalize x.kind=ga0 at *
 generalize x.vk=ga1 at *
 generalize x.vn=ga2 at *
 generalize mkB x.vs=gs1 at *
 generalize mkB x.s=gs2 at *
 generalize y.kind=ra0 at *
 generalize y.vk=ra1 at *
 generalize y.vn=ra2 at *
 generalize mkB y.vs=rs1 at *
 generalize mkB y.s=rs2 at *
 generalize zaD x=wh at *
 obtain ⟨vk,vn,vs,vl⟩:=v
 simp only [PV.kind,PV.n,PV.s] at HR |-
 have HS:=ya h
 have hpw:=h.lt
 clear h
 go_enter Tryz.func161,Tryz.ntmps161
 go_wp2
 have HB1:=ya (zaT w (.cells #[.int .i64 vk,.int .i64 vn,.string (mkB vs),.slice none 0 0] 27) (.cells #[.int .i64 0,.int .i64 0,.string ⟨#[]⟩,.slice none 0 0] 27))
 have HS1:=ya (HS.out.mono HB1.out)
 have HK3:=ya (zai (.cells #[.int .i64 0,.int .i64 0,.string ⟨#[]⟩,.slice none 0 0] 27) (zac (w:=w) (b:=w.heap.size) (.cells #[.int .i64 vk,.int .i64 vn,.string (mkB vs),.slice none 0 0] 27) rfl))
 have HK4:=ya (zac (w:=w.alloc (.cells #[.int .i64 vk,.int .i64 vn,.string (mkB vs),.slice none 0 0] 27)) (b:=w.heap.size+1) (.cells #[.int .i64 0,.int .i64 0,.string ⟨#[]⟩,.slice none 0 0] 27) (by rw [zan]))
 generalize (w.alloc _).alloc _=W1 at *
 obtain ⟨r,hr⟩:∃r,r=w.heap.size:=⟨_,rfl⟩
 have hpr0:p≠r:=by omega
 have hpr1:p≠r+1:=by omega
 rw [<-hr] at HK3 HK4 |-
 have HRR:=ya hr
 clear hr hpw
 obtain ⟨⟨c0,c1,c2,c3⟩,f0,f1,f2,f3⟩:=HS1.out.cells
 go_upto_region 1 with fail
 go_cut [6,7] from 9 (fun v6 v7 wx=>∃r2,v6=.pointer (some ⟨r2,0,none⟩)/\v7=.int .i64 ger/\Hid (TkM W1 wx r2 #[.int .i64 ga0,.int .i64 gf,.int .i64 gt,.int .i64 ga1,.int .i64 ga2,.string gs1,.slice none 0 0,.string gs2]))
 case first =>
  have HA1:=ya (fun o:Obj=>(zag W1 o).drew)
  have HA2:=ya (fun o:Obj=>HB1.out.trans ((HA1.out o).mono (show w.heap.size<=W1.heap.size from HB1.out.size)))
  have HC0:Hid (S3 W1 p 0 (.slice a bs.length cap) p 1 (.int .i64 at_) p 2 (.bool yo)):=ya ⟨c0,c1,c2⟩
  have HPR:Hid (p≠W1.heap.size/\p≠W1.heap.size/\p≠W1.heap.size):=ya ⟨Nat.ne_of_lt (World.block_lt_of_cell? W1 _ c0),Nat.ne_of_lt (World.block_lt_of_cell? W1 _ c1),Nat.ne_of_lt (World.block_lt_of_cell? W1 _ c2)⟩
  go_region_held3 (fun w'=>w'.cell? ⟨p,0,none⟩=some (.slice a bs.length cap)/\w'.cell? ⟨p,1,none⟩=some (.int .i64 at_)/\w'.cell? ⟨p,2,none⟩=some (.bool yo))
   ((show S3 _ p 0 (.slice a bs.length cap) p 1 (.int .i64 at_) p 2 (.bool yo);(first
    |(with_reducible exact HC0.out.drew)
    |(with_reducible exact HC0.out)
    |(with_reducible exact (HC0.out.alloc _).drew)
    |(with_reducible exact Hid.out (by assumption))
    |(with_reducible exact S3.alloc (Hid.out (by assumption)) _)
    |(with_reducible exact S3.set8 (Hid.out (by assumption)) HPR.out.1 HPR.out.2.1 HPR.out.2.2 _ _ _ _ _ _ _ _))))
   ((go_at_call 115;first
    |((with_reducible refine (HN.out _ HB1.out.drew).mono ?_);rintro e wN ⟨rfl,hbN⟩;have hbM:Below W1.heap.size W1 wN:=(Below.refl _ _).drew.trans hbN;have HSN:=ya (HC0.out.below hbM))
    |((with_reducible refine (HN.out _ (HA2.out _)).mono ?_);rintro e wN ⟨rfl,hbN⟩;have hbM:Below W1.heap.size W1 wN:=(HA1.out _).trans (hbN.mono (HA1.out _).size);have HSN:=ya (HC0.out.below hbM);have HZ:=ya (zaa hbN (zac (w:=W1) (b:=W1.heap.size) (.cells #[.int .i64 0,.int .i64 0,.int .i64 0,.int .i64 0,.int .i64 0,.string ⟨#[]⟩,.slice none 0 0,.string ⟨#[]⟩] 150) rfl));obtain ⟨⟨z0,z1,z2,z3,z4,z5,z6,z7⟩,y0,y1,y2,y3,y4,y5,y6,y7⟩:=zao HZ.out)))
  all_goals
   first
    |(obtain ⟨W2,hW2⟩:∃W2,W2=wN.alloc (.cells #[.int .i64 ga0,.int .i64 gf,.int .i64 gt,.int .i64 ga1,.int .i64 ga2,.string gs1,.slice none 0 0,.string gs2] 150):=⟨_,rfl⟩
      rw [<-hW2]
      have HT:=ya (show TkM W1 W2 wN.heap.size #[.int .i64 ga0,.int .i64 gf,.int .i64 gt,.int .i64 ga1,.int .i64 ga2,.string gs1,.slice none 0 0,.string gs2] from ⟨by rw [hW2];exact hbM.alloc hbM.size _,by rw [hW2];exact zac _ rfl,hbM.size⟩)
      obtain ⟨r2,hr2⟩:∃r2,r2=wN.heap.size:=⟨_,rfl⟩
      rw [<-hr2] at HT |-)
    |(obtain ⟨W2,hW2⟩:∃W2,W2=((((((((wN.setCell ⟨W1.heap.size,0,none⟩ (.int .i64 ga0)).setCell ⟨W1.heap.size,1,none⟩ (.int .i64 gf)).setCell ⟨W1.heap.size,2,none⟩ (.int .i64 gt)).setCell ⟨W1.heap.size,3,none⟩ (.int .i64 ga1)).setCell ⟨W1.heap.size,4,none⟩ (.int .i64 ga2)).setCell ⟨W1.heap.size,5,none⟩ (.string gs1)).setCell ⟨W1.heap.size,6,none⟩ (.slice none 0 0)).setCell ⟨W1.heap.size,7,none⟩ (.string gs2)):=⟨_,rfl⟩
      rw [<-hW2]
      have HT:=ya (show TkM W1 W2 W1.heap.size #[.int .i64 ga0,.int .i64 gf,.int .i64 gt,.int .i64 ga1,.int .i64 ga2,.string gs1,.slice none 0 0,.string gs2] from ⟨by rw [hW2];exact zaZ hbM (ym _) _ _ _ _ _ _ _ _,by rw [hW2];exact set8 HZ.out _ _ _ _ _ _ _ _,ym _⟩)
      clear z0 z1 z2 z3 z4 z5 z6 z7 y0 y1 y2 y3 y4 y5 y6 y7 HZ
      obtain ⟨r2,hr2⟩:∃r2,r2=W1.heap.size:=⟨_,rfl⟩
      rw [<-hr2] at HT |-)
   clear hW2 hr2 hbN hbM HSN
  all_goals
   go_wp2
   go_meet
   exact ⟨r2,rfl,rfl,HT⟩
 case rest =>
  obtain ⟨r2,rfl,rfl,HT⟩:=hcut
  have HS2:=ya (HS1.out.mono HT.out.bel)
  have HB2:=ya (HB1.out.trans (HT.out.bel.mono HB1.out.size))
  have HL3:=ya (zaa HT.out.bel HK3.out)
  have HL4:=ya (zaa HT.out.bel HK4.out)
  have HTK:=ya HT.out.blk
  clear c0 c1 c2 c3 f0 f1 f2 f3 HT HK3 HK4 HS1 HB1 HN
  have hmv:=ya (fun e w=>more_any e w)
  by_cases hg:ger=0
  case neg =>
   have e1:(ger==0)=false:=by rw [ye];exact hg
   have e2:(ger != 0)=true:=by simp only [bne,e1,yi]
   have hr2:=HR.out
   rw [yf (.inl hg)] at hr2
   have HR2:=ya hr2
   obtain ⟨⟨k0,k1,k2,k3⟩,m0,m1,m2,m3⟩:=zaj HL3.out
   obtain ⟨⟨q0,q1,q2,q3⟩,n0,n1,n2,n3⟩:=zaj HL4.out
   clear hr2 hg HR HN2
   go_wp2
   go_region_with ((go_at_call 190;refine (hmv.out _ _).mono ?_;rintro e w' ⟨rfl,rfl⟩))
   all_goals
    go_wp2
    refine yh (zab rfl _ _ (r+1) 27 _ (0,0) _ rfl (by exact set4 HL4.out _ _ _ _) Tryz.underlying27 rfl (by exact zaC) _ rfl) rfl ?_
    rw [HR2.out]
    exact ⟨rfl,drew4 (fin4 HS.out HB2.out (by rw [HRR.out];exact Nat.le_succ _) (zaf HL4.out) _ _ _ _)⟩
  subst hg
  cases wh with
  | false =>
   have hr2:=HR.out
   rw [yf (.inr rfl)] at hr2
   have HR2:=ya hr2
   obtain ⟨⟨k0,k1,k2,k3,k4,k5,k6,k7⟩,-⟩:=zao HTK.out
   clear hr2 HR HN2
   go_wp2_with fail
   refine (HWH.out _).mono ?_
   rintro e w' ⟨rfl,hb⟩
   have HL3b:=ya (zaa hb HL3.out)
   have HL4b:=ya (zaa hb HL4.out)
   have HB3:=yl HB2 hb
   obtain ⟨⟨k0,k1,k2,k3⟩,m0,m1,m2,m3⟩:=zaj HL3b.out
   obtain ⟨⟨q0,q1,q2,q3⟩,n0,n1,n2,n3⟩:=zaj HL4b.out
   clear hb
   go_wp2
   go_region_with ((go_at_call 190;refine (hmv.out _ _).mono ?_;rintro e w' ⟨rfl,rfl⟩))
   all_goals
    go_wp2
    refine yh (zab rfl _ _ (r+1) 27 _ (0,0) _ rfl (by exact set4 HL4b.out _ _ _ _) Tryz.underlying27 rfl (by exact zaC) _ rfl) rfl ?_
    rw [HR2.out]
    exact ⟨rfl,drew4 (fin4 HS.out HB3.out (by rw [HRR.out];exact Nat.le_succ _) (zaf HL4b.out) _ _ _ _)⟩
  | true =>
   have hr1:=HR.out
   rw [yg (by simp)] at hr1
   have HRX:=ya hr1
   obtain ⟨⟨k0,k1,k2,k3,k4,k5,k6,k7⟩,-⟩:=zao HTK.out
   clear hr1 HR
   go_upto_region 4 with (go_at_call 95;refine (HWH.out _).mono ?_;rintro e W3 ⟨rfl,hb3⟩)
   have HB3:=yl HB2 hb3
   have HS3:=ya (HS2.out.mono hb3)
   have HL3b:=ya (zaa hb3 HL3.out)
   have HL4b:=ya (zaa hb3 HL4.out)
   have HTKb:=ya (zaa hb3 HTK.out)
   clear hb3 k0 k1 k2 k3 k4 k5 k6 k7
   go_cut [7,8] from 9 (fun v7 v8 wx=>∃r3,v7=.int .i64 rer/\v8=.pointer (some ⟨r3,0,none⟩)/\Hid (TkM W3 wx r3 #[.int .i64 ra0,.int .i64 rf,.int .i64 rt,.int .i64 ra1,.int .i64 ra2,.string rs1,.slice none 0 0,.string rs2]))
   case first =>
    obtain ⟨⟨k0,k1,k2,k3,k4,k5,k6,k7⟩,-⟩:=zao HTKb.out
    obtain ⟨⟨c0,c1,c2,c3⟩,-⟩:=HS3.out.cells
    clear k0 k1 k3 k4 k5 k6 k7 c1 c3
    have HA1:=ya (fun o:Obj=>(zag W3 o).drew)
    have HA2:=ya (fun o:Obj=>HB3.out.trans ((HA1.out o).mono (show w.heap.size<=W3.heap.size from HB3.out.size)))
    have HC0:Hid (S3 W3 p 0 (.slice a bs.length cap) r2 2 (.int .i64 gt) p 2 (.bool yo)):=ya ⟨c0,k2,c2⟩
    have HPR:Hid (p≠W3.heap.size/\r2≠W3.heap.size/\p≠W3.heap.size):=ya ⟨Nat.ne_of_lt (World.block_lt_of_cell? W3 _ c0),Nat.ne_of_lt (World.block_lt_of_cell? W3 _ k2),Nat.ne_of_lt (World.block_lt_of_cell? W3 _ c2)⟩
    go_region_held3 (fun w'=>w'.cell? ⟨p,0,none⟩=some (.slice a bs.length cap)/\w'.cell? ⟨r2,2,none⟩=some (.int .i64 gt)/\w'.cell? ⟨p,2,none⟩=some (.bool yo))
     ((show S3 _ p 0 (.slice a bs.length cap) r2 2 (.int .i64 gt) p 2 (.bool yo);(first
      |(with_reducible exact HC0.out.drew)
      |(with_reducible exact HC0.out)
      |(with_reducible exact (HC0.out.alloc _).drew)
      |(with_reducible exact Hid.out (by assumption))
      |(with_reducible exact S3.alloc (Hid.out (by assumption)) _)
      |(with_reducible exact S3.set8 (Hid.out (by assumption)) HPR.out.1 HPR.out.2.1 HPR.out.2.2 _ _ _ _ _ _ _ _))))
     ((go_at_call 115;first
      |((with_reducible refine (HN2.out _ HB3.out.drew).mono ?_);rintro e wN ⟨rfl,hbN⟩;have hbM:Below W3.heap.size W3 wN:=(Below.refl _ _).drew.trans hbN;have HSN:=ya (HC0.out.below hbM))
      |((with_reducible refine (HN2.out _ (HA2.out _)).mono ?_);rintro e wN ⟨rfl,hbN⟩;have hbM:Below W3.heap.size W3 wN:=(HA1.out _).trans (hbN.mono (HA1.out _).size);have HSN:=ya (HC0.out.below hbM);have HZ:=ya (zaa hbN (zac (w:=W3) (b:=W3.heap.size) (.cells #[.int .i64 0,.int .i64 0,.int .i64 0,.int .i64 0,.int .i64 0,.string ⟨#[]⟩,.slice none 0 0,.string ⟨#[]⟩] 150) rfl));obtain ⟨⟨z0,z1,z2,z3,z4,z5,z6,z7⟩,y0,y1,y2,y3,y4,y5,y6,y7⟩:=zao HZ.out)))
    all_goals
     first
      |(obtain ⟨W2,hW2⟩:∃W2,W2=wN.alloc (.cells #[.int .i64 ra0,.int .i64 rf,.int .i64 rt,.int .i64 ra1,.int .i64 ra2,.string rs1,.slice none 0 0,.string rs2] 150):=⟨_,rfl⟩
        rw [<-hW2]
        have HT:=ya (show TkM W3 W2 wN.heap.size #[.int .i64 ra0,.int .i64 rf,.int .i64 rt,.int .i64 ra1,.int .i64 ra2,.string rs1,.slice none 0 0,.string rs2] from ⟨by rw [hW2];exact hbM.alloc hbM.size _,by rw [hW2];exact zac _ rfl,hbM.size⟩)
        obtain ⟨r2_1,hr2⟩:∃r2_1,r2_1=wN.heap.size:=⟨_,rfl⟩
        rw [<-hr2] at HT |-)
      |(obtain ⟨W2,hW2⟩:∃W2,W2=((((((((wN.setCell ⟨W3.heap.size,0,none⟩ (.int .i64 ra0)).setCell ⟨W3.heap.size,1,none⟩ (.int .i64 rf)).setCell ⟨W3.heap.size,2,none⟩ (.int .i64 rt)).setCell ⟨W3.heap.size,3,none⟩ (.int .i64 ra1)).setCell ⟨W3.heap.size,4,none⟩ (.int .i64 ra2)).setCell ⟨W3.heap.size,5,none⟩ (.string rs1)).setCell ⟨W3.heap.size,6,none⟩ (.slice none 0 0)).setCell ⟨W3.heap.size,7,none⟩ (.string rs2)):=⟨_,rfl⟩
        rw [<-hW2]
        have HT:=ya (show TkM W3 W2 W3.heap.size #[.int .i64 ra0,.int .i64 rf,.int .i64 rt,.int .i64 ra1,.int .i64 ra2,.string rs1,.slice none 0 0,.string rs2] from ⟨by rw [hW2];exact zaZ hbM (ym _) _ _ _ _ _ _ _ _,by rw [hW2];exact set8 HZ.out _ _ _ _ _ _ _ _,ym _⟩)
        clear z0 z1 z2 z3 z4 z5 z6 z7 y0 y1 y2 y3 y4 y5 y6 y7 HZ
        obtain ⟨r2_1,hr2⟩:∃r2_1,r2_1=W3.heap.size:=⟨_,rfl⟩
        rw [<-hr2] at HT |-)
     clear hW2 hr2 hbN hbM HSN
    all_goals
     go_wp2
     go_meet
     exact ⟨r2_1,rfl,rfl,HT⟩
   case rest =>
    obtain ⟨r3,rfl,rfl,HT⟩:=hcut
    have HS4:=ya (HS3.out.mono HT.out.bel)
    have HB4:=ya (HB3.out.trans (HT.out.bel.mono HB3.out.size))
    have HM3:=ya (zaa HT.out.bel HL3b.out)
    have HM4:=ya (zaa HT.out.bel HL4b.out)
    have HU1:=ya (zaa HT.out.bel HTKb.out)
    have HU2:=ya HT.out.blk
    clear HT
    obtain ⟨⟨k0,k1,k2,k3⟩,m0,m1,m2,m3⟩:=zaj HM3.out
    obtain ⟨⟨q0,q1,q2,q3⟩,n0,n1,n2,n3⟩:=zaj HM4.out
    obtain ⟨⟨t0,t1,t2,t3,t4,t5,t6,t7⟩,-⟩:=zao HU2.out
    obtain ⟨⟨d0,d1,d2,d3,d4,d5,d6,d7⟩,-⟩:=zao HU1.out
    obtain ⟨⟨c0,c1,c2,c3⟩,f0,f1,f2,f3⟩:=HS4.out.cells
    have hys:=HYS.out
    by_cases h0:rer=0
    case neg =>
     have e1:(rer==0)=false:=by rw [ye];exact h0
     have e2:(rer != 0)=true:=by simp only [bne,e1,yi]
     have hr2:=HRX.out
     rw [yf (.inl h0)] at hr2
     have HR2:=ya hr2
     clear hr2 h0 hys
     go_wp2
     go_region_with ((go_at_call 190;refine (hmv.out _ _).mono ?_;rintro e w' ⟨rfl,rfl⟩))
     all_goals
      go_wp2
      refine yh (zab rfl _ _ (r+1) 27 _ (0,0) _ rfl (by exact set4 HM4.out _ _ _ _) Tryz.underlying27 rfl (by exact zaC) _ rfl) rfl ?_
      rw [HR2.out]
      exact ⟨rfl,drew4 (fin4 HS.out HB4.out (by rw [HRR.out];exact Nat.le_succ _) (zaf HM4.out) _ _ _ _)⟩
    subst h0
    by_cases h6:ra0=6
    case neg =>
     have e1:(ra0==6)=false:=by rw [ye];exact h6
     have e2:(ra0 != 6)=true:=by simp only [bne,e1,yi]
     have hr2:=HRX.out
     rw [yf (.inr (.inl h6))] at hr2
     have HR2:=ya hr2
     clear hr2 h6 hys
     go_wp2
     go_region_with ((go_at_call 190;refine (hmv.out _ _).mono ?_;rintro e w' ⟨rfl,rfl⟩))
     all_goals
      go_wp2
      refine yh (zab rfl _ _ (r+1) 27 _ (0,0) _ rfl (by exact set4 HM4.out _ _ _ _) Tryz.underlying27 rfl (by exact zaC) _ rfl) rfl ?_
      rw [HR2.out]
      exact ⟨rfl,drew4 (fin4 HS.out HB4.out (by rw [HRR.out];exact Nat.le_succ _) (zaf HM4.out) _ _ _ _)⟩
    subst h6
    by_cases hs:y.s=[82]
    case neg =>
     rw [yd hs] at hys
     have hr2:=HRX.out
     rw [yf (.inr (.inr hs))] at hr2
     have HR2:=ya hr2
     clear hr2 hs
     go_wp2
     go_region_with ((go_at_call 190;refine (hmv.out _ _).mono ?_;rintro e w' ⟨rfl,rfl⟩))
     all_goals
      go_wp2
      refine yh (zab rfl _ _ (r+1) 27 _ (0,0) _ rfl (by exact set4 HM4.out _ _ _ _) Tryz.underlying27 rfl (by exact zaC) _ rfl) rfl ?_
      rw [HR2.out]
      exact ⟨rfl,drew4 (fin4 HS.out HB4.out (by rw [HRR.out];exact Nat.le_succ _) (zaf HM4.out) _ _ _ _)⟩
    rw [yb hs] at hys
    have hr2:=HRX.out
    rw [yg (by rintro (h|h|h);exact h rfl;exact h rfl;exact h hs)] at hr2
    have HRY:=ya hr2
    clear hr2 hs
    by_cases hv1:vn<1
    case pos =>
     have hd:decide (vn<1)=true:=yb hv1
     have hr2:=HRY.out.trans (yf (show vn<1\/4096<vn\/ga2≠0 from .inl hv1))
     have HR2:=ya hr2
     clear hr2 hv1
     go_wp2
     refine yh (zab rfl _ _ (r+1) 27 _ (0,0) _ rfl (by exact set4 HM4.out _ _ _ _) Tryz.underlying27 rfl (by exact zaC) _ rfl) rfl ?_
     rw [HR2.out]
     exact ⟨rfl,fin4 HS.out HB4.out (by rw [HRR.out];exact Nat.le_succ _) (zaf HM4.out) _ _ _ _⟩
    have hd1:decide (vn<1)=false:=yd hv1
    by_cases hv2:4096<vn
    case pos =>
     have hd:decide (4096<vn)=true:=yb hv2
     have hr2:=HRY.out.trans (yf (show vn<1\/4096<vn\/ga2≠0 from .inr (.inl hv2)))
     have HR2:=ya hr2
     clear hr2 hv2 hv1
     go_wp2
     refine yh (zab rfl _ _ (r+1) 27 _ (0,0) _ rfl (by exact set4 HM4.out _ _ _ _) Tryz.underlying27 rfl (by exact zaC) _ rfl) rfl ?_
     rw [HR2.out]
     exact ⟨rfl,fin4 HS.out HB4.out (by rw [HRR.out];exact Nat.le_succ _) (zaf HM4.out) _ _ _ _⟩
    have hd2:decide (4096<vn)=false:=yd hv2
    by_cases hg2:ga2=0
    case neg =>
     have e1:(ga2==0)=false:=by rw [ye];exact hg2
     have e2:(ga2 != 0)=true:=by simp only [bne,e1,yi]
     have hr2:=HRY.out.trans (yf (show vn<1\/4096<vn\/ga2≠0 from .inr (.inr hg2)))
     have HR2:=ya hr2
     clear hr2 hv2 hv1 hg2
     go_wp2
     refine yh (zab rfl _ _ (r+1) 27 _ (0,0) _ rfl (by exact set4 HM4.out _ _ _ _) Tryz.underlying27 rfl (by exact zaC) _ rfl) rfl ?_
     rw [HR2.out]
     exact ⟨rfl,fin4 HS.out HB4.out (by rw [HRR.out];exact Nat.le_succ _) (zaf HM4.out) _ _ _ _⟩
    subst hg2
    have hr2:=HRY.out.trans (yg (show ¬(vn<1\/4096<vn\/(0:Int)≠0) by rintro (h|h|h);exact hv1 h;exact hv2 h;exact h rfl))
    have HR2:=ya hr2
    clear hr2 hv2 hv1
    go_wp2
    refine yh (zab rfl _ _ (r+1) 27 _ (0,0) _ rfl (by exact set4 ((heap_setCell_other _ _ _ _ (Ne.symm hpr1)).trans HM4.out) _ _ _ _) Tryz.underlying27 rfl (by exact zaC) _ rfl) rfl ?_
    rw [HR2.out]
    exact ⟨rfl,fin4a HS.out HB4.out (by rw [HRR.out];exact Nat.le_succ _) (zaf HM4.out) _ _ _ _ _⟩
end
section
variable {w0 w w' : World} {F F' G : Nat -> Prop} {p : Nat} {a : Option Addr} {cap : Nat} {bs : List UInt8} {yo : Bool} {st : List Lv} {at_ : Int} {gs : List Nat} {osl : Value}
theorem zaq.top (h:zaq w0 w F G p a cap bs yo st at_ gs osl):(st=[]/\gs=[])\/∃v st' g t sa sc,st=v::st'/\gs=g::t/\v.l.length<=sc/\sc<=maxLen/\w.heap[g]?=some (.cells #[.bool v.dict,.slice sa v.l.length sc] 166 (0,0)):=by
 cases st with
 | nil=>exact .inl ⟨rfl,List.eq_nil_of_length_eq_zero (by rw [h.lvs.len];rfl)⟩
 | cons v st' =>
  obtain ⟨g,t,sl,cs,h1,h2,h3,h4,h5,h6,h7,h8⟩:=h.lvs
  obtain ⟨sa,sc,rfl,h9,h10⟩:=zas h5
  exact .inr ⟨v,st',g,t,sa,sc,rfl,h1,h9,h10,h4⟩
theorem single_any (h:zaq w0 w F G p a cap bs yo st at_ gs osl) (x:Tk) (f t:Int):Calls Tryz.prog 120 #[.pointer (some ⟨p,0,none⟩),.agg (tokN x f t)] w (RefEnd w0 w F G p a cap bs yo st gs osl (zaw bs yo st at_ x)):=by
 obtain ⟨R,hR⟩:∃R,R=zaw bs yo st at_ x:=⟨_,rfl⟩
 rw [<-hR]
 unfold zaw at hR
 have HR:=ya hR
 have HTOP:=ya (fun (W:World) (hb:Below w.heap.size w W)=>zgw (h.mono hb))
 have HTP:=ya (fun (W:World) (hb:Below w.heap.size w W)=>(h.mono hb).top)
 have HREF:=ya (fun (W:World) (hb:Below w.heap.size w W) (hl:w.heap.size+1<W.heap.size)=>ref_any (h.res (G':=fun b=>G b\/b=w.heap.size+1) hb (fun b h=>h.imp id fun e=>by rw [e];exact ⟨Nat.le_succ _,hl⟩)) (tkV x))
 have HWD:=ya (fun (W:World)=>pword_any x.s W)
 have HWH:=ya (fun (W:World)=>zgs x f t W)
 have HTK:=ya (show tkV x=.mk x.vk x.vn x.vs [] from rfl)
 generalize tkV x=TV at *
 unfold tokN at *
 generalize zaD x=wh at *
 generalize x.kind=a0 at *
 generalize x.vk=a1 at *
 generalize x.vn=a2 at *
 generalize hxs:x.vs=xs at *
 generalize x.s=ys at *
 have HS:=ya h
 have hpw:=h.lt
 clear h hR hxs
 go_enter Tryz.func120,Tryz.ntmps120
 go_wp2_with fail
 have HB1:=ya (zaT w (.cells #[.int .i64 a0,.int .i64 f,.int .i64 t,.int .i64 a1,.int .i64 a2,.string (mkB xs),.slice none 0 0,.string (mkB ys)] 150) (.cells #[.int .i64 0,.int .i64 0,.string ⟨#[]⟩,.slice none 0 0] 27))
 have HK3:=ya (zai (.cells #[.int .i64 0,.int .i64 0,.string ⟨#[]⟩,.slice none 0 0] 27) (zac (w:=w) (b:=w.heap.size) (.cells #[.int .i64 a0,.int .i64 f,.int .i64 t,.int .i64 a1,.int .i64 a2,.string (mkB xs),.slice none 0 0,.string (mkB ys)] 150) rfl))
 have HK4:=ya (zac (w:=w.alloc (.cells #[.int .i64 a0,.int .i64 f,.int .i64 t,.int .i64 a1,.int .i64 a2,.string (mkB xs),.slice none 0 0,.string (mkB ys)] 150)) (b:=w.heap.size+1) (.cells #[.int .i64 0,.int .i64 0,.string ⟨#[]⟩,.slice none 0 0] 27) (by rw [zan]))
 refine (HTOP.out _ HB1.out).mono ?_
 rintro e w1 ⟨rfl,q,rfl⟩
 generalize (w.alloc _).alloc _=W1 at *
 have HB2:=ya (zad HB1.out q)
 have HL3:=ya (show (W1.drewN q).heap[w.heap.size]?=_ from HK3.out)
 have HL4:=ya (show (W1.drewN q).heap[w.heap.size+1]?=_ from HK4.out)
 clear HK3 HK4 HB1
 generalize W1.drewN q=W2 at *
 obtain ⟨r,hr⟩:∃r,r=w.heap.size:=⟨_,rfl⟩
 have hpr0:p≠r:=by omega
 have hpr1:p≠r+1:=by omega
 rw [<-hr] at HL3 HL4 |-
 have HRR:=ya hr
 clear hr hpw
 go_upto_region 2 with fail
 go_cut [25] from 7 (fun v25 wx=>∃c:Bool,v25=.bool c/\Hid (c=true↔(topW st=true/\(a0≠1\/a1≠5)))/\W2=wx)
 case first =>
  obtain ⟨⟨k0,k1,k2,k3,k4,k5,k6,k7⟩,-⟩:=zao HL3.out
  rcases HTP.out _ HB2.out with ⟨rfl,rfl⟩|⟨v,st',g,t',sa,sc,rfl,rfl,h1,h2,h3⟩
  ·unfold topP
   go_wp2
   go_meet
   exact ⟨false,rfl,ya (by simp [topW]),rfl⟩
  ·have HWT:=ya (zeU h3 (by omega))
   have HTW:=ya (show topW (v::st')=(v.dict&&v.l.length % 2==0) from rfl)
   unfold topP
   generalize (v.dict&&v.l.length % 2==0)=tw at *
   clear h1 h2 h3
   cases tw
   ·go_wp2_with (go_at_call 158;refine HWT.out.mono ?_;rintro e w' ⟨rfl,rfl⟩)
    go_meet
    exact ⟨false,rfl,ya (by rw [HTW.out];simp),rfl⟩
   ·by_cases h1:a0=1
    ·subst h1
     by_cases h5:a1=5
     ·subst h5
      go_wp2_with (go_at_call 158;refine HWT.out.mono ?_;rintro e w' ⟨rfl,rfl⟩)
      go_meet
      exact ⟨false,rfl,ya (by simp),rfl⟩
     ·have e1:(a1==5)=false:=by rw [ye];exact h5
      have e2:(a1 != 5)=true:=by simp only [bne,e1,yi]
      go_wp2_with (go_at_call 158;refine HWT.out.mono ?_;rintro e w' ⟨rfl,rfl⟩)
      go_meet
      exact ⟨true,rfl,ya (by rw [HTW.out];simp [h5]),rfl⟩
    ·have e1:(a0==1)=false:=by rw [ye];exact h1
     have e2:(a0 != 1)=true:=by simp only [bne,e1,yi]
     go_wp2_with (go_at_call 158;refine HWT.out.mono ?_;rintro e w' ⟨rfl,rfl⟩)
     go_meet
     exact ⟨true,rfl,ya (by rw [HTW.out];simp [h1]),rfl⟩
 case rest =>
  obtain ⟨c,rfl,HC,rfl⟩:=hcut
  have hr1:w.heap.size<=r+1:=by rw [HRR.out];exact Nat.le_succ _
  have HR1:=ya hr1
  clear hr1
  cases c with
  | true =>
   have hr2:=HR.out
   rw [yf (HC.out.1 rfl)] at hr2
   have HR2:=ya hr2
   obtain ⟨⟨q0,q1,q2,q3⟩,n0,n1,n2,n3⟩:=zaj HL4.out
   clear hr2 HR HREF HWD HWH
   go_wp2
   refine yh (zab rfl _ _ (r+1) 27 _ (0,0) _ rfl (by exact set4 HL4.out _ _ _ _) Tryz.underlying27 rfl (by exact zaC) _ rfl) rfl ?_
   rw [HR2.out]
   exact ⟨rfl,fin4 HS.out HB2.out HR1.out (zaf HL4.out) _ _ _ _⟩
  | false =>
   have hr2:=HR.out
   rw [yg (fun h=>absurd (HC.out.2 h) (by decide))] at hr2
   have HRX:=ya hr2
   obtain ⟨⟨k0,k1,k2,k3,k4,k5,k6,k7⟩,-⟩:=zao HL3.out
   clear hr2 HR HC
   by_cases h6:a0=6
   ·have hr2:=HRX.out
    rw [yf h6] at hr2
    subst h6
    have hr3:R=((wordE ys).1,at_,(wordE ys).2):=by
     rw [hr2];unfold wordE;cases zee ys<;>rfl
    have HR2:=ya hr3
    unfold pvA at HWD
    clear hr2 hr3 HRX
    go_wp2_with fail
    refine (HWD.out _).mono ?_
    rintro e w3 ⟨rfl,hb3⟩
    have HL4b:=ya (zaa hb3 HL4.out)
    have HB3:=yl HB2 hb3
    obtain ⟨⟨q0,q1,q2,q3⟩,n0,n1,n2,n3⟩:=zaj HL4b.out
    clear hb3
    go_wp2
    refine yh (zab rfl _ _ (r+1) 27 _ (0,0) _ rfl (by exact set4 HL4b.out _ _ _ _) Tryz.underlying27 rfl (by exact zaC) _ rfl) rfl ?_
    rw [HR2.out]
    exact ⟨rfl,fin4 HS.out HB3.out HR1.out (zaf HL4b.out) _ _ _ _⟩
   ·have hr2:=HRX.out
    rw [yg h6] at hr2
    have HRY:=ya hr2
    have e1:(a0==6)=false:=by rw [ye];exact h6
    clear hr2 h6 HRX
    go_wp2_with fail
    refine (HWH.out _).mono ?_
    rintro e w3 ⟨rfl,hb3⟩
    have HL3b:=ya (zaa hb3 HL3.out)
    have HL4b:=ya (zaa hb3 HL4.out)
    have HB3:=yl HB2 hb3
    clear k0 k1 k2 k3 k4 k5 k6 k7 hb3
    obtain ⟨⟨k0,k1,k2,k3,k4,k5,k6,k7⟩,-⟩:=zao HL3b.out
    cases wh with
    | true =>
     have hr2:=HRY.out
     rw [yf rfl] at hr2
     have HR2:=ya hr2
     have HC2:=ya (HREF.out _ HB3.out (by rw [<-HRR.out];exact zaf HL4b.out))
     rw [HTK.out] at HC2
     unfold pvA at HC2
     simp only [PV.kind,PV.n,PV.s] at HC2
     clear hr2 HRY HREF
     go_wp2_with fail
     refine HC2.out.mono ?_
     rintro e w4 ⟨he,hs4,hk4⟩
     unfold pvA at he
     subst he
     have HL4c:=ya (hk4.obj HL4b.out (fun e=>hpr1 e.symm))
     have HS4:=ya hs4
     have HK4:=ya ((zar HB3.out).trans hk4 (fun b hb=>.inl hb))
     obtain ⟨⟨q0,q1,q2,q3⟩,n0,n1,n2,n3⟩:=zaj HL4c.out
     clear hs4 hk4 HC2
     go_wp2
     refine yh (zab rfl _ _ (r+1) 27 _ (0,0) _ rfl (by exact set4 HL4c.out _ _ _ _) Tryz.underlying27 rfl (by exact zaC) _ rfl) rfl ?_
     rw [HR2.out]
     rw [HTK.out]
     exact ⟨rfl,(HS4.out.set4 (.inr (by rw [HRR.out])) _ _ _ _).give fun b hb=>.inl hb,zaV HK4.out HR1.out _ _ _ _⟩
    | false =>
     have hr2:=HRY.out
     rw [yg (by decide)] at hr2
     have HR2:=ya hr2
     obtain ⟨⟨q0,q1,q2,q3⟩,n0,n1,n2,n3⟩:=zaj HL4b.out
     clear hr2 HRY HREF
     go_wp2
     refine yh (zab rfl _ _ (r+1) 27 _ (0,0) _ rfl (by exact set4 HL4b.out _ _ _ _) Tryz.underlying27 rfl (by exact zaC) _ rfl) rfl ?_
     rw [HR2.out,HTK.out]
     exact ⟨rfl,fin4 HS.out HB3.out HR1.out (zaf HL4b.out) _ _ _ _⟩
end
theorem ptrs_cons (g:Nat) (gs:List Nat):ptrs (g::gs)=ptrs gs++[.pointer (some ⟨g,0,none⟩)]:=by simp [ptrs]
section
variable {w0 w w' : World} {F F' G G' : Nat -> Prop} {p : Nat} {a : Option Addr} {cap : Nat} {bs : List UInt8} {yo : Bool} {st : List Lv} {at_ : Int} {gs : List Nat} {osl : Value}
theorem zaq.ownp (h:zaq w0 w F G p a cap bs yo st at_ gs osl) {b:Nat} (hb:osl.ownBlock=some b):b≠p:=by
 obtain ⟨cs,hc⟩:=zaB h.own hb;exact zaO hc h.blk (by decide)
theorem zaq.ownF (h:zaq w0 w F G p a cap bs yo st at_ gs osl) {b:Nat} (hb:osl.ownBlock=some b):¬F b:=fun hf=>by
 obtain ⟨cs,hc⟩:=zaB h.own hb
 obtain ⟨_,_,ds,hd⟩:=h.fb b hf
 exact zaO hc hd (by decide) rfl
theorem zaq.Flt (h:zaq w0 w F G p a cap bs yo st at_ gs osl) {b:Nat} (hb:F b):b<w.heap.size:=by obtain ⟨_,_,cs,hc⟩:=h.fb b hb;exact zaf hc
theorem isLV_ne {w:World} {b c:Nat} {x:Array Value} {t:TypeId} {f:Nat×Nat} (h:IsLV w b) (hc:w.heap[c]?=some (.cells x t f)) (h1:t≠166) (h2:t≠27):b≠c:=by
 rcases h with ⟨cs,h⟩|⟨cs,h⟩
 ·exact zaO h hc (Ne.symm h1)
 ·exact zaO h hc (Ne.symm h2)
theorem zaq.push (h:zaq w0 w F G p a cap bs yo st at_ gs osl) (d:Bool) (hd:st.length<64) (o:Obj) {w2:World} {v':Value}
  (hO:w2.ownsRow w0.heap.size 163 1 v' (st.length+1) (ptrs gs++[.pointer (some ⟨w.heap.size,0,none⟩)]))
  (hg:((w.alloc (.cells #[.bool d,.slice none 0 0] 166)).alloc o).grownBy w2 osl.ownBlock) (hN:NewAt ((w.alloc (.cells #[.bool d,.slice none 0 0] 166)).alloc o) osl v') :
  Nxt w0 w F G p a cap bs yo ({ dict:=d,l:=[] }::st) at_ F (w2.setCell ⟨p,3,none⟩ v'):=by
 have hs1:((w.alloc (.cells #[.bool d,.slice none 0 0] 166)).alloc o).heap.size=w.heap.size+2:=by rw [zan,zan]
 have hs2:=hg.size
 rw [hs1] at hs2
 have hb1:=zaT w (.cells #[.bool d,.slice none 0 0] 166) o
 have hp:=h.lt
 have hol:∀b,osl.ownBlock=some b->b<w.heap.size:=fun b hb=>(h.own.lt b hb).2
 have hkw:∀b,b<w.heap.size->osl.ownBlock≠some b->w2.heap[b]?=w.heap[b]?:=fun b hb hn=>(hg.block b (by rw [hs1];omega) (fun e=>hn e.symm)).trans (hb1.block b hb)
 have hk3:∀b,b≠p->(w2.setCell ⟨p,3,none⟩ v').heap[b]?=w2.heap[b]?:=fun b hb=>heap_setCell_other _ _ _ _ hb
 have hs3:(w2.setCell ⟨p,3,none⟩ v').heap.size=w2.heap.size:=by simp [World.setCell]
 have hpo:osl.ownBlock≠some p:=fun e=>h.ownp e rfl
 have hgb:w2.heap[w.heap.size]?=some (.cells #[.bool d,.slice none 0 0] 166 (0,0)):=by
  rw [hg.block w.heap.size (by rw [hs1];omega) (fun e=>by have:=hol _ e.symm;omega)]
  exact zai o (zac _ rfl)
 have hp2:w2.heap[p]?=_:=(hkw p hp hpo).trans h.blk
 have hv':∀b,v'.ownBlock=some b->b≠p:=fun b hb=>by obtain ⟨cs,hc⟩:=zaB hO hb;exact zaO hc hp2 (by decide)
 have hFs:zay F w (w2.setCell ⟨p,3,none⟩ v'):=⟨by omega,fun b hb hf=>by
  rw [hk3 b (h.notF hf),hkw b hb (fun e=>h.ownF e hf)]⟩
 refine ⟨⟨w.heap.size::gs,v',heap_setCell_same w2 p 3 _ _ _ hp2,h.base,h.gp,?_,fun b hb hG=>?_,?_,fun b hb=>?_,fun b hb=>?_,?_,h.row,h.small,by simp;omega⟩,⟨by omega,fun b hb hG=>?_⟩,hFs,fun _ h=>h⟩
 ·rw [ptrs_cons];exact zaA hO fun b hb=>hk3 b (hv' b hb)
 ·rcases hN b hb with e|e
  ·exact h.go b e hG
  ·have:=(h.gb b hG).2;rw [hs1] at e;omega
 ·refine ⟨w.heap.size,gs,.slice none 0 0,[],rfl,h.bel.size,fun hG=>by have:=(h.gb _ hG).2;omega,(hk3 _ (by omega)).trans hgb,World.ownsRow_nil _ _ _ _,rfl,fun b hb=>(by cases hb),?_⟩
  refine h.lvs.keep' hFs (fun _ h=>h) (fun b hb hn hl=>?_) (fun b hb=>.inl hb) (fun b hb=>?_)
  ·rw [hk3 b (isLV_ne hl h.blk (by decide) (by decide)),hkw b hb (fun e=>by obtain ⟨cs,hc⟩:=zaB h.own e;exact isLV_ne hl hc (by decide) (by decide) rfl)]
  ·rcases hb with hb|hb|hb
   ·exact .inl hb
   ·exact .inr (Nat.le_of_eq hb.symm)
   ·cases hb
 ·obtain ⟨h1,h2,cs,h3⟩:=h.fb b hb
  exact ⟨h1,h2,cs,by rw [hFs.2 b (h.Flt hb) hb];exact h3⟩
 ·have:=h.gb b hb;omega
 ·refine h.bel.trans (Below.setCell (w:=w2) (a:=w) (p:=⟨p,3,none⟩) ⟨?_,?_,?_,?_,fun b hb=>?_⟩ h.base _)
  ·exact hg.os.trans hb1.os
  ·exact hg.tape.trans hb1.tape
  ·exact hg.output.trans hb1.output
  ·have:=h.bel.size;omega
  ·exact hkw b (by have:=h.bel.size;omega) (fun e=>by have:=(h.own.lt b e).1;omega)
 ·rw [hk3 b (fun e=>h.gp (e▸hG)),hkw b hb (fun e=>h.go b e hG)]
theorem zaq.pop {v:Lv} (h:zaq w0 w F G p a cap bs yo (v::st) at_ gs osl) {ao:Option Addr} {oc:Nat} (ho:osl=.slice ao (st.length+1) oc) :
  ∃F' sl,(∀b,F b->F' b)/\(∃g t cs,gs=g::t/\w.heap[g]?=some (.cells #[.bool v.dict,sl] 166 (0,0))/\w.ownsRow w0.heap.size 27 4 sl v.l.length cs/\IsVs w F' v.l cs/\(∀b,sl.ownBlock=some b->F' b)) /\
   Nxt w0 w F G p a cap bs yo st at_ F' (w.setCell ⟨p,3,none⟩ (.slice ao st.length oc)):=by
 obtain ⟨g,t,sl,cs,h1,h2,h3,h4,h5,h6,h7,h8⟩:=h.lvs
 have hk3:∀b,b≠p->(w.setCell ⟨p,3,none⟩ (.slice ao st.length oc)).heap[b]?=w.heap[b]?:=fun b hb=>heap_setCell_other _ _ _ _ hb
 have hs3:(w.setCell ⟨p,3,none⟩ (.slice ao st.length oc)).heap.size=w.heap.size:=by simp [World.setCell]
 have hsp:∀b,sl.ownBlock=some b->b≠p:=fun b hb=>by obtain ⟨cs,hc⟩:=zaB h5 hb;exact zaO hc h.blk (by decide)
 subst ho h1
 have hFs:zay F w (w.setCell ⟨p,3,none⟩ (.slice ao st.length oc)):=⟨by omega,fun b hb hf=>hk3 b (h.notF hf)⟩
 refine ⟨fun b=>F b\/sl.ownBlock=some b,sl,fun b hb=>.inl hb,⟨g,t,cs,rfl,h4,h5,h6.weaken (fun b hb=>.inl hb),fun b hb=>.inr hb⟩,⟨t,.slice ao st.length oc,heap_setCell_same w p 3 _ _ _ h.blk,h.base,h.gp,?_,fun b hb=>?_,?_,fun b hb=>?_,fun b hb=>by rw [hs3];exact h.gb b hb,h.bel.trans ((Below.refl _ _).setCell h.base _),h.row,h.small,by have:=h.deep;simp at this;omega⟩,
  ⟨by omega,fun b hb hG=>hk3 b (fun e=>h.gp (e▸hG))⟩,hFs,fun b hb=>.inl hb⟩
 ·have ho:=h.own
  rw [ptrs_cons] at ho
  obtain ⟨hl,ho⟩:=ho
  rcases ho with ⟨hn,-⟩|⟨gg,cc,cur,hv,hb,hh,hc1,hc2,hc3,hc4⟩
  ·simp at hn
  ·simp only [Value.slice.injEq] at hv
   obtain ⟨rfl,-,rfl⟩:=hv
   have hlp:(ptrs t).length=st.length:=by simpa using hl
   refine ⟨by simpa using hlp,.inr ⟨gg,oc,cur,rfl,hb,?_,by simp at hc1;omega,hc2,hc3,?_⟩⟩
   ·rw [hk3 gg (by intro e;subst e;exact h.ownp rfl rfl)];exact hh
   ·have:=congrArg (List.take st.length) hc4
    simpa [List.take_take,hlp] using this
 ·refine h.go b ?_
  cases ao with
  | none=>cases hb
  | some x=>exact hb
 ·refine h8.keep' hFs (fun b hb=>.inl hb) (fun b hb hn hl=>hk3 b (isLV_ne hl h.blk (by decide) (by decide))) (fun b hb=>?_) (fun b hb=>.inl (.inl hb))
  rcases hb with hb|hb
  ·exact .inl hb
  ·exact .inr (.inl (.inr (.inr hb)))
 ·rcases hb with hb|hb
  ·obtain ⟨k1,k2,ds,k3⟩:=h.fb b hb
   exact ⟨k1,k2,ds,by rw [hk3 b (h.notF hb)];exact k3⟩
  ·obtain ⟨ds,k3⟩:=zaB h5 hb
   exact ⟨(h5.lt b hb).1,(h7 b hb).2,ds,by rw [hk3 b (hsp b hb)];exact k3⟩
theorem zaq.lastL {v:Lv} (h:zaq w0 w F G p a cap bs yo (v::st) at_ gs osl):∃g t sa sc cs,gs=g::t/\v.l.length<=sc/\sc<=maxLen/\w0.heap.size<=g/\¬G g/\w.heap[g]?=some (.cells #[.bool v.dict,.slice sa v.l.length sc] 166 (0,0)) /\
  w.ownsRow w0.heap.size 27 4 (.slice sa v.l.length sc) v.l.length cs/\IsVs w F v.l cs/\∀b,(Value.slice sa v.l.length sc).ownBlock=some b->¬F b/\¬G b:=by
 obtain ⟨g,t,sl,cs,h1,h2,h3,h4,h5,h6,h7,h8⟩:=h.lvs
 obtain ⟨sa,sc,rfl,h9,h10⟩:=zas h5
 exact ⟨g,t,sa,sc,cs,h1,h9,h10,h2,h3,h4,h5,h6,h7⟩
theorem zaq.put {v:Lv} {g:Nat} {t:List Nat} (h:zaq w0 w F G p a cap bs yo (v::st) at_ (g::t) osl) {sl:Value} (h4:w.heap[g]?=some (.cells #[.bool v.dict,sl] 166 (0,0))) {cs:List Value}
  (h6:IsVs w F v.l cs) {x:PV} {sx:Value} (hx:IsV w F x sx) {w3:World} {v':Value} (hO:w3.ownsRow w0.heap.size 27 4 v' (v.l.length+1) (cs++pvC x sx)) (hk:zae (fun b=>sl.ownBlock=some b) w w3)
  (hN:∀b,v'.ownBlock=some b->sl.ownBlock=some b\/w.heap.size<=b) :
  Nxt w0 w F G p a cap bs yo ({ v with l:=v.l++[x] }::st) at_ F (w3.setCell ⟨g,1,none⟩ v'):=by
 obtain ⟨g',t',sl',cs',h1,h2,h3,h4',h5,-,h7,h8⟩:=h.lvs
 simp only [List.cons.injEq] at h1
 obtain ⟨rfl,rfl⟩:=h1
 have hsl:sl'=sl:=by
  rw [h4] at h4'
  simpa using h4'.symm
 subst hsl
 have hgl:=zaf h4
 have hsg:∀b,sl'.ownBlock=some b->b≠g:=fun b hb=>by obtain ⟨ds,hc⟩:=zaB h5 hb;exact zaO hc h4 (by decide)
 have hsl:∀b,sl'.ownBlock=some b->b<w.heap.size:=fun b hb=>(h5.lt b hb).2
 have hk4:∀b,b≠g->(w3.setCell ⟨g,1,none⟩ v').heap[b]?=w3.heap[b]?:=fun b hb=>heap_setCell_other _ _ _ _ hb
 have hs4:(w3.setCell ⟨g,1,none⟩ v').heap.size=w3.heap.size:=by simp [World.setCell]
 have hsz:=hk.size
 have hg3:w3.heap[g]?=some (.cells #[.bool v.dict,sl'] 166 (0,0)):=hk.obj h4 (fun e=>hsg g e rfl)
 have hvg:∀b,v'.ownBlock=some b->b≠g:=fun b hb=>by obtain ⟨ds,hc⟩:=zaB hO hb;exact zaO hc hg3 (by decide)
 have hpg:p≠g:=zaO h.blk h4 (by decide)
 have hps:sl'.ownBlock≠some p:=fun e=>by obtain ⟨ds,hc⟩:=zaB h5 e;exact zaO hc h.blk (by decide) rfl
 have hFg:∀b,F b->b≠g:=fun b hb=>by obtain ⟨_,_,ds,hc⟩:=h.fb b hb;exact zaO hc h4 (by decide)
 have hFs:zay F w (w3.setCell ⟨g,1,none⟩ v'):=⟨by omega,fun b hb hf=>by rw [hk4 b (hFg b hf),hk.block b hb (fun e=>(h7 b e).1 hf)]⟩
 have hob:∀b,osl.ownBlock=some b->b≠g/\sl'.ownBlock≠some b/\b<w.heap.size:=fun b hb=>by
  obtain ⟨ds,hc⟩:=zaB h.own hb
  exact ⟨zaO hc h4 (by decide),fun e=>by obtain ⟨es,hd⟩:=zaB h5 e;exact zaO hc hd (by decide) rfl,(h.own.lt b hb).2⟩
 refine ⟨⟨g::t,osl,by rw [hk4 p hpg,hk.block p h.lt hps];exact h.blk,h.base,h.gp,zaA h.own fun b hb=>?_,h.go,?_,fun b hb=>?_,fun b hb=>by have:=h.gb b hb;omega,?_,h.row,h.small,h.deep⟩,⟨by omega,fun b hb hG=>?_⟩,hFs,fun _ h=>h⟩
 ·rw [hk4 b (hob b hb).1,hk.block b (hob b hb).2.2 (hob b hb).2.1]
 ·refine ⟨g,t,v',cs++pvC x sx,rfl,h2,h3,heap_setCell_same w3 g 1 _ _ _ hg3,?_,?_,fun b hb=>?_,?_⟩
  ·show World.ownsRow _ _ _ _ _ (v.l++[x]).length _
   rw [List.length_append]
   exact zaA hO fun b hb=>hk4 b (hvg b hb)
  ·exact (IsVs.keep hFs (fun _ h=>h) _ h6).snoc (IsV.keep hFs (fun _ h=>h) _ hx)
  ·rcases hN b hb with e|e
   ·exact h7 b e
   ·exact ⟨fun hf=>by have:=h.Flt hf;omega,fun hG=>by have:=(h.gb b hG).2;omega⟩
  ·refine h8.keep' hFs (fun _ h=>h) (fun b hb hn hl=>?_) (fun b hb=>.inl hb) (fun b hb=>?_)
   ·rw [hk4 b (fun e=>hn (.inr (.inl e))),hk.block b hb (fun e=>hn (.inr (.inr e)))]
   ·rcases hb with hb|hb|hb
    ·exact .inl (.inl hb)
    ·exact .inl (.inr (.inl hb))
    ·rcases hN b hb with e|e
     ·exact .inl (.inr (.inr e))
     ·exact .inr e
 ·obtain ⟨k1,k2,ds,k3⟩:=h.fb b hb
  exact ⟨k1,k2,ds,by rw [hFs.2 b (h.Flt hb) hb];exact k3⟩
 ·have h9:=h.bel.size
  refine h.bel.trans (Below.setCell (w:=w3) (a:=w) (p:=⟨g,1,none⟩) ⟨hk.os,hk.tape,hk.output,hsz,fun b hb=>hk.block b (by omega) (fun e=>by have:=(h5.lt b e).1;omega)⟩ h2 _)
 ·rw [hk4 b (fun e=>h3 (e▸hG)),hk.block b hb (fun e=>(h7 b e).2 hG)]
end
theorem ELvp:zdM Tryz.prog 158 163 (.pointer none) 1 8:=⟨Tryz.underlying158,by kernel_rfl,rfl,by omega⟩
section
variable {w0 w w' : World} {F F' G : Nat -> Prop} {p : Nat} {a : Option Addr} {cap : Nat} {bs : List UInt8} {yo : Bool} {st : List Lv} {at_ : Int} {gs : List Nat} {osl : Value}
theorem Nxt.refl (h:zaq w0 w F G p a cap bs yo st at_ gs osl) (hb:Below w.heap.size w w'):Nxt w0 w F G p a cap bs yo st at_ F w' :=
 ⟨⟨_,_,h.mono hb⟩,zay.of_below hb,zay.of_below hb,fun _ h=>h⟩
theorem row_newP (w:World) (x:Value) (e:TypeId) {b:Nat} (h:b=w.heap.size):Row (w.alloc (.cells #[x] e)) 1 (some ⟨b,0,none⟩) 1 1 [x]:=by subst h;exact zes w x e
theorem owns_some {w:World} {base e sz:Nat} {v:Value} {n:Nat} {xs:List Value} (h:w.ownsRow base e sz v (n+1) xs) (_:0<sz):∃g cap,v=.slice (some ⟨g,0,none⟩) (n+1) cap:=by
 rcases h.2 with ⟨-,h0⟩|⟨g,cap,cur,rfl,-⟩
 ·cases h0
 ·exact ⟨g,cap,rfl⟩
theorem zaq.keepP (h:zaq w0 w F G p a cap bs yo st at_ gs osl) {W1 w2:World} (hb:Below w.heap.size w W1) (hg:W1.grownBy w2 osl.ownBlock) :
  w2.heap[p]?=some (.cells #[.slice a bs.length cap,.int .i64 at_,.bool yo,osl] 160 (0,0)) :=
 (hg.block p (Nat.lt_of_lt_of_le h.lt hb.size) (fun e=>h.ownp e.symm rfl)).trans (zaa hb h.blk)
theorem begin_any (h:zaq w0 w F G p a cap bs yo st at_ gs osl) (d:Bool):Calls Tryz.prog 118 #[.pointer (some ⟨p,0,none⟩),.bool d] w fun e w' =>
  e=.returned (.int .i64 (zbH st d).2)/\Nxt w0 w F G p a cap bs yo (zbH st d).1 at_ F w':=by
 obtain ⟨R,hR⟩:∃R,R=zbH st d:=⟨_,rfl⟩
 rw [<-hR]
 unfold zbH at hR
 have HR:=ya hR
 have HTOP:=ya (zgw h)
 have HTP:=ya (fun q=>(h.drewN q).top)
 have HS:=ya h
 have hdp:=h.deep
 clear h hR
 go_enter Tryz.func118,Tryz.ntmps118
 go_wp2_with fail
 refine HTOP.out.mono ?_
 rintro e w1 ⟨rfl,q,rfl⟩
 have HS1:=ya (HS.out.drewN q)
 go_upto_region 2 with fail
 go_cut [13] from 6 (fun v13 wx=>v13=.bool (topW st)/\w.drewN q=wx)
 case first =>
  rcases HTP.out q with ⟨rfl,rfl⟩|⟨v,st',g,t',sa,sc,rfl,rfl,h1,h2,h3⟩
  ·unfold topP
   go_wp2
   go_meet
   exact ⟨rfl,rfl⟩
  ·have HWT:=ya (zeU h3 (by omega))
   have HTW:=ya (show topW (v::st')=(v.dict&&v.l.length % 2==0) from rfl)
   unfold topP
   generalize (v.dict&&v.l.length % 2==0)=tw at *
   clear h1 h2 h3
   go_wp2_with (go_at_call 158;refine HWT.out.mono ?_;rintro e w' ⟨rfl,rfl⟩)
   go_meet
   exact ⟨by rw [HTW.out],rfl⟩
 case rest =>
  obtain ⟨rfl,rfl⟩:=hcut
  obtain ⟨tw,htw⟩:∃tw,tw=topW st:=⟨_,rfl⟩
  rw [<-htw]
  have HTW:=ya htw
  clear htw
  cases tw with
  | true =>
   have hr2:=HR.out
   rw [yf HTW.out.symm] at hr2
   have HR2:=ya hr2
   clear hr2 HR
   go_wp2
   go_ret
   rw [HR2.out]
   exact ⟨rfl,Nxt.refl HS.out (zad (Below.refl _ _) q)⟩
  | false =>
   have hr2:=HR.out
   rw [yg (by rw [<-HTW.out];decide)] at hr2
   have HRX:=ya hr2
   obtain ⟨ao,oc,rfl,hro1,hro2⟩:=zas HS1.out.own
   obtain ⟨⟨c0,c1,c2,c3⟩,f0,f1,f2,f3⟩:=HS1.out.cells
   clear hr2 HR
   by_cases h64:64<=st.length
   ·have hd:decide (64<=st.length)=true:=yb h64
    have hd2:decide ((64:Int)<=(st.length:Int))=true:=yb (by omega)
    have hr2:=HRX.out
    rw [yf h64] at hr2
    have HR2:=ya hr2
    clear hr2 h64
    go_wp2
    go_ret
    rw [HR2.out]
    exact ⟨rfl,Nxt.refl HS.out (zad (Below.refl _ _) q)⟩
   ·have hd:decide (64<=st.length)=false:=yd h64
    have hd2:decide ((64:Int)<=(st.length:Int))=false:=yd (by omega)
    have hr2:=HRX.out
    rw [yg h64] at hr2
    have HR2:=ya hr2
    have hsl:st.length<64:=by omega
    clear hr2 h64
    go_wp2_with (at_builtin;refine append_at ELvp rfl _ _ rfl w0.heap.size _ st.length (ptrs gs) rfl (zaH HS1.out.own (zaT _ _ _)) _ 1 1 [.pointer (some ⟨w.heap.size,0,none⟩)] rfl (row_newP _ _ _ (by rw [zan];rfl)) (zgL rfl) (by unfold maxLen;omega) (by omega) (by rw [zan,zan];have:=HS1.out.bel.size;omega) ?_;intro v2 w2 hO hg hN;obtain ⟨g2,oc2,rfl⟩:=owns_some hO (by omega);obtain ⟨⟨k0,k1,k2,k3⟩,l0,l1,l2,l3⟩:=zaj (HS1.out.keepP (zaT _ _ _) hg))
    go_ret
    rw [HR2.out]
    have hN:=HS1.out.push d hsl _ hO hg hN
    exact ⟨rfl,hN.stk,hN.sg,hN.sf,hN.ff⟩
end
def cmpS (a b:List UInt8):Int:=if sLt a b=true then -1 else if sLt b a=true then 1 else 0
theorem isNaNS_any (a:ByteArray) (w:World):Calls Tryz.prog 210 #[.string a] w fun e w'=>e=.returned (.bool false)/\w=w':=by
 go_enter Tryz.func210,Tryz.ntmps210
 go_wp2
 go_ret
 exact ⟨zaY (by simp),rfl⟩
theorem cmpS_any (a b:List UInt8) (w:World):Calls Tryz.prog 188 #[.string (mkB a),.string (mkB b)] w fun e w'=>e=.returned (.int .i64 (cmpS a b))/\w=w':=by
 have hl:Op.bytesLess (mkB a).toList (mkB b).toList=sLt a b:=by rw [zal,zal,zc2]
 have hg:¬sLt a b=true->(Op.bytesLess (mkB a).toList (mkB b).toList||(mkB a).toList==(mkB b).toList)=!sLt b a:=fun h=>by
  rw [zal,zal,zc2]
  have h':sLt a b=false:=by simpa using h
  rw [h',Bool.false_or]
  by_cases e:a=b
  ·subst e;simp [zfc]
  ·rw [zci a b h' e];simp [e]
 have HN:=ya (fun (a:ByteArray) (w:World)=>isNaNS_any a w)
 unfold cmpS
 by_cases h1:sLt a b=true
 ·rw [yf h1]
  rw [h1] at hl
  clear hg h1
  generalize mkB a=x at *
  generalize mkB b=y at *
  go_enter Tryz.func188,Tryz.ntmps188
  go_wp2_with (go_at_call 210;refine (HN.out _ _).mono ?_;rintro e w' ⟨rfl,rfl⟩)
  go_ret
  exact ⟨rfl,rfl⟩
 ·rw [yg h1]
  have hg:=hg h1
  rw [show sLt a b=false by simpa using h1] at hl
  by_cases h2:sLt b a=true
  ·rw [yf h2]
   rw [h2,hl,Bool.false_or] at hg
   clear h1 h2
   generalize mkB a=x at *
   generalize mkB b=y at *
   simp only [Bool.not_true] at hg
   go_enter Tryz.func188,Tryz.ntmps188
   go_wp2_with (go_at_call 210;refine (HN.out _ _).mono ?_;rintro e w' ⟨rfl,rfl⟩)
   go_ret
   exact ⟨rfl,rfl⟩
  ·rw [yg h2]
   rw [show sLt b a=false by simpa using h2,hl,Bool.false_or] at hg
   clear h1 h2
   generalize mkB a=x at *
   generalize mkB b=y at *
   simp only [yi] at hg
   go_enter Tryz.func188,Tryz.ntmps188
   go_wp2_with (go_at_call 210;refine (HN.out _ _).mono ?_;rintro e w' ⟨rfl,rfl⟩)
   go_ret
   exact ⟨rfl,rfl⟩
theorem cmpPair_any {w:World} {b o1 o2 n1 n2 c1 c2:Nat} {x y:List UInt8} (h1:w.cell? ⟨b,o1+2,none⟩=some (.string (mkB x))) (h2:w.cell? ⟨b,o2+2,none⟩=some (.string (mkB y))) (g1:0<n1) (g2:0<n2) :
  Calls Tryz.prog 187 #[.slice (some ⟨b,o1,none⟩) n1 c1,.slice (some ⟨b,o2,none⟩) n2 c2] w fun e w'=>e=.returned (.int .i64 (cmpS x y))/\∃q,w'=w.drewN q:=by
 have HC:=ya (fun W=>cmpS_any x y W)
 generalize cmpS x y=c at *
 generalize mkB x=x' at *
 generalize mkB y=y' at *
 have i1:(0:Int)<(n1:Int):=by omega
 have i2:(0:Int)<(n2:Int):=by omega
 go_enter Tryz.func187,Tryz.ntmps187
 go_wp2
 go_quiet ((go_at_call 188;exact Calls.quiet_of ((HC.out _).mono fun _ _ h=>⟨h.1,0,h.2.symm⟩)))
 go_wp2
 go_ret
 exact ⟨rfl,_,rfl⟩
end Go.Proofs.YtfafdeemfeaedaaGreat
namespace Go.Proofs.YtfafdeemfeaedaaGreat
open Go.RowKit Go.Sort
structure SB {α:Type} (enc:α->Value) (w0:World) (g:Nat) (t:TypeId) (rest:List Value) (d:Array α) (w:World):Prop where
 grown:w0.grownBy w (some g)
 blk:w.heap[g]?=some (.cells (d.toList.map enc++rest).toArray t (0,0))
section
variable {α : Type} {enc : α -> Value} {w0 w : World} {g : Nat} {t : TypeId} {rest : List Value} {d : Array α}
theorem SB.cell [Inhabited α] (h:SB enc w0 g t rest d w) (i:Nat) (hi:i<d.size):w.cell? ⟨g,i,none⟩=some (enc d[i]!):=by
 rw [cell_of_row w g i _ t (0,0) h.blk]
 simp [List.getElem?_append,hi]
theorem SB.free (h:SB enc w0 g t rest d w) (i:Nat):w.frozen? ⟨g,i,none⟩=false:=frozen_of_row w g i _ t h.blk
theorem SB.drewN (h:SB enc w0 g t rest d w) (n:Nat):SB enc w0 g t rest d (w.drewN n):=⟨⟨h.grown.os,h.grown.tape,h.grown.output,h.grown.size,h.grown.block⟩,h.blk⟩
theorem zeX {w0 w:World} {g i:Nat} (h:w0.grownBy w (some g)) (v:Value):w0.grownBy (w.setCell ⟨g,i,none⟩ v) (some g) :=
 ⟨h.os,h.tape,h.output,by simp [World.setCell];exact h.size,fun k hk hne=>by rw [heap_setCell_other w ⟨g,i,none⟩ k v (fun e=>hne (by simp [e]))];exact h.block k hk hne⟩
theorem zea (w:World) (row:Option Nat):w.grownBy w row:=⟨rfl,rfl,rfl,ym _,fun _ _ _=>rfl⟩
theorem zgC {w0 w:World} {row:Option Nat} (h:w0.grownBy w row) (n:Nat):w0.grownBy (w.drewN n) row:=⟨h.os,h.tape,h.output,h.size,h.block⟩
theorem SB.set (h:SB enc w0 g t rest d w) (i:Nat) (hi:i<d.size) (x:α):SB enc w0 g t rest (d.setIfInBounds i x) (w.setCell ⟨g,i,none⟩ (enc x)):=by
 refine ⟨zeX h.grown _,?_⟩
 rw [heap_setCell_same w g i _ t _ h.blk,List.setIfInBounds_toArray,List.set_append]
 simp [hi,List.map_set]
theorem SB.swp [Inhabited α] (h:SB enc w0 g t rest d w) (i j:Nat) (hi:i<d.size) (hj:j<d.size) (q:Nat) :
  SB enc w0 g t rest (swp d i j) (((w.drewN q).setCell ⟨g,i,none⟩ (enc d[j]!)).setCell ⟨g,j,none⟩ (enc d[i]!)) :=
 ((h.drewN q).set i hi _).set j (by simpa using hj) _
theorem SB.row (h:SB enc w0 g t rest d w) {cap:Nat} (h1:d.size<=cap) (h2:cap<=maxLen):Row w 1 (some ⟨g,0,none⟩) d.size cap (d.toList.map enc):=by
 refine ⟨by simp,h1,h2,fun e=>(by cases e),fun _=>⟨g,0,rfl,(Array.getElem?_eq_some_iff.1 h.blk).1,fun j u hj=>?_⟩⟩
 rw [Nat.zero_add,cell_of_row w g j _ t (0,0) h.blk]
 have hjl:=(List.getElem?_eq_some_iff.1 hj).1
 rw [List.getElem?_toArray,List.getElem?_append_left hjl];exact hj
theorem SB.start {cs:Array Value} {n:Nat} (hb:w.heap[g]?=some (.cells cs t (0,0))) (hx:cs.toList.take n=d.toList.map enc):SB enc w g t (cs.toList.drop n) d w :=
 ⟨⟨rfl,rfl,rfl,ym _,fun _ _ _=>rfl⟩,by rw [<-hx,List.take_append_drop];exact hb⟩
end
structure CmpQ {α:Type} (P:Program) (f:FuncId) (cb:Array Value) (enc:α->Value) (cf:α->α->Int) (D:α->Prop) (w0:World) (g:Nat):Prop where
 enters:∀args w,(callFunc f args).run P w=.ok (.enter f args) w
 calls:∀W,w0.grownBy W (some g)->∀x y,D x->D y->Calls P f (#[enc x,enc y]++cb) W fun e w'=>e=.returned (.int .i64 (cf x y))/\∃q,w'=W.drewN q
def ltOf {α:Type} (cf:α->α->Int) (x y:α):Bool:=decide (cf x y<0)
section
variable {α : Type} [Inhabited α] (lt : α -> α -> Bool)
theorem inner_go (a j:Nat) (d:Array α) (hj:a<j) (hl:lt d[j]! d[j-1]! = true):insInner lt a j d=insInner lt a (j-1) (swp d j (j-1)):=by
 rcases j with _|k
 ·omega
 ·have h1:(decide (k+1 > a)&&lt d[k+1]! d[k]!)=true:=by simp only [Nat.add_sub_cancel] at hl;simp [hl,hj]
  rw [insInner,yf h1];rfl
theorem zfQ (a j:Nat) (d:Array α) (h:j<=a\/lt d[j]! d[j-1]! = false):insInner lt a j d=d:=by
 rcases j with _|k
 ·rfl
 ·rw [insInner,yg]
  simp only [Nat.add_sub_cancel] at h
  rcases h with h|h
  ·simp;omega
  ·simp [h]
theorem zen (a b i:Nat) (d:Array α) (h:i<b):insOuter lt a b i d=insOuter lt a b (i+1) (insInner lt a i d):=by rw [insOuter,yf h]
theorem zcb (a b i:Nat) (d:Array α) (h:¬i<b):insOuter lt a b i d=d:=by rw [insOuter,yg h]
end
end Go.Proofs.YtfafdeemfeaedaaGreat
namespace Go.Proofs.YtfafdeemfeaedaaGreat
open Go.RowKit Go.Shelf
attribute [local go_sem] Oper.semAt_some
def zbL (b off:Nat) (k:Nat):Value:=.slice (some ⟨b,off+2*k*4,none⟩) 2 2
theorem staysK_t {S:Nat->Prop} {A B C:World} (h:zay S A B) (k:zay S B C):zay S A C:=h.trans k
theorem staysK_b {S:Nat->Prop} {w:World} (hS:∀b,S b->b<w.heap.size) (W:World) (l:Nat) (o o':Obj) (hl:w.heap.size<=l) (_:W.heap[l]?=some o) (_:o.isCells=false) (_:o.isWalk=false):zay S W (W.putObj l o') :=
 ⟨by simp,fun b _ hb=>World.putObj_heap_other (fun e=>by have:=hS b hb;omega)⟩
theorem chunk_in (_:Fence.wide.fn 185) (n:Nat) (a:Option Addr) (len cap:Nat) (w:World) :
  CallsIn Fence.wide n Tryz.prog 185 #[.slice a len cap,.int .i64 2] w fun e w'=>e=.returned (.func (.func 208) #[] #[.pointer (some ⟨w.heap.size,0,none⟩),.pointer (some ⟨w.heap.size+1,0,none⟩)]) /\
   w'=(w.alloc (.cells #[.slice a len cap] 25)).alloc (.cells #[.int .i64 2] 3):=by
 refine callsIn_wide.2 ?_
 go_enter Tryz.func185,Tryz.ntmps185
 go_wp2
 go_ret
 exact ⟨rfl,rfl⟩
set_option maxRecDepth 100000 in
theorem chunk1_in (n:Nat) (hro:Fence.wide.round=none) (hn:1<=n) (l Bs Bn b off m cap:Nat) (hcap:2*m<=cap) (hcm:cap<=maxLen) (J Jx:List Nat->World->Prop) (hJd:∀s W q,J s W->J s (W.drewN q))
  (hY:∀pre x W,J pre W->pre.length<m->YieldAt Fence.wide (n-1) Tryz.prog l #[zbL b off x] W fun e W' =>
   (e=.returned (.bool true)/\J (pre++[x]) W'/\zay (fun c=>c=Bs\/c=Bn) W W')\/(e=.returned (.bool false)/\Jx (pre++[x]) W'))
  (W:World) (hBs:W.cell? ⟨Bs,0,none⟩=some (.slice (some ⟨b,off,none⟩) (2*m) cap)) (hBn:W.cell? ⟨Bn,0,none⟩=some (.int .i64 2)) (h0:J [] W) :
  CallsIn Fence.wide n Tryz.prog 208 #[.func (.yield l) #[] #[],.pointer (some ⟨Bs,0,none⟩),.pointer (some ⟨Bn,0,none⟩)] W fun e W'=>(∃v,e=.returned v) /\
   ((∃ys,ys=List.range m/\J ys W')\/(∃pre,(∃k,k<=m/\pre=List.range k)/\Jx pre W')):=by
 unfold maxLen at hcm
 refine callsIn_of_wp Tryz.func208 rfl trivial ?_ hro
 simp only [Tryz.ntmps208,List.size_toArray,List.length_cons,List.length_nil,Nat.reduceAdd,Nat.reduceSub,Array.replicate_succ,Array.replicate_zero,List.push_toArray,List.append_toArray,List.nil_append,List.cons_append]
 gi_wp2
 gi_loopw [4] (fun i wr=>∃k:Nat,k<=m/\i=.int .i64 (2*(k:Int))/\J (List.range k) wr/\zay (fun c=>c=Bs\/c=Bn) W wr)
  (fun i _=>2*m-(intOf i).toNat)
 case atStart=>exact ⟨0,Nat.zero_le _,rfl,h0,zay.refl _ _⟩
 case round =>
  obtain ⟨k,hk,rfl,hJs,hnx⟩:=hrel
  have e1:wr.cell? ⟨Bs,0,none⟩=some (.slice (some ⟨b,off,none⟩) (2*m) cap):=(World.cell?_of_block (hnx.2 Bs (World.block_lt_of_cell? W _ hBs) (.inl rfl))).trans hBs
  have e2:wr.cell? ⟨Bn,0,none⟩=some (.int .i64 2):=(World.cell?_of_block (hnx.2 Bn (World.block_lt_of_cell? W _ hBn) (.inr rfl))).trans hBn
  by_cases hlt:k<m
  ·have d1:decide (2*(k:Int)<((2*m:Nat):Int))=true:=yb (by omega)
   have HJ:=ya hJs
   have HY:=ya hY
   have HJD:=ya hJd
   clear hJs hY hJd
   gi_wp2
   refine wpIn_wide.2 ?_
   have i1:(0:Int)<=2*(k:Int):=by omega
   have i2:(2*(k:Int)).toNat=2*k:=by omega
   have i3:(2*(k:Int))<=(cap:Int):=by omega
   have i4:2*k<=2*m:=by omega
   go_quiet (fail)
   obtain ⟨fn,tmps,assign,body,hy,hR⟩:=HY.out _ k (wr.drewN nq) (HJD.out _ _ nq HJ.out) (by simpa using hlt)
   unfold zbL at hy
   have i5:2*(k:Int)+2<=(cap:Int):=by omega
   have i6:(2*(k:Int)+2).toNat=2*k+2:=by omega
   have i7:(0:Int)<=2*(k:Int)+2:=by omega
   have i8:2*(k:Int)<=2*(k:Int)+2:=by omega
   gi_wp2
   refine hR.mono ?_
   rintro e W3 (⟨rfl,hJ3,hk3⟩|⟨rfl,hJx3⟩)
   ·have g1:W3.cell? ⟨Bs,0,none⟩=some (.slice (some ⟨b,off,none⟩) (2*m) cap):=(World.cell?_of_block (hk3.2 Bs (World.block_lt_of_cell? (wr.drewN nq) _ e1) (.inl rfl))).trans e1
    have g2:W3.cell? ⟨Bn,0,none⟩=some (.int .i64 2):=(World.cell?_of_block (hk3.2 Bn (World.block_lt_of_cell? (wr.drewN nq) _ e2) (.inr rfl))).trans e2
    have HJ3:=ya hJ3
    have HK3:=ya (hnx.trans (show zay (fun c=>c=Bs\/c=Bn) wr W3 from hk3))
    clear hJ3 hk3
    gi_wp2
    go_roundw
    case rel=>exact ⟨k+1,by omega,by congr 1,by rw [List.range_succ];exact HJ3.out,HK3.out⟩
    case measure=>simp [intOf];omega
   ·gi_wp2
    refine yh (results_none rfl _ _ _) rfl ?_
    exact ⟨⟨_,rfl⟩,.inr ⟨_,⟨k+1,by omega,by rw [List.range_succ]⟩,hJx3⟩⟩
  ·obtain rfl:k=m:=by omega
   have d1:decide (2*(k:Int)<((2*k:Nat):Int))=false:=yd (by omega)
   gi_wp2
   go_end0
   exact ⟨⟨_,rfl⟩,.inl ⟨_,rfl,hJs⟩⟩
theorem chunk0_in (n:Nat) (hro:Fence.wide.round=none) (l Bs Bn:Nat) (a:Option Addr) (cap:Nat) (J:List Nat->World->Prop) (W:World) (hBs:W.cell? ⟨Bs,0,none⟩=some (.slice a 0 cap)) (h0:J [] W) :
  CallsIn Fence.wide n Tryz.prog 208 #[.func (.yield l) #[] #[],.pointer (some ⟨Bs,0,none⟩),.pointer (some ⟨Bn,0,none⟩)] W fun e W'=>(∃v,e=.returned v)/\J [] W':=by
 refine callsIn_of_wp Tryz.func208 rfl trivial ?_ hro
 simp only [Tryz.ntmps208,List.size_toArray,List.length_cons,List.length_nil,Nat.reduceAdd,Nat.reduceSub,Array.replicate_succ,Array.replicate_zero,List.push_toArray,List.append_toArray,List.nil_append,List.cons_append]
 gi_wp2
 gi_loopw [4] (fun i wr=>i=.int .i64 0/\wr.cell? ⟨Bs,0,none⟩=some (.slice a 0 cap)/\J [] wr) (fun _ _=>0)
 case atStart=>exact ⟨rfl,hBs,h0⟩
 case round =>
  obtain ⟨rfl,hb,hJs⟩:=hrel
  gi_wp2
  go_end0
  exact ⟨⟨_,rfl⟩,hJs⟩
theorem chunk_stops (n:Nat) (hro:Fence.wide.round=none) (hn:1<=n) (Bs Bn b off m cap:Nat) (a:Option Addr) (ha:0<m->a=some ⟨b,off,none⟩) (hcap:2*m<=cap) (hcm:cap<=maxLen) (w:World) (hBs:Bs<w.heap.size) (hBn:Bn<w.heap.size)
  (h1:w.cell? ⟨Bs,0,none⟩=some (.slice a (2*m) cap)) (h2:w.cell? ⟨Bn,0,none⟩=some (.int .i64 2)) :
  SeqStopsK Fence.wide n Tryz.prog 208 #[.pointer (some ⟨Bs,0,none⟩),.pointer (some ⟨Bn,0,none⟩)] (fun x:Nat=>#[zbL b off x]) (zay (fun c=>c=Bs\/c=Bn)) (fun ys=>ys=List.range m) (fun pre=>∃k,k<=m/\pre=List.range k) m w:=by
 intro l J Jx W hW hJ _ hY h0
 have e1:=(hW.cell (p:=⟨Bs,0,none⟩) hBs).trans h1
 have e2:=(hW.cell (p:=⟨Bn,0,none⟩) hBn).trans h2
 rcases Nat.eq_zero_or_pos m with rfl|hm
 ·exact (chunk0_in n hro l Bs Bn a cap J W e1 h0).mono fun e W' ⟨he,hj⟩=>⟨he,.inl ⟨_,rfl,hj⟩⟩
 ·rw [ha hm] at e1
  exact chunk1_in n hro hn l Bs Bn b off m cap hcap hcm J Jx (fun s W1 q hs=>hJ s W1 (W1.drewN q) none hs (zgC (zea W1 none) q) (fun r e=>by cases e)) hY W e1 e2 h0
end Go.Proofs.YtfafdeemfeaedaaGreat
