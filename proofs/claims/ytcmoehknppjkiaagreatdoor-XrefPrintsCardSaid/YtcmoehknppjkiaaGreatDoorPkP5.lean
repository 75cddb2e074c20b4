/-
  Our texts Xr5 to ParU, in one.
-/
import Derived.Test.YtcmoehknppjkiaaGreatDoorPkP4
import Derived.IntWalk
import Derived.Deep.RegionHeld3
import Derived.Deep.AppendLies
import Derived.PlainAid
import Derived.Deep.DeepCutAuto
import Derived.Test.YtcmoehknppjkiaaGreatDoorProg
import Derived.BigQuiet
import Derived.Sort.LotA
import Derived.Sort.Lot0
import Derived.Deep.Draws
import Derived.RangeFuncBox
import Derived.RangeFuncNested
import Derived.RangeFuncBound
import Derived.RangeFuncCalls
import Derived.RangeFuncLeaves
import Derived.Shelf.Abstract
import Derived.Shelf.RegionOpen
import Derived.OwnWalkIn
import Derived.TacticsInMore
import Derived.LoopNIn
import Derived.LoopIn
set_option maxRecDepth 8000
set_option maxHeartbeats 8000000
namespace Go.Proofs.YtcmoehknppjkiaaGreatDoor
open Go.RowKit
theorem grps_err {bs:List UInt8} {yq:Bool} {g:Nat} {gs:List Grp} {k:Int} (he:(nxtV bs yq k).2.2.2≠0):zcb bs yq (g+1) gs k=([],0,(nxtV bs yq k).2.2.2):=by
 unfold zcb;simp only;rw [yg he]
theorem zfi {bs:List UInt8} {yq:Bool} {g:Nat} {gs:List Grp} {k:Int} (he:(nxtV bs yq k).2.2.2=0) (ht:zd1 (nxtV bs yq k).1=true):zcb bs yq (g+1) gs k=(gs,(nxtV bs yq k).2.2.1,0):=by
 unfold zcb;simp only;rw [yh (by rw [he];decide),yg ht]
theorem grps_bad {bs:List UInt8} {yq:Bool} {g:Nat} {gs:List Grp} {k:Int} (he:(nxtV bs yq k).2.2.2=0) (ht:zd1 (nxtV bs yq k).1=false) (hw:za2 (nxtV bs yq k).1=false):zcb bs yq (g+1) gs k=([],0,20):=by
 unfold zcb;simp only;rw [yh (by rw [he];decide),yh (by rw [ht];decide),yg hw]
theorem grps_full {bs:List UInt8} {yq:Bool} {g:Nat} {gs:List Grp} {k:Int} (he:(nxtV bs yq k).2.2.2=0) (ht:zd1 (nxtV bs yq k).1=false) (hw:za2 (nxtV bs yq k).1=true) (hl:gs.length=64) :
  zcb bs yq (g+1) gs k=([],0,if (nxtV bs yq (nxtV bs yq k).2.2.1).2.2.2≠0 then (nxtV bs yq (nxtV bs yq k).2.2.1).2.2.2 else 20):=by
 unfold zcb;simp only
 rw [yh (by rw [he];decide),yh (by rw [ht];decide),yh (by rw [hw];decide)]
 split
 ·rfl
 ·rw [yg (.inr (.inl hl))]
theorem grps_step {bs:List UInt8} {yq:Bool} {g:Nat} {gs:List Grp} {k:Int} (he:(nxtV bs yq k).2.2.2=0) (ht:zd1 (nxtV bs yq k).1=false) (hl:gs.length≠64) :
  zcb bs yq (g+1) gs k=if (grp1 bs yq (nxtV bs yq k).1 (nxtV bs yq k).2.2.1).2.2≠0 then ([],0,(grp1 bs yq (nxtV bs yq k).1 (nxtV bs yq k).2.2.1).2.2)
   else zcb bs yq g (gs++[(grp1 bs yq (nxtV bs yq k).1 (nxtV bs yq k).2.2.1).1]) (grp1 bs yq (nxtV bs yq k).1 (nxtV bs yq k).2.2.1).2.1:=by
 conv=>lhs;unfold zcb
 simp only
 rw [yh (by rw [he];decide),yh (by rw [ht];decide)]
 unfold grp1
 generalize nxtV bs yq (nxtV bs yq k).2.2.1=u
 generalize nxtV bs yq k=t
 by_cases hw:za2 t.1=false
 ·simp [hw]
 rw [yh hw,yh hw]
 by_cases hu:u.2.2.2≠0
 ·rw [yg hu,yg hu]
  simp [hu]
 rw [yh hu,yh hu]
 by_cases hf:za2 u.1=false\/ze5 t.1.vn u.1.vn=false
 ·rw [yg (hf.imp id fun h=>.inr h),yg hf]
  simp
 rw [yh (fun h=>h.elim (fun a=>hf (.inl a)) (fun b=>b.elim hl (fun c=>hf (.inr c)))),yh hf]
 by_cases hq:(zdR bs yq u.1.vn.toNat u.2.2.1.toNat []).2.2≠0
 ·rw [yg hq,yg hq]
  simp [hq]
 ·rw [yh hq,yh hq]
  simp
theorem grp1_le {bs:List UInt8} {yq:Bool} {x:Tk} {k:Int} (h0:0<=k) (h1:k<=bs.length):0<=(grp1 bs yq x k).2.1/\(grp1 bs yq x k).2.1<=bs.length:=by
 have hto:=za8 (bs:=bs) (k:=k) yq h0 h1
 rw [<-nxt_3] at hto
 have hen:∀(m a:Nat) (l:List Ent),a<=bs.length->(zdR bs yq m a l).2.1<=bs.length:=by
  intro m
  induction m with
  | zero=>intro a l h;exact h
  | succ m ih =>
   intro a l h
   rw [zdR]
   split
   ·exact Nat.zero_le _
   ·rename_i he
    exact ih _ _ (entV_le h (by simpa using he))
 unfold grp1
 split
 ·exact ⟨Int.le_refl _,by show (0:Int)<=_;omega⟩
 split
 ·exact ⟨Int.le_refl _,by show (0:Int)<=_;omega⟩
 split
 ·exact ⟨Int.le_refl _,by show (0:Int)<=_;omega⟩
 split
 ·exact ⟨Int.le_refl _,by show (0:Int)<=_;omega⟩
 ·have:=hen (nxtV bs yq k).1.vn.toNat (nxtV bs yq k).2.2.1.toNat [] (by omega)
  exact ⟨by show (0:Int)<=((_:Nat):Int);omega,by show ((_:Nat):Int)<=_;omega⟩
theorem EGrp:zeX Tryz.prog 22 58 (.agg #[.int .i64 0,.slice none 0 0]) 2 32:=⟨Tryz.underlying22,by kernel_rfl,rfl,by omega⟩
theorem trail_iff (x:Tk):zd1 x=(x.kind==6&&decide (x.s=[116,114,97,105,108,101,114])):=by
 unfold zd1
 congr 1
 by_cases h:x.s=[116,114,97,105,108,101,114]<;>simp [h]
theorem heapA_keep (W:World) (o:Obj) {b:Nat} (hb:b<W.heap.size):(W.alloc o).heap[b]?=W.heap[b]?:=(zae W o).block b hb
structure GsM (w W:World) (p:Nat) (gs:List Grp) (cs:List Value) (v:Value):Prop where
 own:W.ownsRow w.heap.size 58 2 v gs.length cs
 hold:IsGs W (fun b=>w.heap.size<=b/\v.ownBlock≠some b) gs cs
 kps:zaf (fun b=>b=p) w W
theorem GsM.on {w W W':World} {p:Nat} {gs:List Grp} {cs:List Value} {v:Value} (h:GsM w W p gs cs v) (hp:p<w.heap.size) (hk:zaf (fun b=>b=p) W W'):GsM w W' p gs cs v :=
 ⟨za0 h.own fun b hb=>hk.block b (h.own.lt b hb).2 (by have:=(h.own.lt b hb).1;omega),h.hold.keep ⟨hk.size,fun b hb hF=>hk.block b hb (by have:=hF.1;omega)⟩ (fun _ h=>h),h.kps.trans hk (fun x hx=>.inl hx)⟩
theorem GsM.fin {w W:World} {p:Nat} {gs:List Grp} {cs:List Value} {v:Value} (h:GsM w W p gs cs v):IsG W (fun b=>w.heap.size<=b) gs v:=by
 obtain ⟨a,cap,e,-,-⟩:=zaG h.own
 subst e
 exact ⟨a,cap,cs,rfl,(Row.of_own h.own).2,fun h0 x hx=>(h.own.lt x.block (by rw [hx];rfl)).1,h.hold.keep (zaJ.refl _ _) (fun b hb=>hb.1)⟩
theorem GsM.app {w W W8:World} {p:Nat} {o:Obj} {gs:List Grp} {cs:List Value} {v v':Value} (h:GsM w W p gs cs v) (hg8:(W.alloc o).grownBy W8 v.ownBlock) {n:Int} {es:List Ent} {sv:Value} {B:Nat} (he:IsE W (fun b=>B<=b) es sv) (hB:w.heap.size<=B) (hv:∀b,v.ownBlock=some b->b<B) (_hBW:B<=W.heap.size)
  (hO:W8.ownsRow w.heap.size 58 2 v' (gs.length+1) (cs++[.int .i64 n,sv])) (hn:∀b,v'.ownBlock=some b->v.ownBlock=some b\/(W.alloc o).heap.size<=b):GsM w W8 p (gs++[⟨n,es⟩]) (cs++[.int .i64 n,sv]) v':=by
 have hst:zaJ (fun b=>v.ownBlock≠some b/\b<W.heap.size) W W8:=⟨by have:=hg8.size;rw [zaq] at this;omega,fun b hb hF=>by
  rw [hg8.block b (by rw [zaq];omega) (fun e=>hF.1 e.symm)]
  exact (heapA_keep W o hb)⟩
 refine ⟨by rw [List.length_append];exact hO,?_,(h.kps.alloc o).grown hg8 (fun k hk=>.inr (h.own.lt k hk).1)⟩
 have hnew:∀b,b<W.heap.size->v.ownBlock≠some b->v'.ownBlock≠some b:=fun b hb hne e=>by
  rcases hn b e with h1|h1
  ·exact hne h1
  ·rw [zaq] at h1;omega
 have lt_e:∀ {es:List Ent} {sv:Value} {F:Nat->Prop},IsE W F es sv->IsE W (fun b=>F b/\b<W.heap.size) es sv:=fun {es sv F} h=>by
  obtain ⟨a,cap,e,hr,hF⟩:=h
  exact ⟨a,cap,e,hr,fun h0 x hx=>⟨hF h0 x hx,hr.lt h0 x hx⟩⟩
 have lt_g:∀ {gs:List Grp} {cs:List Value} {F:Nat->Prop},IsGs W F gs cs->IsGs W (fun b=>F b/\b<W.heap.size) gs cs:=fun {gs}=>by
  induction gs with
  | nil=>exact fun h=>h
  | cons g gs ih=>exact fun ⟨v,t,e,h1,h2⟩=>⟨v,t,e,lt_e h1,ih h2⟩
 refine IsGs.snoc ?_ ?_
 ·have h2:=(lt_g h.hold)
  have h3:IsGs W8 (fun b=>(w.heap.size<=b/\v.ownBlock≠some b)/\b<W.heap.size) gs cs:=h2.keep ⟨hst.1,fun b hb hF=>hst.2 b hb ⟨hF.1.2,hF.2⟩⟩ (fun _ h=>h)
  exact h3.keep (zaJ.refl _ _) (fun b hb=>⟨hb.1.1,hnew b hb.2 hb.1.2⟩)
 ·have h2:IsE W (fun b=>B<=b/\b<W.heap.size) es sv:=lt_e he
  have hne:∀b,B<=b->v.ownBlock≠some b:=fun b hb e=>by have:=hv b e;omega
  have h3:IsE W8 (fun b=>B<=b/\b<W.heap.size) es sv:=h2.keep ⟨hst.1,fun b hb hF=>hst.2 b hb ⟨hne b hF.1,hF.2⟩⟩ (fun _ h=>h)
  exact h3.keep (zaJ.refl _ _) (fun b hb=>⟨Nat.le_trans hB hb.1,hnew b hb.2 (hne b hb.1)⟩)
section
variable {w0 w : World} {p : Nat} {a : Option Addr} {cap : Nat} {bs : List UInt8} {yq : Bool}
def GsEnd (w0 w:World) (p:Nat) (a:Option Addr) (cap:Nat) (bs:List UInt8) (yq:Bool) (V:List Grp×Int×Int) (e:Ending) (w':World):Prop :=
 ∃v,e=.returned (.tuple #[v,.int .i64 V.2.2])/\IsG w' (fun b=>w.heap.size<=b) V.1 v/\(∃at2:Int,IsRd w0 w' p a cap bs yq at2/\(V.2.2=0->at2=V.2.1))/\zaf (fun b=>b=p) w w'
theorem gs_no {V:List Grp×Int×Int} {W:World} {e:Int} (hV:V=([],0,e)) (he:e≠0) (hI:∃at2:Int,IsRd w0 W p a cap bs yq at2) (hk:zaf (fun b=>b=p) w W):GsEnd w0 w p a cap bs yq V (.returned (.tuple #[.slice none 0 0,.int .i64 e])) W:=by
 subst hV
 obtain ⟨at2,hI⟩:=hI
 exact ⟨_,rfl,IsG.nil _ _,⟨at2,hI,fun h=>absurd h he⟩,hk⟩
def lenV:Value->Nat | .slice _ n _=>n|_=>0
theorem xgroups_any {k:Int} (h:IsRd w0 w p a cap bs yq k) (h0:0<=k) (h1:k<=bs.length):Calls Tryz.prog 29 #[.pointer (some ⟨p,0,none⟩)] w (GsEnd w0 w p a cap bs yq (zcb bs yq 65 [] k)):=by
 have hsm:=h.small
 have HPW:=yb (show p<w.heap.size from h.lt)
 obtain ⟨R,hR⟩:∃R,R=zcb bs yq 65 [] k:=⟨_,rfl⟩
 rw [<-hR]
 have HRR:=yb hR
 have HR:=yb h
 clear h hR
 go_enter Tryz.func29,Tryz.ntmps29
 go_wp2
 go_loopw [4] (fun v wr=>∃(gs:List Grp) (k2:Int) (cs:List Value),gs.length<=64/\0<=k2/\k2<=bs.length/\Hid (IsRd w0 wr p a cap bs yq k2)/\Hid (GsM w wr p gs cs v)/\Hid (R=zcb bs yq (65-gs.length) gs k2)) (fun v _=>65-lenV v)
 case atStart=>exact ⟨[],k,[],by simp,h0,h1,HR,yb ⟨World.ownsRow_nil _ _ _ _,rfl,zaf.refl _ _⟩,HRR⟩
 case round =>
  obtain ⟨gs,k2,cs,hgl,hk0,hk1,HI,HGM,HQ⟩:=hrel
  obtain ⟨sa,sc,rfl,-,-⟩:=zaG HGM.out.own
  have HN:=yb (zer HI.out)
  have hto:=za8 (bs:=bs) (k:=k2) yq hk0 hk1
  rw [<-nxt_3] at hto
  obtain ⟨m,hm⟩:∃m,m+1=65-gs.length:=⟨64-gs.length,by omega⟩
  have hQ:=HQ.out
  rw [<-hm] at hQ
  have HM:=yb hm
  have HQE:=yb (fun he=>hQ.trans (grps_err he))
  have HQT:=yb (fun he ht=>hQ.trans (zfi he ht))
  have HQB:=yb (fun he ht hw=>hQ.trans (grps_bad he ht hw))
  have HQF:=yb (fun he ht hw hl=>hQ.trans (grps_full he ht hw hl))
  have HQS:=yb (fun he ht hl=>hQ.trans (grps_step he ht hl))
  have HN2:=yb (fun (W:World) (hI:IsRd w0 W p a cap bs yq (nxtV bs yq k2).2.2.1)=>zer hI)
  have HGR:=yb (fun (W:World) (hI:IsRd w0 W p a cap bs yq (nxtV bs yq k2).2.2.1)=>xgroup_any hI (by omega) hto.2 (nxtV bs yq k2).1 (nxtV bs yq k2).2.1 (nxtV bs yq k2).2.2.1)
  have HGL:=yb (grp1_le (bs:=bs) (yq:=yq) (x:=(nxtV bs yq k2).1) (k:=(nxtV bs yq k2).2.2.1) (by omega) hto.2)
  have HGB:=yb (fun (h:za2 (nxtV bs yq k2).1=false)=>show (grp1 bs yq (nxtV bs yq k2).1 (nxtV bs yq k2).2.2.1).2.2=20 by unfold grp1;rw [yg h])
  have HTI:=yb (trail_iff (nxtV bs yq k2).1)
  have HWX:=yb (fun W=>zeB (nxtV bs yq k2).1 (nxtV bs yq k2).2.1 (nxtV bs yq k2).2.2.1 W)
  have HSQ:=yb (zeL (nxtV bs yq k2).1.s [116,114,97,105,108,101,114])
  clear hm hQ HQ
  generalize nxtV bs yq k2=U at *
  obtain ⟨x,f,t,E⟩:=U
  simp only at hto HN HQE HQT HQB HQF HQS HN2 HGR HGL HTI HWX HSQ
  generalize nxtV bs yq t=U2 at *
  obtain ⟨y,f2,t2,E2⟩:=U2
  generalize grp1 bs yq x t=G at *
  obtain ⟨⟨gn,ge⟩,gk,gr⟩:=G
  unfold GrpEnd at HGR
  simp only at HQF HQS HN2 HGR HGL HGB
  unfold tokN at HN HN2 HWX HGR
  obtain ⟨tr,htr⟩:∃tr,tr=decide (x.s=[116,114,97,105,108,101,114]):=⟨_,rfl⟩
  rw [<-htr] at HTI HSQ
  rw [HTI.out] at HQT HQB HQF HQS
  clear htr HTI
  generalize za2 x=wx at *
  generalize x.kind=a0 at *
  generalize x.vk=a1 at *
  generalize x.vn=a2 at *
  generalize mkB x.vs=s1 at *
  generalize mkB x.s=s2 at *
  generalize y.kind=b0 at *
  generalize y.vk=b1 at *
  generalize y.vn=b2 at *
  generalize mkB y.vs=q1 at *
  generalize mkB y.s=q2 at *
  go_wp2_with fail
  refine HN.out.mono ?_
  rintro e w3 ⟨rfl,hi3,hk3⟩
  have HT3:=yb (zab (w:=w3) (b:=w3.heap.size) (.cells #[.int .i64 a0,.int .i64 f,.int .i64 t,.int .i64 a1,.int .i64 a2,.string s1,.slice none 0 0,.string s2] 112) rfl)
  have HI3:=yb (hi3.mono (zae w3 (.cells #[.int .i64 a0,.int .i64 f,.int .i64 t,.int .i64 a1,.int .i64 a2,.string s1,.slice none 0 0,.string s2] 112)))
  have HG3:=yb ((HGM.out.on HPW.out hk3).on HPW.out (zat (zae w3 (.cells #[.int .i64 a0,.int .i64 f,.int .i64 t,.int .i64 a1,.int .i64 a2,.string s1,.slice none 0 0,.string s2] 112))))
  have HTP:=yb (show w3.heap.size≠p by have:=hi3.lt;omega)
  clear hi3 hk3 HN HI HGM
  go_upto_region 3 with fail
  obtain ⟨T,hT⟩:∃T,T=w3.heap.size:=⟨_,rfl⟩
  rw [<-hT] at HT3 HTP |-
  clear hT
  generalize World.alloc _ _=W3 at *
  obtain ⟨⟨v0,v1,v2,v3,v4,v5,v6,v7⟩,-⟩:=zao HT3.out
  by_cases hE:E=0
  case neg =>
   have HV3:=yb (HQE.out hE)
   have e0:(E==0)=false:=by rw [yf];exact hE
   have e1:(E != 0)=true:=by simp only [bne,e0,yj]
   have HE:=yb hE
   clear hE
   go_wp2
   go_ret2
   exact gs_no HV3.out HE.out ⟨_,HI3.out⟩ HG3.out.kps
  subst hE
  rw [yg rfl] at HI3
  have hsq:=HSQ.out
  obtain ⟨k6,hk6⟩:∃k6,k6=(a0==6):=⟨_,rfl⟩
  rw [<-hk6] at HQT HQB HQF HQS
  have HK6:=yb hk6
  obtain ⟨tb,htb⟩:∃tb,tb=(k6&&tr):=⟨_,rfl⟩
  rw [<-htb] at HQT HQB HQF HQS
  have HTB:=yb htb
  clear htb hk6
  go_upto_region 5 with fail
  go_cut [27] from 10 to 59 (fun v wx=>v=.bool tb/\wx=W3)
  case first =>
   clear HQT HQB HQF HQS HN2 HGR HGL HGB
   cases k6
   ·have e6:=HK6.out.symm
    obtain rfl:tb=false:=HTB.out
    go_wp2_with fail
    go_meet
    exact ⟨rfl,rfl⟩
   ·have e6:=HK6.out.symm
    obtain rfl:tb=tr:=HTB.out
    go_wp2_with fail
    go_meet
    exact ⟨rfl,rfl⟩
  case rest =>
  obtain ⟨rfl,hw⟩:=hcut
  subst hw
  clear hsq HSQ HK6 HTB
  cases tb
  case true =>
   have HV3:=yb (HQT.out rfl rfl)
   clear HQT HQB HQF HQS HN2 HGR HGL HGB v0 v1 v2 v3 v4 v5 v6 v7
   go_wp2
   go_ret2
   rw [HV3.out]
   exact ⟨_,rfl,HG3.out.fin,⟨_,HI3.out,fun _=>rfl⟩,HG3.out.kps⟩
  have HQB2:=yb (HQB.out rfl rfl)
  have HQF2:=yb (HQF.out rfl rfl)
  have HQS2:=yb (HQS.out rfl rfl)
  clear HQT HQB HQF HQS
  obtain ⟨fb,hfb⟩:∃fb,fb=(decide (gs.length=64)&&wx):=⟨_,rfl⟩
  have HFB:=yb hfb
  clear hfb
  go_upto_region 7 with fail
  go_cut [35] from 10 to 59 (fun v wx=>v=.bool fb/\Hid (IsRd w0 wx p a cap bs yq t)/\Hid (GsM w wx p gs cs (.slice sa gs.length sc))/\Hid (wx.heap[T]?=some (.cells #[.int .i64 a0,.int .i64 f,.int .i64 t,.int .i64 a1,.int .i64 a2,.string s1,.slice none 0 0,.string s2] 112 (0,0))))
  case first =>
   clear HQB2 HQF2 HQS2 HN2 HGR HGL HGB
   by_cases h64:gs.length=64
   ·obtain rfl:fb=wx:=by rw [HFB.out,yd h64,Bool.true_and]
    have hd64:((gs.length:Int)==64)=true:=by rw [beq_iff_eq];omega
    have hd64n:(gs.length==64)=true:=by rw [beq_iff_eq];exact h64
    clear h64
    go_wp2_with (go_at_call 61;refine (HWX.out _).mono ?_;rintro e w4 ⟨rfl,hb4⟩;have HI4:=yb (HI3.out.mono hb4);have HG4:=yb (HG3.out.on HPW.out (zat hb4));have HT4:=yb (zaa hb4 HT3.out))
    go_meet
    exact ⟨rfl,HI4,HG4,HT4⟩
   ·obtain rfl:fb=false:=by rw [HFB.out,ye h64,Bool.false_and]
    have hd64:((gs.length:Int)==64)=false:=by rw [yf];omega
    have hd64n:(gs.length==64)=false:=by rw [yf];exact h64
    go_wp2_with fail
    go_meet
    exact ⟨rfl,HI3,HG3,HT3⟩
  case rest =>
  obtain ⟨rfl,HI4,HG4,HT4⟩:=hcut
  clear HI3 HG3 HT3 v0 v1 v2 v3 v4 v5 v6 v7 HWX
  obtain ⟨⟨v0,v1,v2,v3,v4,v5,v6,v7⟩,-⟩:=zao HT4.out
  cases fb
  case true =>
   have h64:gs.length=64/\wx=true:=by have:=HFB.out;simpa using this.symm
   have HVF:=yb (HQF2.out h64.2 h64.1)
   clear HQB2 HQS2 HQF2 HGR HGL HGB HFB h64
   go_wp2_with fail
   refine (HN2.out _ HI4.out).mono ?_
   rintro e w5 ⟨rfl,hi5,hk5⟩
   have HI5:=yb (hi5.mono (zae w5 (.cells #[.int .i64 b0,.int .i64 f2,.int .i64 t2,.int .i64 b1,.int .i64 b2,.string q1,.slice none 0 0,.string q2] 112)))
   have HG5:=yb ((HG4.out.on HPW.out hk5).on HPW.out (zat (zae w5 (.cells #[.int .i64 b0,.int .i64 f2,.int .i64 t2,.int .i64 b1,.int .i64 b2,.string q1,.slice none 0 0,.string q2] 112))))
   have HT5:=yb (zab (w:=w5) (b:=w5.heap.size) (.cells #[.int .i64 b0,.int .i64 f2,.int .i64 t2,.int .i64 b1,.int .i64 b2,.string q1,.slice none 0 0,.string q2] 112) rfl)
   clear hi5 hk5 HN2 HI4 HG4 HT4 v0 v1 v2 v3 v4 v5 v6 v7
   go_upto_region 9 with fail
   generalize w5.heap.size=T5 at *
   generalize World.alloc _ _=W5 at *
   obtain ⟨⟨v0,v1,v2,v3,v4,v5,v6,v7⟩,-⟩:=zao HT5.out
   by_cases hE2:E2=0
   ·subst hE2
    rw [yh (by decide)] at HVF
    go_wp2
    go_ret2
    exact gs_no HVF.out (by decide) ⟨_,HI5.out⟩ HG5.out.kps
   ·have e0:(E2==0)=false:=by rw [yf];exact hE2
    have e1:(E2 != 0)=true:=by simp only [bne,e0,yj]
    have HE2:=yb hE2
    rw [yg hE2] at HVF
    clear hE2
    go_wp2
    go_ret2
    exact gs_no HVF.out HE2.out ⟨_,HI5.out⟩ HG5.out.kps
  have HGE:=yb (show gr≠0->R=([],0,gr) from fun h=>by
   by_cases h64:gs.length=64
   ·have hwx:wx=false:=by have:=HFB.out;rw [yd h64,Bool.true_and] at this;exact this.symm
    rw [HQB2.out hwx,HGB.out hwx]
   ·have:=HQS2.out h64
    rw [yg h] at this
    exact this)
  have HGO:=yb (show gr=0->gs.length≠64/\R=zcb bs yq m (gs++[⟨gn,ge⟩]) gk from fun h=>by
   by_cases h64:gs.length=64
   ·have hwx:wx=false:=by have:=HFB.out;rw [yd h64,Bool.true_and] at this;exact this.symm
    have:=HGB.out hwx
    rw [h] at this
    cases this
   ·have:=HQS2.out h64
    rw [yh (by rw [h];decide)] at this
    exact ⟨h64,this⟩)
  clear HQB2 HQF2 HQS2 HGB HFB HN2
  go_wp2_with fail
  refine (HGR.out _ HI4.out).mono ?_
  rintro e w6 ⟨gv,rfl,hie,⟨at2,hi6,hat⟩,hk6⟩
  have HG6:=yb (HG4.out.on HPW.out hk6)
  have HVB:=yb (show ∀b,Value.ownBlock (.slice sa gs.length sc)=some b->b<wc.heap.size from fun b hb=>(HG4.out.own.lt b hb).2)
  have HWW:=yb (show w.heap.size<=wc.heap.size/\wc.heap.size<=w6.heap.size from ⟨HG4.out.kps.size,hk6.size⟩)
  obtain ⟨va,vc,rfl,-,-⟩:=hie.len
  have HI7:=yb (hi6.mono (zae w6 (.cells #[.int .i64 gn,.slice va ge.length vc] 58)))
  have HG7:=yb (HG6.out.on HPW.out (zat (zae w6 (.cells #[.int .i64 gn,.slice va ge.length vc] 58))))
  have HE7:=yb (hie.below (zae w6 (.cells #[.int .i64 gn,.slice va ge.length vc] 58)))
  have HZ7:=yb (zab (w:=w6) (b:=w6.heap.size) (.cells #[.int .i64 gn,.slice va ge.length vc] 58) rfl)
  have HAT:=yb hat
  have HWS:=yb (zaq w6 (.cells #[.int .i64 gn,.slice va ge.length vc] 58))
  clear hie hi6 hat hk6 HG4 HI4 HT4 HGR HG6 v0 v1 v2 v3 v4 v5 v6 v7
  go_upto_region 14 with fail
  obtain ⟨z,hz⟩:∃z,z=w6.heap.size:=⟨_,rfl⟩
  rw [<-hz] at HZ7 HWW HWS |-
  clear hz
  generalize w6.alloc _=W7 at *
  obtain ⟨⟨z0,z1⟩,-⟩:=za5 HZ7.out
  by_cases hgr:gr=0
  case neg =>
   have HVF:=yb (HGE.out hgr)
   have e0:(gr==0)=false:=by rw [yf];exact hgr
   have e1:(gr != 0)=true:=by simp only [bne,e0,yj]
   have HE2:=yb hgr
   clear hgr
   go_wp2
   go_ret2
   exact gs_no HVF.out HE2.out ⟨_,HI7.out⟩ HG7.out.kps
  subst hgr
  obtain ⟨h64,hRQ⟩:=HGO.out rfl
  have hL:gs.length<=63:=by omega
  have HRQ:=yb hRQ
  have hone:∀u∈[Value.int .i64 gn,.slice va ge.length vc],u.oneCell'=true:=by
   intro u hu
   simp at hu
   rcases hu with rfl|rfl<;>rfl
  have HONE:=yb hone
  have HKK:=yb HGL.out
  clear hone h64 hRQ HGO HGE HGL
  go_wp2_with (at_builtin;go_loud (refine zfg EGrp rfl (.tmp 56) (.tmp 58) rfl w.heap.size _ gs.length _ rfl (HG7.out.own.alloc _) _ 1 _ rfl (row_newS _ #[.int .i64 gn,.slice va ge.length vc] _ 2 rfl rfl) HONE.out (by unfold maxLen;omega) (by omega) (by rw [zaq];have:=HG7.out.kps.size;omega) ?_);intro v' w8 hO8 hg8 hn8;obtain ⟨ua,uc,rfl,-,-⟩:=zaG hO8;have HG8:=yb (HG7.out.app hg8 HE7.out HWW.out.1 HVB.out (by have:=HWW.out.2;have:=HWS.out;omega) hO8 hn8);have HI8:=yb ((HI7.out.mono (zae _ _)).grown hg8 (fun b hb=>⟨fun e=>by have:=(HG7.out.own.lt b hb).1;have:=HPW.out;omega,Nat.le_trans HR.out.bel.size (HG7.out.own.lt b hb).1⟩));clear hO8 hg8 hn8)
  go_roundw
  case rel=>exact ⟨gs++[⟨gn,ge⟩],gk,_,by rw [List.length_append];simp;omega,HKK.out.1,HKK.out.2,by rw [<-HAT.out rfl];exact HI8,HG8,yb (by rw [HRQ.out,List.length_append,show 65-(gs.length+[(⟨gn,ge⟩:Grp)].length)=m by have:=HM.out;simp;omega])⟩
  case measure=>simp [lenV];omega
end
def pk:List Int->List UInt8
 | a::b::t=>UInt8.ofNat (16*a+b).toNat::pk t
 | _=>[]
theorem pk_append:∀(n:Nat) (l m:List Int),l.length=2*n->pk (l++m)=pk l++pk m
 | 0,l,m,h=>by
  obtain rfl:l=[]:=List.eq_nil_of_length_eq_zero (by omega)
  rfl
 | n+1,l,m,h=>by
  rcases l with _|⟨a,_|⟨b,t⟩⟩
  ·simp at h
  ·simp at h;omega
  ·simp only [List.cons_append,pk]
   rw [pk_append n t m (by simp at h;omega)]
structure DgP (ds:List Int) (out:List UInt8) (half:Int):Prop where
 bd:∀d∈ds,0<=d/\d<=15
 form:∃ps:List Int,ps.length=2*out.length/\pk ps=out/\((half=-1/\ds=ps)\/(0<=half/\ds=ps++[half]))
theorem DgP.nil:DgP [] [] (-1):=⟨fun d h=>(by cases h),[],rfl,rfl,.inl ⟨rfl,rfl⟩⟩
theorem DgP.put {ds:List Int} {out:List UInt8} {half:Int} (h:DgP ds out half) {d:Int} (h0:0<=d) (h1:d<=15):(half<0->DgP (ds++[d]) out d)/\(0<=half->DgP (ds++[d]) (out++[UInt8.ofNat (16*half+d).toNat]) (-1)):=by
 obtain ⟨hb,ps,hl,hp,hf⟩:=h
 have hb2:∀x∈ds++[d],0<=x/\x<=15:=fun x hx=>by
  rcases List.mem_append.1 hx with h|h
  ·exact hb x h
  ·simp at h;subst h;exact ⟨h0,h1⟩
 refine ⟨fun hn=>⟨hb2,ps,hl,hp,.inr ⟨h0,?_⟩⟩,fun hn=>⟨hb2,ds++[d],?_,?_,.inl ⟨rfl,rfl⟩⟩⟩
 ·rcases hf with ⟨_,rfl⟩|⟨h,_⟩
  ·rfl
  ·omega
 ·rcases hf with ⟨h,_⟩|⟨h,rfl⟩
  ·omega
  ·simp;omega
 ·rcases hf with ⟨h,_⟩|⟨h,rfl⟩
  ·omega
  ·rw [List.append_assoc,pk_append _ _ _ hl,hp];rfl
def i64C (x:Int):Value:=.int .i64 x
structure DgM (w:World) (v:Value) (ds:List Int) (wr:World):Prop where
 row:wr.ownsRow w.heap.size 3 1 v ds.length (ds.map i64C)
 bel:Below w.heap.size w wr
theorem DgM.put {w wr w5:World} {v v':Value} {ds:List Int} (h:DgM w v ds wr) (d:Int) (O:Obj) (hO5:w5.ownsRow w.heap.size 3 1 v' (ds.length+1) (ds.map i64C++[.int .i64 d])) (hg5:(wr.alloc O).grownBy w5 v.ownBlock):DgM w v' (ds++[d]) w5 :=
 ⟨by have h:=hO5;simpa [i64C] using h,(h.bel.alloc h.bel.size _).grown hg5 (by rw [zaq];have:=h.bel.size;omega) (fun q hq=>(h.row.lt q hq).1)⟩
theorem DgM.len {w wr:World} {v:Value} {ds:List Int} (h:DgM w v ds wr):∃a cap,v=.slice a ds.length cap/\Row wr 1 a ds.length cap (ds.map i64C):=by
 obtain ⟨a,cap,hv,hr,-⟩:=Row.of_owns h.row
 exact ⟨a,cap,hv,hr⟩
structure PA (p:List UInt8) (N:Int) (ov:Bool):Prop where
 dg:p.all isDg=true
 ov_:ov=decide (2147483647<valD p)
 n:ov=false->N=(valD p:Nat)
def PB (p:List UInt8) (i:Nat) (N P:Int) (ov:Bool):Prop:=∃w r,p=w++46::r/\w.length=i/\PA w N ov/\r.all isDg=true/\P=(mil r:Nat)
theorem PA.nil:PA [] 0 false:=⟨rfl,rfl,fun _=>rfl⟩
theorem PB.bd {p:List UInt8} {i:Nat} {N P:Int} {ov:Bool} (h:PB p i N P ov):0<=P/\P<=999999:=by
 obtain ⟨w,r,e,hl,hA,hr,rfl⟩:=h
 have:=zfw r hr
 omega
theorem PA.fin {p:List UInt8} {N:Int} {ov:Bool} (h:PA p N ov) (sg:Int):zbe sg p=if p.length=0 then (0,0,11) else if ov=true then (0,0,5) else (2,sg*N,0):=by
 rw [parseB_int sg p h.dg]
 by_cases h0:p.length=0
 ·rw [yg h0,yg h0]
 ·rw [yh h0,yh h0]
  have h1:=h.ov_
  cases ov
  ·rw [eq_comm,decide_eq_false_iff_not] at h1
   rw [yh h1,yh (by decide),h.n rfl]
  ·rw [eq_comm,decide_eq_true_iff] at h1
   rw [yg h1,yg rfl]
theorem PB.fin {p:List UInt8} {i:Nat} {N P:Int} {ov:Bool} (h:PB p i N P ov) (sg:Int):zbe sg p=if p.length=1 then (0,0,11) else if ov=true\/(N=2147483647/\0<P) then (0,0,5) else (3,sg*(1000000*N+P),0):=by
 obtain ⟨w,r,e,hl,hA,hr,rfl⟩:=h
 have hlen:=congrArg List.length e
 simp only [List.length_append,List.length_cons] at hlen
 rw [e,parseB_real sg w r hA.dg hr,<-e]
 by_cases h0:p.length=1
 ·rw [yg h0,yg (by omega)]
 ·rw [yh h0,yh (by omega)]
  have h1:=hA.ov_
  cases ov
  ·rw [eq_comm,decide_eq_false_iff_not] at h1
   have h2:=hA.n rfl
   by_cases h3:N=2147483647/\0<((mil r:Nat):Int)
   ·rw [yg (.inr (by omega)),yg (.inr h3)]
   ·rw [yh (by rintro (h|h);exact h1 h;exact h3 (by omega)),yh (by rintro (h|h);cases h;exact h3 h),h2]
    rw [Int.natCast_add,Int.natCast_mul,Int.mul_comm 1000000];rfl
  ·rw [eq_comm,decide_eq_true_iff] at h1
   rw [yg (.inl h1),yg (.inl rfl)]
structure Rx (w:World) (r n:Nat) (f:Nat) (W:World):Prop where
 blk:W.heap[r]?=some (.cells #[.int .i64 0,.int .i64 0,.int .i64 0,.int .i64 0,.int .i64 0,.string ⟨#[]⟩,.slice none 0 0,.string ⟨#[]⟩] 81 (0,0))
 no:W.heap[n]?=some (.cells #[.int .i64 0,.int .i64 f,.int .i64 f,.int .i64 0,.int .i64 0,.string ⟨#[]⟩,.slice none 0 0,.string ⟨#[]⟩] 81 (0,0))
 bel:Below w.heap.size w W
 wr:w.heap.size<=r
theorem Rx.on {w W W':World} {r n f:Nat} (h:Rx w r n f W) (hb:Below W.heap.size W W'):Rx w r n f W':=⟨zaa hb h.blk,zaa hb h.no,h.bel.trans (hb.mono h.bel.size),h.wr⟩
theorem Rx.alloc {w W:World} {r n f:Nat} (h:Rx w r n f W) (o:Obj):Rx w r n f (W.alloc o):=h.on (zae W o)
end Go.Proofs.YtcmoehknppjkiaaGreatDoor
namespace Go.Proofs.YtcmoehknppjkiaaGreatDoor
mutual
def zau:PV->PV->Int
 | .mk k n s l,.mk k2 n2 s2 l2 =>
  if k<k2\/(k=k2/\(n<n2\/(n=n2/\sLt s s2=true))) then -1
  else if k≠k2\/n≠n2\/s≠s2 then 1
  else zaU l l2
def zaU:List PV->List PV->Int
 | [],[]=>0
 | [],_::_=>-1
 | _::_,[]=>1
 | x::l,y::m=>if zau x y≠0 then zau x y else zaU l m
end
mutual
theorem zd4:∀(a b:PV),zau a b=0->a=b
 | .mk k n s l,.mk k2 n2 s2 l2,h=>by
  simp only [zau] at h
  split at h
  ·cases h
  ·split at h
   ·cases h
   ·rename_i h1 h2
    have e1:k=k2:=Decidable.byContradiction fun e=>h2 (.inl e)
    have e2:n=n2:=Decidable.byContradiction fun e=>h2 (.inr (.inl e))
    have e3:s=s2:=Decidable.byContradiction fun e=>h2 (.inr (.inr e))
    rw [e1,e2,e3,zc4 l l2 h]
theorem zc4:∀(l m:List PV),zaU l m=0->l=m
 | [],[],_=>rfl
 | [],_::_,h=>by simp [zaU] at h
 | _::_,[],h=>by simp [zaU] at h
 | x::l,y::m,h=>by
  simp only [zaU] at h
  split at h
  ·rename_i hn;exact absurd h hn
  ·rename_i hn
   rw [zd4 x y (by simpa using hn),zc4 l m h]
end
mutual
theorem zdV:∀a:PV,zau a a=0
 | .mk k n s l=>by
  simp only [zau]
  rw [yh (by rintro (h|⟨-,h|⟨-,h⟩⟩);omega;omega;rw [zcO] at h;cases h),yh (by simp)]
  exact zdl l
theorem zdl:∀l:List PV,zaU l l=0
 | []=>rfl
 | x::l=>by
  simp only [zaU]
  rw [yh (by simp [zdV x])]
  exact zdl l
end
theorem zep (a b:PV):zau a b=0↔a=b:=⟨zd4 a b,fun h=>h▸zdV a⟩
end Go.Proofs.YtcmoehknppjkiaaGreatDoor
namespace Go.Proofs.YtcmoehknppjkiaaGreatDoor
open Go.RowKit
theorem zbX:∀a b:List UInt8,Op.bytesLess a b=sLt a b
 | [],[]=>rfl
 | [],_::_=>rfl
 | _::_,[]=>rfl
 | a::l,b::m=>by
  simp only [Op.bytesLess,sLt]
  rw [zbX l m]
  by_cases h:a.toNat<b.toNat
  ·rw [yg h]
   have:(a<b):=h
   simp [this]
  ·rw [yh h]
   have h':¬(a<b):=h
   by_cases h2:b.toNat<a.toNat
   ·rw [yg h2]
    have:(a==b)=false:=by rw [yf];intro e;subst e;omega
    simp [h',this]
   ·rw [yh h2]
    have:a=b:=UInt8.toNat_inj.1 (by omega)
    subst this
    simp
theorem zag (l:List UInt8):(mkB l).toList=l:=by unfold mkB;exact ByteArray.toList_eq _
structure Box4 (w:World) (b:Nat) (v:PV) (sl:Value):Prop where
 blk:w.heap[b]?=some (.cells #[.int .i64 v.kind,.int .i64 v.n,.string (mkB v.s),sl] 25 (0,0))
theorem Box4.cells {w:World} {b:Nat} {v:PV} {sl:Value} (h:Box4 w b v sl):w.cell? ⟨b,0,none⟩=some (.int .i64 v.kind)/\w.cell? ⟨b,1,none⟩=some (.int .i64 v.n)/\w.cell? ⟨b,2,none⟩=some (.string (mkB v.s))/\w.cell? ⟨b,3,none⟩=some sl:=by
 refine ⟨?_,?_,?_,?_⟩
 ·rw [cell_of_row w b 0 _ _ _ h.blk];rfl
 ·rw [cell_of_row w b 1 _ _ _ h.blk];rfl
 ·rw [cell_of_row w b 2 _ _ _ h.blk];rfl
 ·rw [cell_of_row w b 3 _ _ _ h.blk];rfl
theorem cmpL_step {l m:List PV} {k:Nat} {x y:PV} (h1:l[k]?=some x) (h2:m[k]?=some y) :
  zaU (l.drop k) (m.drop k)=if zau x y≠0 then zau x y else zaU (l.drop (k+1)) (m.drop (k+1)):=by
 obtain ⟨g1,e1⟩:=List.getElem?_eq_some_iff.1 h1
 obtain ⟨g2,e2⟩:=List.getElem?_eq_some_iff.1 h2
 rw [List.drop_eq_getElem_cons g1,List.drop_eq_getElem_cons g2,e1,e2]
 rfl
theorem zen {l m:List PV} {k:Nat} (h:¬(k<l.length/\k<m.length)) (h1:k<=l.length) (h2:k<=m.length) :
  zaU (l.drop k) (m.drop k)=if l.length<m.length then -1 else if m.length<l.length then 1 else 0:=by
 by_cases g1:k<l.length
 ·have g2:k=m.length:=by omega
  rw [List.drop_eq_getElem_cons g1,List.drop_of_length_le (l:=m) (by omega),yh (by omega),yg (by omega)]
  rfl
 ·rw [List.drop_of_length_le (l:=l) (by omega)]
  by_cases g2:k<m.length
  ·rw [List.drop_eq_getElem_cons g2,yg (by omega)]
   rfl
  ·rw [List.drop_of_length_le (l:=m) (by omega),yh (by omega),yh (by omega)]
   rfl
def anyF:Nat->Prop:=fun _=>True
theorem IsV.any {w:World} {F:Nat->Prop} {v:PV} {sl:Value} (h:IsV w F v sl):IsV w anyF v sl:=h.weaken fun _ _=>trivial
theorem zbh {v x:PV} {k:Nat} (h:v.l[k]?=some x):SizeOf.sizeOf x<SizeOf.sizeOf v:=by
 obtain ⟨a,b,c,l⟩:=v
 have:SizeOf.sizeOf x<SizeOf.sizeOf l:=List.sizeOf_lt_of_mem (List.mem_of_getElem? (h:l[k]?=some x))
 simp only [PV.mk.sizeOf_spec];omega
theorem compare_any:∀(N:Nat) (a b:PV) (sa sb:Value) (w:World),SizeOf.sizeOf a<=N->IsV w anyF a sa->IsV w anyF b sb ->
  Calls Tryz.prog 70 #[pvA a sa,pvA b sb] w fun e w'=>e=.returned (.int .i64 (zau a b))/\Below w.heap.size w w':=by
 intro N
 induction N with
 | zero=>intro a b sa sb w h;obtain ⟨_,_,_,_⟩:=a;simp at h
 | succ N ih =>
 intro a b sa sb w hN ha hb
 obtain ⟨a1,cap1,e1,g1,g2,g3⟩:=ha.len
 obtain ⟨a2,cap2,e2,g4,g5,g6⟩:=hb.len
 have HA:=yb ha
 have HB:=yb hb
 have HIH:=yb ih
 have HN:=yb hN
 have hC:zau a b=if a.kind<b.kind\/(a.kind=b.kind/\(a.n<b.n\/(a.n=b.n/\sLt a.s b.s=true))) then -1
  else if a.kind≠b.kind\/a.n≠b.n\/a.s≠b.s then 1 else zaU a.l b.l:=by
  obtain ⟨_,_,_,_⟩:=a;obtain ⟨_,_,_,_⟩:=b;simp only [zau];rfl
 have HSA:=yb (fun (k:Nat) (x:PV) (h:a.l[k]?=some x)=>zbh h)
 subst e1 e2
 obtain ⟨la,hla⟩:∃la,la=a.l:=⟨_,rfl⟩
 obtain ⟨lb,hlb⟩:∃lb,lb=b.l:=⟨_,rfl⟩
 rw [<-hla] at g1 HA |-
 rw [<-hlb] at g4 HB |-
 rw [<-hla,<-hlb] at hC
 have HLA:=yb hla
 have HLB:=yb hlb
 have m1:(la.length:Int)<=9223372036854775807:=by unfold maxLen at g2;omega
 have m2:(lb.length:Int)<=9223372036854775807:=by unfold maxLen at g5;omega
 have hl2:Op.bytesLess (mkB a.s).toList (mkB b.s).toList=sLt a.s b.s:=by rw [zag,zag,zbX]
 have hl3:((mkB a.s).toList==(mkB b.s).toList)=decide (a.s=b.s):=by rw [zag,zag];by_cases h:a.s=b.s<;>simp [h]
 clear ih hN hla hlb ha hb
 unfold pvA
 generalize zau a b=V at *
 generalize a.kind=ka at *
 generalize b.kind=kb at *
 generalize a.n=na at *
 generalize b.n=nb at *
 generalize a.s=s1 at *
 generalize b.s=s2 at *
 by_cases h1:ka<kb
 ·have hd:decide (ka<kb)=true:=yd h1
  rw [yg (.inl h1)] at hC
  have HC:=yb hC
  clear h1 hC hl2 hl3
  go_enter Tryz.func70,Tryz.ntmps70
  go_wp2
  go_ret
  exact ⟨by rw [HC.out];rfl,zaF w _ _⟩
 have hf1:decide (ka<kb)=false:=ye h1
 by_cases h2:kb<ka
 ·have hq:(ka==kb)=false:=by rw [yf];omega
  have hq2:(ka != kb)=true:=by simp [bne,hq]
  rw [yh (by omega),yg (.inl (by omega))] at hC
  have HC:=yb hC
  clear h1 h2 hC hl2 hl3
  go_enter Tryz.func70,Tryz.ntmps70
  go_wp2
  go_ret
  exact ⟨by rw [HC.out];rfl,zaF w _ _⟩
 obtain rfl:ka=kb:=by omega
 clear h1 h2 hf1
 by_cases h1:na<nb
 ·have hd:decide (na<nb)=true:=yd h1
  rw [yg (.inr ⟨rfl,.inl h1⟩)] at hC
  have HC:=yb hC
  clear h1 hC hl2 hl3
  go_enter Tryz.func70,Tryz.ntmps70
  go_wp2
  go_ret
  exact ⟨by rw [HC.out];rfl,zaF w _ _⟩
 have hf1:decide (na<nb)=false:=ye h1
 by_cases h2:nb<na
 ·have hq:(na==nb)=false:=by rw [yf];omega
  have hq2:(na != nb)=true:=by simp [bne,hq]
  rw [yh (by rintro (h|⟨-,h|⟨h,-⟩⟩)<;>omega),yg (.inr (.inl (by omega)))] at hC
  have HC:=yb hC
  clear h1 h2 hC hl2 hl3
  go_enter Tryz.func70,Tryz.ntmps70
  go_wp2
  go_ret
  exact ⟨by rw [HC.out];rfl,zaF w _ _⟩
 obtain rfl:na=nb:=by omega
 clear h1 h2 hf1
 by_cases h1:sLt s1 s2=true
 ·rw [yg (.inr ⟨rfl,.inr ⟨rfl,h1⟩⟩)] at hC
  rw [h1] at hl2
  have HC:=yb hC
  clear h1 hC hl3
  go_enter Tryz.func70,Tryz.ntmps70
  go_wp2
  go_ret
  exact ⟨by rw [HC.out];rfl,zaF w _ _⟩
 rw [yh (by rintro (h|⟨-,h|⟨-,h⟩⟩);omega;omega;exact h1 h)] at hC
 rw [show sLt s1 s2=false by simpa using h1] at hl2
 clear h1
 by_cases h2:s1=s2
 case neg =>
  rw [yg (.inr (.inr h2))] at hC
  rw [ye h2] at hl3
  have hl4:((mkB s1).toList != (mkB s2).toList)=true:=by simp [bne,hl3]
  have HC:=yb hC
  clear h2 hC
  go_enter Tryz.func70,Tryz.ntmps70
  go_wp2
  go_ret
  exact ⟨by rw [HC.out];rfl,zaF w _ _⟩
 subst h2
 rw [yh (by simp)] at hC
 have HC:=yb hC
 clear hC hl3
 go_enter Tryz.func70,Tryz.ntmps70
 go_wp2
 obtain ⟨B,hB⟩:∃B,B=w.heap.size:=⟨_,rfl⟩
 rw [<-hB]
 have hx1:((w.alloc (.cells #[.int .i64 ka,.int .i64 na,.string (mkB s1),.slice a1 la.length cap1] 25)).alloc (.cells #[.int .i64 ka,.int .i64 na,.string (mkB s1),.slice a2 lb.length cap2] 25)).heap[B]?=some (.cells #[.int .i64 ka,.int .i64 na,.string (mkB s1),.slice a1 la.length cap1] 25 (0,0)):=zak _ (zab _ hB)
 have hx2:((w.alloc (.cells #[.int .i64 ka,.int .i64 na,.string (mkB s1),.slice a1 la.length cap1] 25)).alloc (.cells #[.int .i64 ka,.int .i64 na,.string (mkB s1),.slice a2 lb.length cap2] 25)).heap[B+1]?=some (.cells #[.int .i64 ka,.int .i64 na,.string (mkB s1),.slice a2 lb.length cap2] 25 (0,0)):=zab _ (by rw [zaq,hB])
 have HX1:=yb hx1
 have HX2:=yb hx2
 have HW:=yb (zaF w (.cells #[.int .i64 ka,.int .i64 na,.string (mkB s1),.slice a1 la.length cap1] 25) (.cells #[.int .i64 ka,.int .i64 na,.string (mkB s1),.slice a2 lb.length cap2] 25))
 have HBB:=yb hB
 clear hx1 hx2 hB
 generalize (w.alloc _).alloc _=W1 at *
 go_loopw [5] (fun vk wr=>∃k:Nat,vk=.int .i64 k/\k<=la.length/\k<=lb.length/\Hid (Below w.heap.size w wr)/\Hid (Below W1.heap.size W1 wr)/\Hid (V=zaU (la.drop k) (lb.drop k))) (fun vk _=>la.length-(intOf vk).toNat)
 case atStart=>exact ⟨0,rfl,Nat.zero_le _,Nat.zero_le _,HW,Below.refl _ _,HC⟩
 case round =>
  obtain ⟨k,rfl,hk1,hk2,HWR,HW1,HV⟩:=hrel
  have hy1:=zaa HW1.out HX1.out
  have hy2:=zaa HW1.out HX2.out
  obtain ⟨c0,c1,c2,c3⟩:=Box4.cells (v:=.mk ka na s1 la) (sl:=.slice a1 la.length cap1) (w:=wr) (b:=B) ⟨hy1⟩
  obtain ⟨d0,d1,d2,d3⟩:=Box4.cells (v:=.mk ka na s1 lb) (sl:=.slice a2 lb.length cap2) (w:=wr) (b:=B+1) ⟨hy2⟩
  by_cases q1:k<la.length/\k<lb.length
  case neg =>
   have hv:=HV.out
   rw [zen q1 hk1 hk2] at hv
   have HV2:=yb hv
   clear hv hy1 hy2 HA HB HIH HV
   by_cases t1:la.length<lb.length
   ·have hd:decide (la.length<lb.length)=true:=yd t1
    have q2:¬k<la.length:=by omega
    go_wp2
    go_ret
    exact ⟨by rw [HV2.out,yg t1];rfl,HWR.out⟩
   ·have hd:decide (la.length<lb.length)=false:=ye t1
    by_cases t2:lb.length<la.length
    ·have hd2:decide (lb.length<la.length)=true:=yd t2
     have q2:¬k<lb.length:=by omega
     have q3:k<la.length:=by omega
     go_wp2
     go_ret
     exact ⟨by rw [HV2.out,yh t1,yg t2];rfl,HWR.out⟩
    ·have hd2:decide (lb.length<la.length)=false:=ye t2
     have q2:¬k<la.length:=by omega
     go_wp2
     go_ret
     exact ⟨by rw [HV2.out,yh t1,yh t2];rfl,HWR.out⟩
  obtain ⟨q1,q2⟩:=q1
  obtain ⟨x,hx⟩:∃x,la[k]?=some x:=⟨_,List.getElem?_eq_getElem q1⟩
  obtain ⟨y,hy⟩:∃y,lb[k]?=some y:=⟨_,List.getElem?_eq_getElem q2⟩
  have hbw:Below w.heap.size w wr:=HWR.out
  obtain ⟨-,-,-,b1,o1,rfl,-,-,hax⟩:=(HA.out.below hbw).at (by omega)
  obtain ⟨-,-,-,b2,o2,rfl,-,-,hbx⟩:=(HB.out.below hbw).at (by omega)
  rw [<-HLA.out] at hax
  rw [<-HLB.out] at hbx
  obtain ⟨sx,hsx,x0,x1,x2,x3⟩:=hax k x hx
  obtain ⟨sy,hsy,y0,y1,y2,y3⟩:=hbx k y hy
  have hlt:SizeOf.sizeOf x<SizeOf.sizeOf a:=HSA.out k x (by rw [<-HLA.out];exact hx)
  have hN:=HN.out
  have hcall:=fun (p:zas wr)=>HIH.out x y sx sy p.w (by omega) (hsx.below p.h) (hsy.below p.h)
  have hv:=HV.out
  rw [cmpL_step hx hy] at hv
  have HV2:=yb hv
  unfold pvA at hcall
  generalize zau x y=c at *
  have HCALL:=yb hcall
  clear hcall hv hsx hsy hlt hN hax hbx hx hy HA HB HIH HV hy1 hy2 hbw HSA HLA HLB HN
  have u3:=zas.cell c3
  have v3:=zas.cell d3
  have e0:=zas.cell x0
  have e1:=zas.cell x1
  have e2:=zas.cell x2
  have e3:=zas.cell x3
  have r0:=zas.cell y0
  have r1:=zas.cell y1
  have r2:=zas.cell y2
  have r3:=zas.cell y3
  have hkl:(0:Int)<=(k:Int):=by omega
  have hki:(k:Int)<(la.length:Int):=by omega
  have hkj:(k:Int)<(lb.length:Int):=by omega
  go_wp2
  refine zaw (by kernel_rfl) (by kernel_rfl) ?_
  repeat (quiet_step ((go_at_call 70;with_reducible exact Calls.below_of (HCALL.out _))))
  refine wpQuiet_nil ?_
  rintro _ ⟨⟨w4,hb4⟩,rfl⟩
  have HW4:=yo HWR hb4
  have HW5:=yo HW1 hb4
  clear u3 v3 e0 e1 e2 e3 r0 r1 r2 r3 x0 x1 x2 x3 y0 y1 y2 y3 c0 c1 c2 c3 d0 d1 d2 d3 hb4
  by_cases hc:c=0
  ·subst hc
   go_wp2
   go_roundw
   case rel=>exact ⟨k+1,by go_num,by omega,by omega,HW4,HW5,by rw [HV2.out];rfl⟩
   case measure=>simp [intOf];omega
  ·have hc1:(c==0)=false:=by rw [yf];exact hc
   have hc2:(c != 0)=true:=by simp [bne,hc1]
   go_wp2
   go_ret
   exact ⟨by rw [HV2.out,yg hc];rfl,HW4.out⟩
theorem compare_two {a b:PV} {sa sb:Value} {w:World} {F G:Nat->Prop} (ha:IsV w F a sa) (hb:IsV w G b sb) :
  Calls Tryz.prog 70 #[pvA a sa,pvA b sb] w fun e w'=>e=.returned (.int .i64 (zau a b))/\Below w.heap.size w w' :=
 compare_any _ a b sa sb w (yp _) ha.any hb.any
theorem same_any {a b:PV} {sa sb:Value} {w:World} {F G:Nat->Prop} (ha:IsV w F a sa) (hb:IsV w G b sb) :
  Calls Tryz.prog 36 #[pvA a sa,pvA b sb] w fun e w'=>e=.returned (.bool (zau a b==0))/\Below w.heap.size w w':=by
 have HB0:=yb (zaF w (.cells #[.int .i64 a.kind,.int .i64 a.n,.string (mkB a.s),sa] 25) (.cells #[.int .i64 b.kind,.int .i64 b.n,.string (mkB b.s),sb] 25))
 have hc:=compare_two (ha.below HB0.out) (hb.below HB0.out)
 unfold pvA at *
 have HC:=yb hc
 clear hc ha hb
 generalize zau a b=c at *
 generalize a.kind=a0 at *
 generalize a.n=a1 at *
 generalize mkB a.s=a2 at *
 generalize b.kind=b0 at *
 generalize b.n=b1 at *
 generalize mkB b.s=b2 at *
 go_enter Tryz.func36,Tryz.ntmps36
 go_wp2_with (go_at_call 70;refine HC.out.mono ?_;rintro e w' ⟨rfl,hb⟩)
 go_ret
 exact ⟨rfl,HB0.out.trans (hb.mono HB0.out.size)⟩
theorem zeP {w:World} {g n cap:Nat} {d:Bool} {a:Option Addr} (h:w.heap[g]?=some (.cells #[.bool d,.slice a n cap] 128 (0,0))) (hn:n<=maxLen) :
  Calls Tryz.prog 139 #[.pointer (some ⟨g,0,none⟩)] w fun e w'=>e=.returned (.bool (d&&n % 2==0))/\w=w':=by
 have c0:w.cell? ⟨g,0,none⟩=some (.bool d):=by rw [cell_of_row w g 0 _ _ _ h];rfl
 have c1:w.cell? ⟨g,1,none⟩=some (.slice a n cap):=by rw [cell_of_row w g 1 _ _ _ h];rfl
 have hi:(n:Int)<=9223372036854775807:=by unfold maxLen at hn;omega
 have he:((n:Int) % 2==0)=(n % 2==0):=by rw [Bool.eq_iff_iff];simp;omega
 have HE:=yb he
 clear h hn he
 cases d
 ·go_enter Tryz.func139,Tryz.ntmps139
  go_wp2
  go_ret
  exact ⟨rfl,rfl⟩
 ·go_enter Tryz.func139,Tryz.ntmps139
  go_wp2
  go_ret
  exact ⟨zbp (by rw [Bool.true_and];exact HE.out),rfl⟩
section
variable {w0 w w' : World} {F F' G : Nat -> Prop} {p : Nat} {a : Option Addr} {cap : Nat} {bs : List UInt8} {yq : Bool} {st : List Lv} {at_ : Int} {gs : List Nat} {osl : Value}
def RefEnd (w0 w:World) (F G:Nat->Prop) (p:Nat) (a:Option Addr) (cap:Nat) (bs:List UInt8) (yq:Bool) (st:List Lv) (gs:List Nat) (osl:Value) (R:PV×Int×Int) (e:Ending) (w':World):Prop :=
 e=.returned (.tuple #[pvA R.1 (.slice none 0 0),.int .i64 R.2.2])/\zap w0 w' F G p a cap bs yq st R.2.1 gs osl/\zaf (fun b=>b=p) w w'
theorem fin4 (h:zap w0 w F G p a cap bs yq st at_ gs osl) {W:World} (hb:Below w.heap.size w W) {q:Nat} (hq:w.heap.size<=q) (hl:q<W.heap.size) (y0 y1 y2 y3:Value) :
  zap w0 ((((W.setCell ⟨q,0,none⟩ y0).setCell ⟨q,1,none⟩ y1).setCell ⟨q,2,none⟩ y2).setCell ⟨q,3,none⟩ y3) F G p a cap bs yq st at_ gs osl /\
   zaf (fun b=>b=p) w ((((W.setCell ⟨q,0,none⟩ y0).setCell ⟨q,1,none⟩ y1).setCell ⟨q,2,none⟩ y2).setCell ⟨q,3,none⟩ y3) :=
 ⟨((h.res (G':=fun b=>G b\/b=q) hb (fun b hb=>hb.imp id fun e=>by rw [e];exact ⟨hq,hl⟩)).set4 (.inr rfl) _ _ _ _).give fun b hb=>.inl hb,za1 (zat hb) hq _ _ _ _⟩
theorem fin4a (h:zap w0 w F G p a cap bs yq st at_ gs osl) {W:World} (hb:Below w.heap.size w W) {q:Nat} (hq:w.heap.size<=q) (hl:q<W.heap.size) (at2:Int) (y0 y1 y2 y3:Value) :
  zap w0 (((((W.setCell ⟨p,1,none⟩ (.int .i64 at2)).setCell ⟨q,0,none⟩ y0).setCell ⟨q,1,none⟩ y1).setCell ⟨q,2,none⟩ y2).setCell ⟨q,3,none⟩ y3) F G p a cap bs yq st at2 gs osl /\
   zaf (fun b=>b=p) w (((((W.setCell ⟨p,1,none⟩ (.int .i64 at2)).setCell ⟨q,0,none⟩ y0).setCell ⟨q,1,none⟩ y1).setCell ⟨q,2,none⟩ y2).setCell ⟨q,3,none⟩ y3) :=
 ⟨(((h.res (G':=fun b=>G b\/b=q) hb (fun b hb=>hb.imp id fun e=>by rw [e];exact ⟨hq,hl⟩)).setAt at2).set4 (.inr rfl) _ _ _ _).give fun b hb=>.inl hb,
  za1 (zaf.setCell (S:=fun b=>b=p) (a:=⟨p,1,none⟩) (zat hb) (.inl rfl) _) hq _ _ _ _⟩
theorem drew4 {W:World} {S:Nat->Prop} (h:zap w0 W F G p a cap bs yq st at_ gs osl/\zaf S w W):zap w0 W.drew F G p a cap bs yq st at_ gs osl/\zaf S w W.drew:=⟨h.1.drewN 1,h.2.drewN 1⟩
theorem ref_any (h:zap w0 w F G p a cap bs yq st at_ gs osl) (v:PV):Calls Tryz.prog 143 #[.pointer (some ⟨p,0,none⟩),pvA v (.slice none 0 0)] w (RefEnd w0 w F G p a cap bs yq st gs osl (refV bs yq at_ v)):=by
 have HN:=yb (fun (W:World) (hb:Below w.heap.size w W)=>zdm (h.bytes.mono hb) h.small at_ yq)
 obtain ⟨R,hR⟩:∃R,R=refV bs yq at_ v:=⟨_,rfl⟩
 rw [<-hR]
 unfold refV at hR
 simp only at hR
 have HWH:=yb (fun (W:World)=>whole_tk (zaj bs at_ yq).1 (zaj bs at_ yq).2.1 (zaj bs at_ yq).2.2.1 W)
 have HN2:=yb (fun (W:World) (hb:Below w.heap.size w W)=>zdm (h.bytes.mono hb) h.small (zaj bs at_ yq).2.2.1 yq)
 generalize zaj bs (zaj bs at_ yq).2.2.1 yq=V2 at *
 generalize zaj bs at_ yq=V at *
 obtain ⟨x,gf,gt,ger⟩:=V
 obtain ⟨y,rf,rt,rer⟩:=V2
 simp only at hR HN2 HWH
 unfold zdP tokN at HN HN2
 unfold tokN at HWH
 simp only at HN HN2
 unfold pvA
 have HR:=yb hR
 have HYS:=yb (zeL y.s [82])
 clear hR
 generalize x.kind=ga0 at *
 generalize x.vk=ga1 at *
 generalize x.vn=ga2 at *
 generalize mkB x.vs=gs1 at *
 generalize mkB x.s=gs2 at *
 generalize y.kind=ra0 at *
 generalize y.vk=ra1 at *
 generalize y.vn=ra2 at *
 generalize mkB y.vs=rs1 at *
 generalize mkB y.s=rs2 at *
 generalize za2 x=wh at *
 obtain ⟨vk,vn,vs,vl⟩:=v
 simp only [PV.kind,PV.n,PV.s] at HR |-
 have HS:=yb h
 have hpw:=h.lt
 clear h
 go_enter Tryz.func143,Tryz.ntmps143
 go_wp2
 have HB1:=yb (zaF w (.cells #[.int .i64 vk,.int .i64 vn,.string (mkB vs),.slice none 0 0] 25) (.cells #[.int .i64 0,.int .i64 0,.string ⟨#[]⟩,.slice none 0 0] 25))
 have HS1:=yb (HS.out.mono HB1.out)
 have HK3:=yb (zak (.cells #[.int .i64 0,.int .i64 0,.string ⟨#[]⟩,.slice none 0 0] 25) (zab (w:=w) (b:=w.heap.size) (.cells #[.int .i64 vk,.int .i64 vn,.string (mkB vs),.slice none 0 0] 25) rfl))
 have HK4:=yb (zab (w:=w.alloc (.cells #[.int .i64 vk,.int .i64 vn,.string (mkB vs),.slice none 0 0] 25)) (b:=w.heap.size+1) (.cells #[.int .i64 0,.int .i64 0,.string ⟨#[]⟩,.slice none 0 0] 25) (by rw [zaq]))
 generalize (w.alloc _).alloc _=W1 at *
 obtain ⟨r,hr⟩:∃r,r=w.heap.size:=⟨_,rfl⟩
 have hpr0:p≠r:=by omega
 have hpr1:p≠r+1:=by omega
 rw [<-hr] at HK3 HK4 |-
 have HRR:=yb hr
 clear hr hpw
 obtain ⟨⟨c0,c1,c2,c3⟩,f0,f1,f2,f3⟩:=HS1.out.cells
 go_upto_region 1 with fail
 go_cut [6,7] from 9 (fun v6 v7 wx=>∃r2,v6=.pointer (some ⟨r2,0,none⟩)/\v7=.int .i64 ger/\Hid (TkM W1 wx r2 #[.int .i64 ga0,.int .i64 gf,.int .i64 gt,.int .i64 ga1,.int .i64 ga2,.string gs1,.slice none 0 0,.string gs2]))
 case first =>
  have HA1:=yb (fun o:Obj=>(zae W1 o).drew)
  have HA2:=yb (fun o:Obj=>HB1.out.trans ((HA1.out o).mono (show w.heap.size<=W1.heap.size from HB1.out.size)))
  have HC0:Hid (S3 W1 p 0 (.slice a bs.length cap) p 1 (.int .i64 at_) p 2 (.bool yq)):=yb ⟨c0,c1,c2⟩
  have HPR:Hid (p≠W1.heap.size/\p≠W1.heap.size/\p≠W1.heap.size):=yb ⟨Nat.ne_of_lt (World.block_lt_of_cell? W1 _ c0),Nat.ne_of_lt (World.block_lt_of_cell? W1 _ c1),Nat.ne_of_lt (World.block_lt_of_cell? W1 _ c2)⟩
  go_region_held3 (fun w'=>w'.cell? ⟨p,0,none⟩=some (.slice a bs.length cap)/\w'.cell? ⟨p,1,none⟩=some (.int .i64 at_)/\w'.cell? ⟨p,2,none⟩=some (.bool yq))
   ((show S3 _ p 0 (.slice a bs.length cap) p 1 (.int .i64 at_) p 2 (.bool yq);(first
    |(with_reducible exact HC0.out.drew)
    |(with_reducible exact HC0.out)
    |(with_reducible exact (HC0.out.alloc _).drew)
    |(with_reducible exact Hid.out (by assumption))
    |(with_reducible exact S3.alloc (Hid.out (by assumption)) _)
    |(with_reducible exact S3.set8 (Hid.out (by assumption)) HPR.out.1 HPR.out.2.1 HPR.out.2.2 _ _ _ _ _ _ _ _))))
   ((go_at_call 100;first
    |((with_reducible refine (HN.out _ HB1.out.drew).mono ?_);rintro e wN ⟨rfl,hbN⟩;have hbM:Below W1.heap.size W1 wN:=(Below.refl _ _).drew.trans hbN;have HSN:=yb (HC0.out.below hbM))
    |((with_reducible refine (HN.out _ (HA2.out _)).mono ?_);rintro e wN ⟨rfl,hbN⟩;have hbM:Below W1.heap.size W1 wN:=(HA1.out _).trans (hbN.mono (HA1.out _).size);have HSN:=yb (HC0.out.below hbM);have HZ:=yb (zaa hbN (zab (w:=W1) (b:=W1.heap.size) (.cells #[.int .i64 0,.int .i64 0,.int .i64 0,.int .i64 0,.int .i64 0,.string ⟨#[]⟩,.slice none 0 0,.string ⟨#[]⟩] 112) rfl));obtain ⟨⟨z0,z1,z2,z3,z4,z5,z6,z7⟩,y0,y1,y2,y3,y4,y5,y6,y7⟩:=zao HZ.out)))
  all_goals
   first
    |(obtain ⟨W2,hW2⟩:∃W2,W2=wN.alloc (.cells #[.int .i64 ga0,.int .i64 gf,.int .i64 gt,.int .i64 ga1,.int .i64 ga2,.string gs1,.slice none 0 0,.string gs2] 112):=⟨_,rfl⟩
      rw [<-hW2]
      have HT:=yb (show TkM W1 W2 wN.heap.size #[.int .i64 ga0,.int .i64 gf,.int .i64 gt,.int .i64 ga1,.int .i64 ga2,.string gs1,.slice none 0 0,.string gs2] from ⟨by rw [hW2];exact hbM.alloc hbM.size _,by rw [hW2];exact zab _ rfl,hbM.size⟩)
      obtain ⟨r2,hr2⟩:∃r2,r2=wN.heap.size:=⟨_,rfl⟩
      rw [<-hr2] at HT |-)
    |(obtain ⟨W2,hW2⟩:∃W2,W2=((((((((wN.setCell ⟨W1.heap.size,0,none⟩ (.int .i64 ga0)).setCell ⟨W1.heap.size,1,none⟩ (.int .i64 gf)).setCell ⟨W1.heap.size,2,none⟩ (.int .i64 gt)).setCell ⟨W1.heap.size,3,none⟩ (.int .i64 ga1)).setCell ⟨W1.heap.size,4,none⟩ (.int .i64 ga2)).setCell ⟨W1.heap.size,5,none⟩ (.string gs1)).setCell ⟨W1.heap.size,6,none⟩ (.slice none 0 0)).setCell ⟨W1.heap.size,7,none⟩ (.string gs2)):=⟨_,rfl⟩
      rw [<-hW2]
      have HT:=yb (show TkM W1 W2 W1.heap.size #[.int .i64 ga0,.int .i64 gf,.int .i64 gt,.int .i64 ga1,.int .i64 ga2,.string gs1,.slice none 0 0,.string gs2] from ⟨by rw [hW2];exact zba hbM (yp _) _ _ _ _ _ _ _ _,by rw [hW2];exact set8 HZ.out _ _ _ _ _ _ _ _,yp _⟩)
      clear z0 z1 z2 z3 z4 z5 z6 z7 y0 y1 y2 y3 y4 y5 y6 y7 HZ
      obtain ⟨r2,hr2⟩:∃r2,r2=W1.heap.size:=⟨_,rfl⟩
      rw [<-hr2] at HT |-)
   clear hW2 hr2 hbN hbM HSN
  all_goals
   go_wp2
   go_meet
   exact ⟨r2,rfl,rfl,HT⟩
 case rest =>
  obtain ⟨r2,rfl,rfl,HT⟩:=hcut
  have HS2:=yb (HS1.out.mono HT.out.bel)
  have HB2:=yb (HB1.out.trans (HT.out.bel.mono HB1.out.size))
  have HL3:=yb (zaa HT.out.bel HK3.out)
  have HL4:=yb (zaa HT.out.bel HK4.out)
  have HTK:=yb HT.out.blk
  clear c0 c1 c2 c3 f0 f1 f2 f3 HT HK3 HK4 HS1 HB1 HN
  have hmv:=yb (fun e w=>more_any e w)
  by_cases hg:ger=0
  case neg =>
   have e1:(ger==0)=false:=by rw [yf];exact hg
   have e2:(ger != 0)=true:=by simp only [bne,e1,yj]
   have hr2:=HR.out
   rw [yg (.inl hg)] at hr2
   have HR2:=yb hr2
   obtain ⟨⟨k0,k1,k2,k3⟩,m0,m1,m2,m3⟩:=zah HL3.out
   obtain ⟨⟨q0,q1,q2,q3⟩,n0,n1,n2,n3⟩:=zah HL4.out
   clear hr2 hg HR HN2
   go_wp2
   go_region_with ((go_at_call 174;refine (hmv.out _ _).mono ?_;rintro e w' ⟨rfl,rfl⟩))
   all_goals
    go_wp2
    refine yi (zac rfl _ _ (r+1) 25 _ (0,0) _ rfl (by exact set4 HL4.out _ _ _ _) Tryz.underlying25 rfl (by exact zaO) _ rfl) rfl ?_
    rw [HR2.out]
    exact ⟨rfl,drew4 (fin4 HS.out HB2.out (by rw [HRR.out];exact Nat.le_succ _) (zal HL4.out) _ _ _ _)⟩
  subst hg
  cases wh with
  | false =>
   have hr2:=HR.out
   rw [yg (.inr rfl)] at hr2
   have HR2:=yb hr2
   obtain ⟨⟨k0,k1,k2,k3,k4,k5,k6,k7⟩,-⟩:=zao HTK.out
   clear hr2 HR HN2
   go_wp2_with fail
   refine (HWH.out _).mono ?_
   rintro e w' ⟨rfl,hb⟩
   have HL3b:=yb (zaa hb HL3.out)
   have HL4b:=yb (zaa hb HL4.out)
   have HB3:=yo HB2 hb
   obtain ⟨⟨k0,k1,k2,k3⟩,m0,m1,m2,m3⟩:=zah HL3b.out
   obtain ⟨⟨q0,q1,q2,q3⟩,n0,n1,n2,n3⟩:=zah HL4b.out
   clear hb
   go_wp2
   go_region_with ((go_at_call 174;refine (hmv.out _ _).mono ?_;rintro e w' ⟨rfl,rfl⟩))
   all_goals
    go_wp2
    refine yi (zac rfl _ _ (r+1) 25 _ (0,0) _ rfl (by exact set4 HL4b.out _ _ _ _) Tryz.underlying25 rfl (by exact zaO) _ rfl) rfl ?_
    rw [HR2.out]
    exact ⟨rfl,drew4 (fin4 HS.out HB3.out (by rw [HRR.out];exact Nat.le_succ _) (zal HL4b.out) _ _ _ _)⟩
  | true =>
   have hr1:=HR.out
   rw [yh (by simp)] at hr1
   have HRX:=yb hr1
   obtain ⟨⟨k0,k1,k2,k3,k4,k5,k6,k7⟩,-⟩:=zao HTK.out
   clear hr1 HR
   go_upto_region 4 with (go_at_call 142;refine (HWH.out _).mono ?_;rintro e W3 ⟨rfl,hb3⟩)
   have HB3:=yo HB2 hb3
   have HS3:=yb (HS2.out.mono hb3)
   have HL3b:=yb (zaa hb3 HL3.out)
   have HL4b:=yb (zaa hb3 HL4.out)
   have HTKb:=yb (zaa hb3 HTK.out)
   clear hb3 k0 k1 k2 k3 k4 k5 k6 k7
   go_cut [7,8] from 9 (fun v7 v8 wx=>∃r3,v7=.int .i64 rer/\v8=.pointer (some ⟨r3,0,none⟩)/\Hid (TkM W3 wx r3 #[.int .i64 ra0,.int .i64 rf,.int .i64 rt,.int .i64 ra1,.int .i64 ra2,.string rs1,.slice none 0 0,.string rs2]))
   case first =>
    obtain ⟨⟨k0,k1,k2,k3,k4,k5,k6,k7⟩,-⟩:=zao HTKb.out
    obtain ⟨⟨c0,c1,c2,c3⟩,-⟩:=HS3.out.cells
    clear k0 k1 k3 k4 k5 k6 k7 c1 c3
    have HA1:=yb (fun o:Obj=>(zae W3 o).drew)
    have HA2:=yb (fun o:Obj=>HB3.out.trans ((HA1.out o).mono (show w.heap.size<=W3.heap.size from HB3.out.size)))
    have HC0:Hid (S3 W3 p 0 (.slice a bs.length cap) r2 2 (.int .i64 gt) p 2 (.bool yq)):=yb ⟨c0,k2,c2⟩
    have HPR:Hid (p≠W3.heap.size/\r2≠W3.heap.size/\p≠W3.heap.size):=yb ⟨Nat.ne_of_lt (World.block_lt_of_cell? W3 _ c0),Nat.ne_of_lt (World.block_lt_of_cell? W3 _ k2),Nat.ne_of_lt (World.block_lt_of_cell? W3 _ c2)⟩
    go_region_held3 (fun w'=>w'.cell? ⟨p,0,none⟩=some (.slice a bs.length cap)/\w'.cell? ⟨r2,2,none⟩=some (.int .i64 gt)/\w'.cell? ⟨p,2,none⟩=some (.bool yq))
     ((show S3 _ p 0 (.slice a bs.length cap) r2 2 (.int .i64 gt) p 2 (.bool yq);(first
      |(with_reducible exact HC0.out.drew)
      |(with_reducible exact HC0.out)
      |(with_reducible exact (HC0.out.alloc _).drew)
      |(with_reducible exact Hid.out (by assumption))
      |(with_reducible exact S3.alloc (Hid.out (by assumption)) _)
      |(with_reducible exact S3.set8 (Hid.out (by assumption)) HPR.out.1 HPR.out.2.1 HPR.out.2.2 _ _ _ _ _ _ _ _))))
     ((go_at_call 100;first
      |((with_reducible refine (HN2.out _ HB3.out.drew).mono ?_);rintro e wN ⟨rfl,hbN⟩;have hbM:Below W3.heap.size W3 wN:=(Below.refl _ _).drew.trans hbN;have HSN:=yb (HC0.out.below hbM))
      |((with_reducible refine (HN2.out _ (HA2.out _)).mono ?_);rintro e wN ⟨rfl,hbN⟩;have hbM:Below W3.heap.size W3 wN:=(HA1.out _).trans (hbN.mono (HA1.out _).size);have HSN:=yb (HC0.out.below hbM);have HZ:=yb (zaa hbN (zab (w:=W3) (b:=W3.heap.size) (.cells #[.int .i64 0,.int .i64 0,.int .i64 0,.int .i64 0,.int .i64 0,.string ⟨#[]⟩,.slice none 0 0,.string ⟨#[]⟩] 112) rfl));obtain ⟨⟨z0,z1,z2,z3,z4,z5,z6,z7⟩,y0,y1,y2,y3,y4,y5,y6,y7⟩:=zao HZ.out)))
    all_goals
     first
      |(obtain ⟨W2,hW2⟩:∃W2,W2=wN.alloc (.cells #[.int .i64 ra0,.int .i64 rf,.int .i64 rt,.int .i64 ra1,.int .i64 ra2,.string rs1,.slice none 0 0,.string rs2] 112):=⟨_,rfl⟩
        rw [<-hW2]
        have HT:=yb (show TkM W3 W2 wN.heap.size #[.int .i64 ra0,.int .i64 rf,.int .i64 rt,.int .i64 ra1,.int .i64 ra2,.string rs1,.slice none 0 0,.string rs2] from ⟨by rw [hW2];exact hbM.alloc hbM.size _,by rw [hW2];exact zab _ rfl,hbM.size⟩)
        obtain ⟨r2_1,hr2⟩:∃r2_1,r2_1=wN.heap.size:=⟨_,rfl⟩
        rw [<-hr2] at HT |-)
      |(obtain ⟨W2,hW2⟩:∃W2,W2=((((((((wN.setCell ⟨W3.heap.size,0,none⟩ (.int .i64 ra0)).setCell ⟨W3.heap.size,1,none⟩ (.int .i64 rf)).setCell ⟨W3.heap.size,2,none⟩ (.int .i64 rt)).setCell ⟨W3.heap.size,3,none⟩ (.int .i64 ra1)).setCell ⟨W3.heap.size,4,none⟩ (.int .i64 ra2)).setCell ⟨W3.heap.size,5,none⟩ (.string rs1)).setCell ⟨W3.heap.size,6,none⟩ (.slice none 0 0)).setCell ⟨W3.heap.size,7,none⟩ (.string rs2)):=⟨_,rfl⟩
        rw [<-hW2]
        have HT:=yb (show TkM W3 W2 W3.heap.size #[.int .i64 ra0,.int .i64 rf,.int .i64 rt,.int .i64 ra1,.int .i64 ra2,.string rs1,.slice none 0 0,.string rs2] from ⟨by rw [hW2];exact zba hbM (yp _) _ _ _ _ _ _ _ _,by rw [hW2];exact set8 HZ.out _ _ _ _ _ _ _ _,yp _⟩)
        clear z0 z1 z2 z3 z4 z5 z6 z7 y0 y1 y2 y3 y4 y5 y6 y7 HZ
        obtain ⟨r2_1,hr2⟩:∃r2_1,r2_1=W3.heap.size:=⟨_,rfl⟩
        rw [<-hr2] at HT |-)
     clear hW2 hr2 hbN hbM HSN
    all_goals
     go_wp2
     go_meet
     exact ⟨r2_1,rfl,rfl,HT⟩
   case rest =>
    obtain ⟨r3,rfl,rfl,HT⟩:=hcut
    have HS4:=yb (HS3.out.mono HT.out.bel)
    have HB4:=yb (HB3.out.trans (HT.out.bel.mono HB3.out.size))
    have HM3:=yb (zaa HT.out.bel HL3b.out)
    have HM4:=yb (zaa HT.out.bel HL4b.out)
    have HU1:=yb (zaa HT.out.bel HTKb.out)
    have HU2:=yb HT.out.blk
    clear HT
    obtain ⟨⟨k0,k1,k2,k3⟩,m0,m1,m2,m3⟩:=zah HM3.out
    obtain ⟨⟨q0,q1,q2,q3⟩,n0,n1,n2,n3⟩:=zah HM4.out
    obtain ⟨⟨t0,t1,t2,t3,t4,t5,t6,t7⟩,-⟩:=zao HU2.out
    obtain ⟨⟨d0,d1,d2,d3,d4,d5,d6,d7⟩,-⟩:=zao HU1.out
    obtain ⟨⟨c0,c1,c2,c3⟩,f0,f1,f2,f3⟩:=HS4.out.cells
    have hys:=HYS.out
    by_cases h0:rer=0
    case neg =>
     have e1:(rer==0)=false:=by rw [yf];exact h0
     have e2:(rer != 0)=true:=by simp only [bne,e1,yj]
     have hr2:=HRX.out
     rw [yg (.inl h0)] at hr2
     have HR2:=yb hr2
     clear hr2 h0 hys
     go_wp2
     go_region_with ((go_at_call 174;refine (hmv.out _ _).mono ?_;rintro e w' ⟨rfl,rfl⟩))
     all_goals
      go_wp2
      refine yi (zac rfl _ _ (r+1) 25 _ (0,0) _ rfl (by exact set4 HM4.out _ _ _ _) Tryz.underlying25 rfl (by exact zaO) _ rfl) rfl ?_
      rw [HR2.out]
      exact ⟨rfl,drew4 (fin4 HS.out HB4.out (by rw [HRR.out];exact Nat.le_succ _) (zal HM4.out) _ _ _ _)⟩
    subst h0
    by_cases h6:ra0=6
    case neg =>
     have e1:(ra0==6)=false:=by rw [yf];exact h6
     have e2:(ra0 != 6)=true:=by simp only [bne,e1,yj]
     have hr2:=HRX.out
     rw [yg (.inr (.inl h6))] at hr2
     have HR2:=yb hr2
     clear hr2 h6 hys
     go_wp2
     go_region_with ((go_at_call 174;refine (hmv.out _ _).mono ?_;rintro e w' ⟨rfl,rfl⟩))
     all_goals
      go_wp2
      refine yi (zac rfl _ _ (r+1) 25 _ (0,0) _ rfl (by exact set4 HM4.out _ _ _ _) Tryz.underlying25 rfl (by exact zaO) _ rfl) rfl ?_
      rw [HR2.out]
      exact ⟨rfl,drew4 (fin4 HS.out HB4.out (by rw [HRR.out];exact Nat.le_succ _) (zal HM4.out) _ _ _ _)⟩
    subst h6
    by_cases hs:y.s=[82]
    case neg =>
     rw [ye hs] at hys
     have hr2:=HRX.out
     rw [yg (.inr (.inr hs))] at hr2
     have HR2:=yb hr2
     clear hr2 hs
     go_wp2
     go_region_with ((go_at_call 174;refine (hmv.out _ _).mono ?_;rintro e w' ⟨rfl,rfl⟩))
     all_goals
      go_wp2
      refine yi (zac rfl _ _ (r+1) 25 _ (0,0) _ rfl (by exact set4 HM4.out _ _ _ _) Tryz.underlying25 rfl (by exact zaO) _ rfl) rfl ?_
      rw [HR2.out]
      exact ⟨rfl,drew4 (fin4 HS.out HB4.out (by rw [HRR.out];exact Nat.le_succ _) (zal HM4.out) _ _ _ _)⟩
    rw [yd hs] at hys
    have hr2:=HRX.out
    rw [yh (by rintro (h|h|h);exact h rfl;exact h rfl;exact h hs)] at hr2
    have HRY:=yb hr2
    clear hr2 hs
    by_cases hv1:vn<1
    case pos =>
     have hd:decide (vn<1)=true:=yd hv1
     have hr2:=HRY.out.trans (yg (show vn<1\/4096<vn\/ga2≠0 from .inl hv1))
     have HR2:=yb hr2
     clear hr2 hv1
     go_wp2
     refine yi (zac rfl _ _ (r+1) 25 _ (0,0) _ rfl (by exact set4 HM4.out _ _ _ _) Tryz.underlying25 rfl (by exact zaO) _ rfl) rfl ?_
     rw [HR2.out]
     exact ⟨rfl,fin4 HS.out HB4.out (by rw [HRR.out];exact Nat.le_succ _) (zal HM4.out) _ _ _ _⟩
    have hd1:decide (vn<1)=false:=ye hv1
    by_cases hv2:4096<vn
    case pos =>
     have hd:decide (4096<vn)=true:=yd hv2
     have hr2:=HRY.out.trans (yg (show vn<1\/4096<vn\/ga2≠0 from .inr (.inl hv2)))
     have HR2:=yb hr2
     clear hr2 hv2 hv1
     go_wp2
     refine yi (zac rfl _ _ (r+1) 25 _ (0,0) _ rfl (by exact set4 HM4.out _ _ _ _) Tryz.underlying25 rfl (by exact zaO) _ rfl) rfl ?_
     rw [HR2.out]
     exact ⟨rfl,fin4 HS.out HB4.out (by rw [HRR.out];exact Nat.le_succ _) (zal HM4.out) _ _ _ _⟩
    have hd2:decide (4096<vn)=false:=ye hv2
    by_cases hg2:ga2=0
    case neg =>
     have e1:(ga2==0)=false:=by rw [yf];exact hg2
     have e2:(ga2 != 0)=true:=by simp only [bne,e1,yj]
     have hr2:=HRY.out.trans (yg (show vn<1\/4096<vn\/ga2≠0 from .inr (.inr hg2)))
     have HR2:=yb hr2
     clear hr2 hv2 hv1 hg2
     go_wp2
     refine yi (zac rfl _ _ (r+1) 25 _ (0,0) _ rfl (by exact set4 HM4.out _ _ _ _) Tryz.underlying25 rfl (by exact zaO) _ rfl) rfl ?_
     rw [HR2.out]
     exact ⟨rfl,fin4 HS.out HB4.out (by rw [HRR.out];exact Nat.le_succ _) (zal HM4.out) _ _ _ _⟩
    subst hg2
    have hr2:=HRY.out.trans (yh (show ¬(vn<1\/4096<vn\/(0:Int)≠0) by rintro (h|h|h);exact hv1 h;exact hv2 h;exact h rfl))
    have HR2:=yb hr2
    clear hr2 hv2 hv1
    go_wp2
    refine yi (zac rfl _ _ (r+1) 25 _ (0,0) _ rfl (by exact set4 ((heap_setCell_other _ _ _ _ (Ne.symm hpr1)).trans HM4.out) _ _ _ _) Tryz.underlying25 rfl (by exact zaO) _ rfl) rfl ?_
    rw [HR2.out]
    exact ⟨rfl,fin4a HS.out HB4.out (by rw [HRR.out];exact Nat.le_succ _) (zal HM4.out) _ _ _ _ _⟩
end
section
variable {w0 w w' : World} {F F' G : Nat -> Prop} {p : Nat} {a : Option Addr} {cap : Nat} {bs : List UInt8} {yq : Bool} {st : List Lv} {at_ : Int} {gs : List Nat} {osl : Value}
theorem zap.top (h:zap w0 w F G p a cap bs yq st at_ gs osl):(st=[]/\gs=[])\/∃v st' g t sa sc,st=v::st'/\gs=g::t/\v.l.length<=sc/\sc<=maxLen/\w.heap[g]?=some (.cells #[.bool v.dict,.slice sa v.l.length sc] 128 (0,0)):=by
 cases st with
 | nil=>exact .inl ⟨rfl,List.eq_nil_of_length_eq_zero (by rw [h.lvs.len];rfl)⟩
 | cons v st' =>
  obtain ⟨g,t,sl,cs,h1,h2,h3,h4,h5,h6,h7,h8⟩:=h.lvs
  obtain ⟨sa,sc,rfl,h9,h10⟩:=zaG h5
  exact .inr ⟨v,st',g,t,sa,sc,rfl,h1,h9,h10,h4⟩
theorem single_any (h:zap w0 w F G p a cap bs yq st at_ gs osl) (x:Tk) (f t:Int):Calls Tryz.prog 104 #[.pointer (some ⟨p,0,none⟩),.agg (tokN x f t)] w (RefEnd w0 w F G p a cap bs yq st gs osl (zaP bs yq st at_ x)):=by
 obtain ⟨R,hR⟩:∃R,R=zaP bs yq st at_ x:=⟨_,rfl⟩
 rw [<-hR]
 unfold zaP at hR
 have HR:=yb hR
 have HTOP:=yb (fun (W:World) (hb:Below w.heap.size w W)=>zfM (h.mono hb))
 have HTP:=yb (fun (W:World) (hb:Below w.heap.size w W)=>(h.mono hb).top)
 have HREF:=yb (fun (W:World) (hb:Below w.heap.size w W) (hl:w.heap.size+1<W.heap.size)=>ref_any (h.res (G':=fun b=>G b\/b=w.heap.size+1) hb (fun b h=>h.imp id fun e=>by rw [e];exact ⟨Nat.le_succ _,hl⟩)) (tkV x))
 have HWD:=yb (fun (W:World)=>pword_any x.s W)
 have HWH:=yb (fun (W:World)=>whole_tk x f t W)
 have HTK:=yb (show tkV x=.mk x.vk x.vn x.vs [] from rfl)
 generalize tkV x=TV at *
 unfold tokN at *
 generalize za2 x=wh at *
 generalize x.kind=a0 at *
 generalize x.vk=a1 at *
 generalize x.vn=a2 at *
 generalize hxs:x.vs=xs at *
 generalize x.s=ys at *
 have HS:=yb h
 have hpw:=h.lt
 clear h hR hxs
 go_enter Tryz.func104,Tryz.ntmps104
 go_wp2_with fail
 have HB1:=yb (zaF w (.cells #[.int .i64 a0,.int .i64 f,.int .i64 t,.int .i64 a1,.int .i64 a2,.string (mkB xs),.slice none 0 0,.string (mkB ys)] 112) (.cells #[.int .i64 0,.int .i64 0,.string ⟨#[]⟩,.slice none 0 0] 25))
 have HK3:=yb (zak (.cells #[.int .i64 0,.int .i64 0,.string ⟨#[]⟩,.slice none 0 0] 25) (zab (w:=w) (b:=w.heap.size) (.cells #[.int .i64 a0,.int .i64 f,.int .i64 t,.int .i64 a1,.int .i64 a2,.string (mkB xs),.slice none 0 0,.string (mkB ys)] 112) rfl))
 have HK4:=yb (zab (w:=w.alloc (.cells #[.int .i64 a0,.int .i64 f,.int .i64 t,.int .i64 a1,.int .i64 a2,.string (mkB xs),.slice none 0 0,.string (mkB ys)] 112)) (b:=w.heap.size+1) (.cells #[.int .i64 0,.int .i64 0,.string ⟨#[]⟩,.slice none 0 0] 25) (by rw [zaq]))
 refine (HTOP.out _ HB1.out).mono ?_
 rintro e w1 ⟨rfl,q,rfl⟩
 generalize (w.alloc _).alloc _=W1 at *
 have HB2:=yb (zad HB1.out q)
 have HL3:=yb (show (W1.drewN q).heap[w.heap.size]?=_ from HK3.out)
 have HL4:=yb (show (W1.drewN q).heap[w.heap.size+1]?=_ from HK4.out)
 clear HK3 HK4 HB1
 generalize W1.drewN q=W2 at *
 obtain ⟨r,hr⟩:∃r,r=w.heap.size:=⟨_,rfl⟩
 have hpr0:p≠r:=by omega
 have hpr1:p≠r+1:=by omega
 rw [<-hr] at HL3 HL4 |-
 have HRR:=yb hr
 clear hr hpw
 go_upto_region 2 with fail
 go_cut [25] from 7 (fun v25 wx=>∃c:Bool,v25=.bool c/\Hid (c=true↔(topW st=true/\(a0≠1\/a1≠5)))/\W2=wx)
 case first =>
  obtain ⟨⟨k0,k1,k2,k3,k4,k5,k6,k7⟩,-⟩:=zao HL3.out
  rcases HTP.out _ HB2.out with ⟨rfl,rfl⟩|⟨v,st',g,t',sa,sc,rfl,rfl,h1,h2,h3⟩
  ·unfold topP
   go_wp2
   go_meet
   exact ⟨false,rfl,yb (by simp [topW]),rfl⟩
  ·have HWT:=yb (zeP h3 (by omega))
   have HTW:=yb (show topW (v::st')=(v.dict&&v.l.length % 2==0) from rfl)
   unfold topP
   generalize (v.dict&&v.l.length % 2==0)=tw at *
   clear h1 h2 h3
   cases tw
   ·go_wp2_with (go_at_call 139;refine HWT.out.mono ?_;rintro e w' ⟨rfl,rfl⟩)
    go_meet
    exact ⟨false,rfl,yb (by rw [HTW.out];simp),rfl⟩
   ·by_cases h1:a0=1
    ·subst h1
     by_cases h5:a1=5
     ·subst h5
      go_wp2_with (go_at_call 139;refine HWT.out.mono ?_;rintro e w' ⟨rfl,rfl⟩)
      go_meet
      exact ⟨false,rfl,yb (by simp),rfl⟩
     ·have e1:(a1==5)=false:=by rw [yf];exact h5
      have e2:(a1 != 5)=true:=by simp only [bne,e1,yj]
      go_wp2_with (go_at_call 139;refine HWT.out.mono ?_;rintro e w' ⟨rfl,rfl⟩)
      go_meet
      exact ⟨true,rfl,yb (by rw [HTW.out];simp [h5]),rfl⟩
    ·have e1:(a0==1)=false:=by rw [yf];exact h1
     have e2:(a0 != 1)=true:=by simp only [bne,e1,yj]
     go_wp2_with (go_at_call 139;refine HWT.out.mono ?_;rintro e w' ⟨rfl,rfl⟩)
     go_meet
     exact ⟨true,rfl,yb (by rw [HTW.out];simp [h1]),rfl⟩
 case rest =>
  obtain ⟨c,rfl,HC,rfl⟩:=hcut
  have hr1:w.heap.size<=r+1:=by rw [HRR.out];exact Nat.le_succ _
  have HR1:=yb hr1
  clear hr1
  cases c with
  | true =>
   have hr2:=HR.out
   rw [yg (HC.out.1 rfl)] at hr2
   have HR2:=yb hr2
   obtain ⟨⟨q0,q1,q2,q3⟩,n0,n1,n2,n3⟩:=zah HL4.out
   clear hr2 HR HREF HWD HWH
   go_wp2
   refine yi (zac rfl _ _ (r+1) 25 _ (0,0) _ rfl (by exact set4 HL4.out _ _ _ _) Tryz.underlying25 rfl (by exact zaO) _ rfl) rfl ?_
   rw [HR2.out]
   exact ⟨rfl,fin4 HS.out HB2.out HR1.out (zal HL4.out) _ _ _ _⟩
  | false =>
   have hr2:=HR.out
   rw [yh (fun h=>absurd (HC.out.2 h) (by decide))] at hr2
   have HRX:=yb hr2
   obtain ⟨⟨k0,k1,k2,k3,k4,k5,k6,k7⟩,-⟩:=zao HL3.out
   clear hr2 HR HC
   by_cases h6:a0=6
   ·have hr2:=HRX.out
    rw [yg h6] at hr2
    subst h6
    have hr3:R=((wordE ys).1,at_,(wordE ys).2):=by
     rw [hr2];unfold wordE;cases zfH ys<;>rfl
    have HR2:=yb hr3
    unfold pvA at HWD
    clear hr2 hr3 HRX
    go_wp2_with fail
    refine (HWD.out _).mono ?_
    rintro e w3 ⟨rfl,hb3⟩
    have HL4b:=yb (zaa hb3 HL4.out)
    have HB3:=yo HB2 hb3
    obtain ⟨⟨q0,q1,q2,q3⟩,n0,n1,n2,n3⟩:=zah HL4b.out
    clear hb3
    go_wp2
    refine yi (zac rfl _ _ (r+1) 25 _ (0,0) _ rfl (by exact set4 HL4b.out _ _ _ _) Tryz.underlying25 rfl (by exact zaO) _ rfl) rfl ?_
    rw [HR2.out]
    exact ⟨rfl,fin4 HS.out HB3.out HR1.out (zal HL4b.out) _ _ _ _⟩
   ·have hr2:=HRX.out
    rw [yh h6] at hr2
    have HRY:=yb hr2
    have e1:(a0==6)=false:=by rw [yf];exact h6
    clear hr2 h6 HRX
    go_wp2_with fail
    refine (HWH.out _).mono ?_
    rintro e w3 ⟨rfl,hb3⟩
    have HL3b:=yb (zaa hb3 HL3.out)
    have HL4b:=yb (zaa hb3 HL4.out)
    have HB3:=yo HB2 hb3
    clear k0 k1 k2 k3 k4 k5 k6 k7 hb3
    obtain ⟨⟨k0,k1,k2,k3,k4,k5,k6,k7⟩,-⟩:=zao HL3b.out
    cases wh with
    | true =>
     have hr2:=HRY.out
     rw [yg rfl] at hr2
     have HR2:=yb hr2
     have HC2:=yb (HREF.out _ HB3.out (by rw [<-HRR.out];exact zal HL4b.out))
     rw [HTK.out] at HC2
     unfold pvA at HC2
     simp only [PV.kind,PV.n,PV.s] at HC2
     clear hr2 HRY HREF
     go_wp2_with fail
     refine HC2.out.mono ?_
     rintro e w4 ⟨he,hs4,hk4⟩
     unfold pvA at he
     subst he
     have HL4c:=yb (hk4.obj HL4b.out (fun e=>hpr1 e.symm))
     have HS4:=yb hs4
     have HK4:=yb ((zat HB3.out).trans hk4 (fun b hb=>.inl hb))
     obtain ⟨⟨q0,q1,q2,q3⟩,n0,n1,n2,n3⟩:=zah HL4c.out
     clear hs4 hk4 HC2
     go_wp2
     refine yi (zac rfl _ _ (r+1) 25 _ (0,0) _ rfl (by exact set4 HL4c.out _ _ _ _) Tryz.underlying25 rfl (by exact zaO) _ rfl) rfl ?_
     rw [HR2.out]
     rw [HTK.out]
     exact ⟨rfl,(HS4.out.set4 (.inr (by rw [HRR.out])) _ _ _ _).give fun b hb=>.inl hb,za1 HK4.out HR1.out _ _ _ _⟩
    | false =>
     have hr2:=HRY.out
     rw [yh (by decide)] at hr2
     have HR2:=yb hr2
     obtain ⟨⟨q0,q1,q2,q3⟩,n0,n1,n2,n3⟩:=zah HL4b.out
     clear hr2 HRY HREF
     go_wp2
     refine yi (zac rfl _ _ (r+1) 25 _ (0,0) _ rfl (by exact set4 HL4b.out _ _ _ _) Tryz.underlying25 rfl (by exact zaO) _ rfl) rfl ?_
     rw [HR2.out,HTK.out]
     exact ⟨rfl,fin4 HS.out HB3.out HR1.out (zal HL4b.out) _ _ _ _⟩
end
theorem ptrs_cons (g:Nat) (gs:List Nat):ptrs (g::gs)=ptrs gs++[.pointer (some ⟨g,0,none⟩)]:=by simp [ptrs]
section
variable {w0 w w' : World} {F F' G G' : Nat -> Prop} {p : Nat} {a : Option Addr} {cap : Nat} {bs : List UInt8} {yq : Bool} {st : List Lv} {at_ : Int} {gs : List Nat} {osl : Value}
theorem zap.ownp (h:zap w0 w F G p a cap bs yq st at_ gs osl) {b:Nat} (hb:osl.ownBlock=some b):b≠p:=by
 obtain ⟨cs,hc⟩:=zaC h.own hb;exact zaW hc h.blk (by decide)
theorem zap.ownF (h:zap w0 w F G p a cap bs yq st at_ gs osl) {b:Nat} (hb:osl.ownBlock=some b):¬F b:=fun hf=>by
 obtain ⟨cs,hc⟩:=zaC h.own hb
 obtain ⟨_,_,ds,hd⟩:=h.fb b hf
 exact zaW hc hd (by decide) rfl
theorem zap.Flt (h:zap w0 w F G p a cap bs yq st at_ gs osl) {b:Nat} (hb:F b):b<w.heap.size:=by obtain ⟨_,_,cs,hc⟩:=h.fb b hb;exact zal hc
theorem isLV_ne {w:World} {b c:Nat} {x:Array Value} {t:TypeId} {f:Nat×Nat} (h:IsLV w b) (hc:w.heap[c]?=some (.cells x t f)) (h1:t≠128) (h2:t≠25):b≠c:=by
 rcases h with ⟨cs,h⟩|⟨cs,h⟩
 ·exact zaW h hc (Ne.symm h1)
 ·exact zaW h hc (Ne.symm h2)
theorem zap.push (h:zap w0 w F G p a cap bs yq st at_ gs osl) (d:Bool) (hd:st.length<64) (o:Obj) {w2:World} {v':Value}
  (hO:w2.ownsRow w0.heap.size 125 1 v' (st.length+1) (ptrs gs++[.pointer (some ⟨w.heap.size,0,none⟩)]))
  (hg:((w.alloc (.cells #[.bool d,.slice none 0 0] 128)).alloc o).grownBy w2 osl.ownBlock) (hN:NewAt ((w.alloc (.cells #[.bool d,.slice none 0 0] 128)).alloc o) osl v') :
  Nxt w0 w F G p a cap bs yq ({ dict:=d,l:=[] }::st) at_ F (w2.setCell ⟨p,3,none⟩ v'):=by
 have hs1:((w.alloc (.cells #[.bool d,.slice none 0 0] 128)).alloc o).heap.size=w.heap.size+2:=by rw [zaq,zaq]
 have hs2:=hg.size
 rw [hs1] at hs2
 have hb1:=zaF w (.cells #[.bool d,.slice none 0 0] 128) o
 have hp:=h.lt
 have hol:∀b,osl.ownBlock=some b->b<w.heap.size:=fun b hb=>(h.own.lt b hb).2
 have hkw:∀b,b<w.heap.size->osl.ownBlock≠some b->w2.heap[b]?=w.heap[b]?:=fun b hb hn=>(hg.block b (by rw [hs1];omega) (fun e=>hn e.symm)).trans (hb1.block b hb)
 have hk3:∀b,b≠p->(w2.setCell ⟨p,3,none⟩ v').heap[b]?=w2.heap[b]?:=fun b hb=>heap_setCell_other _ _ _ _ hb
 have hs3:(w2.setCell ⟨p,3,none⟩ v').heap.size=w2.heap.size:=by simp [World.setCell]
 have hpo:osl.ownBlock≠some p:=fun e=>h.ownp e rfl
 have hgb:w2.heap[w.heap.size]?=some (.cells #[.bool d,.slice none 0 0] 128 (0,0)):=by
  rw [hg.block w.heap.size (by rw [hs1];omega) (fun e=>by have:=hol _ e.symm;omega)]
  exact zak o (zab _ rfl)
 have hp2:w2.heap[p]?=_:=(hkw p hp hpo).trans h.blk
 have hv':∀b,v'.ownBlock=some b->b≠p:=fun b hb=>by obtain ⟨cs,hc⟩:=zaC hO hb;exact zaW hc hp2 (by decide)
 have hFs:zaJ F w (w2.setCell ⟨p,3,none⟩ v'):=⟨by omega,fun b hb hf=>by
  rw [hk3 b (h.notF hf),hkw b hb (fun e=>h.ownF e hf)]⟩
 refine ⟨⟨w.heap.size::gs,v',heap_setCell_same w2 p 3 _ _ _ hp2,h.base,h.gp,?_,fun b hb hG=>?_,?_,fun b hb=>?_,fun b hb=>?_,?_,h.row,h.small,by simp;omega⟩,⟨by omega,fun b hb hG=>?_⟩,hFs,fun _ h=>h⟩
 ·rw [ptrs_cons];exact za0 hO fun b hb=>hk3 b (hv' b hb)
 ·rcases hN b hb with e|e
  ·exact h.go b e hG
  ·have:=(h.gb b hG).2;rw [hs1] at e;omega
 ·refine ⟨w.heap.size,gs,.slice none 0 0,[],rfl,h.bel.size,fun hG=>by have:=(h.gb _ hG).2;omega,(hk3 _ (by omega)).trans hgb,World.ownsRow_nil _ _ _ _,rfl,fun b hb=>(by cases hb),?_⟩
  refine h.lvs.keep' hFs (fun _ h=>h) (fun b hb hn hl=>?_) (fun b hb=>.inl hb) (fun b hb=>?_)
  ·rw [hk3 b (isLV_ne hl h.blk (by decide) (by decide)),hkw b hb (fun e=>by obtain ⟨cs,hc⟩:=zaC h.own e;exact isLV_ne hl hc (by decide) (by decide) rfl)]
  ·rcases hb with hb|hb|hb
   ·exact .inl hb
   ·exact .inr (Nat.le_of_eq hb.symm)
   ·cases hb
 ·obtain ⟨h1,h2,cs,h3⟩:=h.fb b hb
  exact ⟨h1,h2,cs,by rw [hFs.2 b (h.Flt hb) hb];exact h3⟩
 ·have:=h.gb b hb;omega
 ·refine h.bel.trans (Below.setCell (w:=w2) (a:=w) (p:=⟨p,3,none⟩) ⟨?_,?_,?_,?_,fun b hb=>?_⟩ h.base _)
  ·exact hg.os.trans hb1.os
  ·exact hg.tape.trans hb1.tape
  ·exact hg.output.trans hb1.output
  ·have:=h.bel.size;omega
  ·exact hkw b (by have:=h.bel.size;omega) (fun e=>by have:=(h.own.lt b e).1;omega)
 ·rw [hk3 b (fun e=>h.gp (e▸hG)),hkw b hb (fun e=>h.go b e hG)]
theorem zap.pop {v:Lv} (h:zap w0 w F G p a cap bs yq (v::st) at_ gs osl) {ao:Option Addr} {oc:Nat} (ho:osl=.slice ao (st.length+1) oc) :
  ∃F' sl,(∀b,F b->F' b)/\(∃g t cs,gs=g::t/\w.heap[g]?=some (.cells #[.bool v.dict,sl] 128 (0,0))/\w.ownsRow w0.heap.size 25 4 sl v.l.length cs/\IsVs w F' v.l cs/\(∀b,sl.ownBlock=some b->F' b)) /\
   Nxt w0 w F G p a cap bs yq st at_ F' (w.setCell ⟨p,3,none⟩ (.slice ao st.length oc)):=by
 obtain ⟨g,t,sl,cs,h1,h2,h3,h4,h5,h6,h7,h8⟩:=h.lvs
 have hk3:∀b,b≠p->(w.setCell ⟨p,3,none⟩ (.slice ao st.length oc)).heap[b]?=w.heap[b]?:=fun b hb=>heap_setCell_other _ _ _ _ hb
 have hs3:(w.setCell ⟨p,3,none⟩ (.slice ao st.length oc)).heap.size=w.heap.size:=by simp [World.setCell]
 have hsp:∀b,sl.ownBlock=some b->b≠p:=fun b hb=>by obtain ⟨cs,hc⟩:=zaC h5 hb;exact zaW hc h.blk (by decide)
 subst ho h1
 have hFs:zaJ F w (w.setCell ⟨p,3,none⟩ (.slice ao st.length oc)):=⟨by omega,fun b hb hf=>hk3 b (h.notF hf)⟩
 refine ⟨fun b=>F b\/sl.ownBlock=some b,sl,fun b hb=>.inl hb,⟨g,t,cs,rfl,h4,h5,h6.weaken (fun b hb=>.inl hb),fun b hb=>.inr hb⟩,⟨t,.slice ao st.length oc,heap_setCell_same w p 3 _ _ _ h.blk,h.base,h.gp,?_,fun b hb=>?_,?_,fun b hb=>?_,fun b hb=>by rw [hs3];exact h.gb b hb,h.bel.trans ((Below.refl _ _).setCell h.base _),h.row,h.small,by have:=h.deep;simp at this;omega⟩,
  ⟨by omega,fun b hb hG=>hk3 b (fun e=>h.gp (e▸hG))⟩,hFs,fun b hb=>.inl hb⟩
 ·have ho:=h.own
  rw [ptrs_cons] at ho
  obtain ⟨hl,ho⟩:=ho
  rcases ho with ⟨hn,-⟩|⟨gg,cc,cur,hv,hb,hh,hc1,hc2,hc3,hc4⟩
  ·simp at hn
  ·simp only [Value.slice.injEq] at hv
   obtain ⟨rfl,-,rfl⟩:=hv
   have hlp:(ptrs t).length=st.length:=by simpa using hl
   refine ⟨by simpa using hlp,.inr ⟨gg,oc,cur,rfl,hb,?_,by simp at hc1;omega,hc2,hc3,?_⟩⟩
   ·rw [hk3 gg (by intro e;subst e;exact h.ownp rfl rfl)];exact hh
   ·have:=congrArg (List.take st.length) hc4
    simpa [List.take_take,hlp] using this
 ·refine h.go b ?_
  cases ao with
  | none=>cases hb
  | some x=>exact hb
 ·refine h8.keep' hFs (fun b hb=>.inl hb) (fun b hb hn hl=>hk3 b (isLV_ne hl h.blk (by decide) (by decide))) (fun b hb=>?_) (fun b hb=>.inl (.inl hb))
  rcases hb with hb|hb
  ·exact .inl hb
  ·exact .inr (.inl (.inr (.inr hb)))
 ·rcases hb with hb|hb
  ·obtain ⟨k1,k2,ds,k3⟩:=h.fb b hb
   exact ⟨k1,k2,ds,by rw [hk3 b (h.notF hb)];exact k3⟩
  ·obtain ⟨ds,k3⟩:=zaC h5 hb
   exact ⟨(h5.lt b hb).1,(h7 b hb).2,ds,by rw [hk3 b (hsp b hb)];exact k3⟩
theorem zap.lastL {v:Lv} (h:zap w0 w F G p a cap bs yq (v::st) at_ gs osl):∃g t sa sc cs,gs=g::t/\v.l.length<=sc/\sc<=maxLen/\w0.heap.size<=g/\¬G g/\w.heap[g]?=some (.cells #[.bool v.dict,.slice sa v.l.length sc] 128 (0,0)) /\
  w.ownsRow w0.heap.size 25 4 (.slice sa v.l.length sc) v.l.length cs/\IsVs w F v.l cs/\∀b,(Value.slice sa v.l.length sc).ownBlock=some b->¬F b/\¬G b:=by
 obtain ⟨g,t,sl,cs,h1,h2,h3,h4,h5,h6,h7,h8⟩:=h.lvs
 obtain ⟨sa,sc,rfl,h9,h10⟩:=zaG h5
 exact ⟨g,t,sa,sc,cs,h1,h9,h10,h2,h3,h4,h5,h6,h7⟩
theorem zap.put {v:Lv} {g:Nat} {t:List Nat} (h:zap w0 w F G p a cap bs yq (v::st) at_ (g::t) osl) {sl:Value} (h4:w.heap[g]?=some (.cells #[.bool v.dict,sl] 128 (0,0))) {cs:List Value}
  (h6:IsVs w F v.l cs) {x:PV} {sx:Value} (hx:IsV w F x sx) {w3:World} {v':Value} (hO:w3.ownsRow w0.heap.size 25 4 v' (v.l.length+1) (cs++pvC x sx)) (hk:zaf (fun b=>sl.ownBlock=some b) w w3)
  (hN:∀b,v'.ownBlock=some b->sl.ownBlock=some b\/w.heap.size<=b) :
  Nxt w0 w F G p a cap bs yq ({ v with l:=v.l++[x] }::st) at_ F (w3.setCell ⟨g,1,none⟩ v'):=by
 obtain ⟨g',t',sl',cs',h1,h2,h3,h4',h5,-,h7,h8⟩:=h.lvs
 simp only [List.cons.injEq] at h1
 obtain ⟨rfl,rfl⟩:=h1
 have hsl:sl'=sl:=by
  rw [h4] at h4'
  simpa using h4'.symm
 subst hsl
 have hgl:=zal h4
 have hsg:∀b,sl'.ownBlock=some b->b≠g:=fun b hb=>by obtain ⟨ds,hc⟩:=zaC h5 hb;exact zaW hc h4 (by decide)
 have hsl:∀b,sl'.ownBlock=some b->b<w.heap.size:=fun b hb=>(h5.lt b hb).2
 have hk4:∀b,b≠g->(w3.setCell ⟨g,1,none⟩ v').heap[b]?=w3.heap[b]?:=fun b hb=>heap_setCell_other _ _ _ _ hb
 have hs4:(w3.setCell ⟨g,1,none⟩ v').heap.size=w3.heap.size:=by simp [World.setCell]
 have hsz:=hk.size
 have hg3:w3.heap[g]?=some (.cells #[.bool v.dict,sl'] 128 (0,0)):=hk.obj h4 (fun e=>hsg g e rfl)
 have hvg:∀b,v'.ownBlock=some b->b≠g:=fun b hb=>by obtain ⟨ds,hc⟩:=zaC hO hb;exact zaW hc hg3 (by decide)
 have hpg:p≠g:=zaW h.blk h4 (by decide)
 have hps:sl'.ownBlock≠some p:=fun e=>by obtain ⟨ds,hc⟩:=zaC h5 e;exact zaW hc h.blk (by decide) rfl
 have hFg:∀b,F b->b≠g:=fun b hb=>by obtain ⟨_,_,ds,hc⟩:=h.fb b hb;exact zaW hc h4 (by decide)
 have hFs:zaJ F w (w3.setCell ⟨g,1,none⟩ v'):=⟨by omega,fun b hb hf=>by rw [hk4 b (hFg b hf),hk.block b hb (fun e=>(h7 b e).1 hf)]⟩
 have hob:∀b,osl.ownBlock=some b->b≠g/\sl'.ownBlock≠some b/\b<w.heap.size:=fun b hb=>by
  obtain ⟨ds,hc⟩:=zaC h.own hb
  exact ⟨zaW hc h4 (by decide),fun e=>by obtain ⟨es,hd⟩:=zaC h5 e;exact zaW hc hd (by decide) rfl,(h.own.lt b hb).2⟩
 refine ⟨⟨g::t,osl,by rw [hk4 p hpg,hk.block p h.lt hps];exact h.blk,h.base,h.gp,za0 h.own fun b hb=>?_,h.go,?_,fun b hb=>?_,fun b hb=>by have:=h.gb b hb;omega,?_,h.row,h.small,h.deep⟩,⟨by omega,fun b hb hG=>?_⟩,hFs,fun _ h=>h⟩
 ·rw [hk4 b (hob b hb).1,hk.block b (hob b hb).2.2 (hob b hb).2.1]
 ·refine ⟨g,t,v',cs++pvC x sx,rfl,h2,h3,heap_setCell_same w3 g 1 _ _ _ hg3,?_,?_,fun b hb=>?_,?_⟩
  ·show World.ownsRow _ _ _ _ _ (v.l++[x]).length _
   rw [List.length_append]
   exact za0 hO fun b hb=>hk4 b (hvg b hb)
  ·exact (IsVs.keep hFs (fun _ h=>h) _ h6).snoc (IsV.keep hFs (fun _ h=>h) _ hx)
  ·rcases hN b hb with e|e
   ·exact h7 b e
   ·exact ⟨fun hf=>by have:=h.Flt hf;omega,fun hG=>by have:=(h.gb b hG).2;omega⟩
  ·refine h8.keep' hFs (fun _ h=>h) (fun b hb hn hl=>?_) (fun b hb=>.inl hb) (fun b hb=>?_)
   ·rw [hk4 b (fun e=>hn (.inr (.inl e))),hk.block b hb (fun e=>hn (.inr (.inr e)))]
   ·rcases hb with hb|hb|hb
    ·exact .inl (.inl hb)
    ·exact .inl (.inr (.inl hb))
    ·rcases hN b hb with e|e
     ·exact .inl (.inr (.inr e))
     ·exact .inr e
 ·obtain ⟨k1,k2,ds,k3⟩:=h.fb b hb
  exact ⟨k1,k2,ds,by rw [hFs.2 b (h.Flt hb) hb];exact k3⟩
 ·have h9:=h.bel.size
  refine h.bel.trans (Below.setCell (w:=w3) (a:=w) (p:=⟨g,1,none⟩) ⟨hk.os,hk.tape,hk.output,hsz,fun b hb=>hk.block b (by omega) (fun e=>by have:=(h5.lt b e).1;omega)⟩ h2 _)
 ·rw [hk4 b (fun e=>h3 (e▸hG)),hk.block b hb (fun e=>(h7 b e).2 hG)]
end
theorem ELvp:zeX Tryz.prog 120 125 (.pointer none) 1 8:=⟨Tryz.underlying120,by kernel_rfl,rfl,by omega⟩
section
variable {w0 w w' : World} {F F' G : Nat -> Prop} {p : Nat} {a : Option Addr} {cap : Nat} {bs : List UInt8} {yq : Bool} {st : List Lv} {at_ : Int} {gs : List Nat} {osl : Value}
theorem Nxt.refl (h:zap w0 w F G p a cap bs yq st at_ gs osl) (hb:Below w.heap.size w w'):Nxt w0 w F G p a cap bs yq st at_ F w' :=
 ⟨⟨_,_,h.mono hb⟩,zaJ.of_below hb,zaJ.of_below hb,fun _ h=>h⟩
theorem row_newP (w:World) (x:Value) (e:TypeId) {b:Nat} (h:b=w.heap.size):Row (w.alloc (.cells #[x] e)) 1 (some ⟨b,0,none⟩) 1 1 [x]:=by subst h;exact zdh w x e
theorem owns_some {w:World} {base e sz:Nat} {v:Value} {n:Nat} {xs:List Value} (h:w.ownsRow base e sz v (n+1) xs) (_:0<sz):∃g cap,v=.slice (some ⟨g,0,none⟩) (n+1) cap:=by
 rcases h.2 with ⟨-,h0⟩|⟨g,cap,cur,rfl,-⟩
 ·cases h0
 ·exact ⟨g,cap,rfl⟩
theorem zap.keepP (h:zap w0 w F G p a cap bs yq st at_ gs osl) {W1 w2:World} (hb:Below w.heap.size w W1) (hg:W1.grownBy w2 osl.ownBlock) :
  w2.heap[p]?=some (.cells #[.slice a bs.length cap,.int .i64 at_,.bool yq,osl] 122 (0,0)) :=
 (hg.block p (Nat.lt_of_lt_of_le h.lt hb.size) (fun e=>h.ownp e.symm rfl)).trans (zaa hb h.blk)
theorem begin_any (h:zap w0 w F G p a cap bs yq st at_ gs osl) (d:Bool):Calls Tryz.prog 102 #[.pointer (some ⟨p,0,none⟩),.bool d] w fun e w' =>
  e=.returned (.int .i64 (zbR st d).2)/\Nxt w0 w F G p a cap bs yq (zbR st d).1 at_ F w':=by
 obtain ⟨R,hR⟩:∃R,R=zbR st d:=⟨_,rfl⟩
 rw [<-hR]
 unfold zbR at hR
 have HR:=yb hR
 have HTOP:=yb (zfM h)
 have HTP:=yb (fun q=>(h.drewN q).top)
 have HS:=yb h
 have hdp:=h.deep
 clear h hR
 go_enter Tryz.func102,Tryz.ntmps102
 go_wp2_with fail
 refine HTOP.out.mono ?_
 rintro e w1 ⟨rfl,q,rfl⟩
 have HS1:=yb (HS.out.drewN q)
 go_upto_region 2 with fail
 go_cut [13] from 6 (fun v13 wx=>v13=.bool (topW st)/\w.drewN q=wx)
 case first =>
  rcases HTP.out q with ⟨rfl,rfl⟩|⟨v,st',g,t',sa,sc,rfl,rfl,h1,h2,h3⟩
  ·unfold topP
   go_wp2
   go_meet
   exact ⟨rfl,rfl⟩
  ·have HWT:=yb (zeP h3 (by omega))
   have HTW:=yb (show topW (v::st')=(v.dict&&v.l.length % 2==0) from rfl)
   unfold topP
   generalize (v.dict&&v.l.length % 2==0)=tw at *
   clear h1 h2 h3
   go_wp2_with (go_at_call 139;refine HWT.out.mono ?_;rintro e w' ⟨rfl,rfl⟩)
   go_meet
   exact ⟨by rw [HTW.out],rfl⟩
 case rest =>
  obtain ⟨rfl,rfl⟩:=hcut
  obtain ⟨tw,htw⟩:∃tw,tw=topW st:=⟨_,rfl⟩
  rw [<-htw]
  have HTW:=yb htw
  clear htw
  cases tw with
  | true =>
   have hr2:=HR.out
   rw [yg HTW.out.symm] at hr2
   have HR2:=yb hr2
   clear hr2 HR
   go_wp2
   go_ret
   rw [HR2.out]
   exact ⟨rfl,Nxt.refl HS.out (zad (Below.refl _ _) q)⟩
  | false =>
   have hr2:=HR.out
   rw [yh (by rw [<-HTW.out];decide)] at hr2
   have HRX:=yb hr2
   obtain ⟨ao,oc,rfl,hro1,hro2⟩:=zaG HS1.out.own
   obtain ⟨⟨c0,c1,c2,c3⟩,f0,f1,f2,f3⟩:=HS1.out.cells
   clear hr2 HR
   by_cases h64:64<=st.length
   ·have hd:decide (64<=st.length)=true:=yd h64
    have hd2:decide ((64:Int)<=(st.length:Int))=true:=yd (by omega)
    have hr2:=HRX.out
    rw [yg h64] at hr2
    have HR2:=yb hr2
    clear hr2 h64
    go_wp2
    go_ret
    rw [HR2.out]
    exact ⟨rfl,Nxt.refl HS.out (zad (Below.refl _ _) q)⟩
   ·have hd:decide (64<=st.length)=false:=ye h64
    have hd2:decide ((64:Int)<=(st.length:Int))=false:=ye (by omega)
    have hr2:=HRX.out
    rw [yh h64] at hr2
    have HR2:=yb hr2
    have hsl:st.length<64:=by omega
    clear hr2 h64
    go_wp2_with (at_builtin;refine zeO ELvp rfl _ _ rfl w0.heap.size _ st.length (ptrs gs) rfl (zaS HS1.out.own (zaF _ _ _)) _ 1 1 [.pointer (some ⟨w.heap.size,0,none⟩)] rfl (row_newP _ _ _ (by rw [zaq];rfl)) (zeZ rfl) (by unfold maxLen;omega) (by omega) (by rw [zaq,zaq];have:=HS1.out.bel.size;omega) ?_;intro v2 w2 hO hg hN;obtain ⟨g2,oc2,rfl⟩:=owns_some hO (by omega);obtain ⟨⟨k0,k1,k2,k3⟩,l0,l1,l2,l3⟩:=zah (HS1.out.keepP (zaF _ _ _) hg))
    go_ret
    rw [HR2.out]
    have hN:=HS1.out.push d hsl _ hO hg hN
    exact ⟨rfl,hN.stk,hN.sg,hN.sf,hN.ff⟩
end
def cmpS (a b:List UInt8):Int:=if sLt a b=true then -1 else if sLt b a=true then 1 else 0
theorem isNaNS_any (a:ByteArray) (w:World):Calls Tryz.prog 192 #[.string a] w fun e w'=>e=.returned (.bool false)/\w=w':=by
 go_enter Tryz.func192,Tryz.ntmps192
 go_wp2
 go_ret
 exact ⟨zbp (by simp),rfl⟩
theorem cmpS_any (a b:List UInt8) (w:World):Calls Tryz.prog 172 #[.string (mkB a),.string (mkB b)] w fun e w'=>e=.returned (.int .i64 (cmpS a b))/\w=w':=by
 have hl:Op.bytesLess (mkB a).toList (mkB b).toList=sLt a b:=by rw [zag,zag,zbX]
 have hg:¬sLt a b=true->(Op.bytesLess (mkB a).toList (mkB b).toList||(mkB a).toList==(mkB b).toList)=!sLt b a:=fun h=>by
  rw [zag,zag,zbX]
  have h':sLt a b=false:=by simpa using h
  rw [h',Bool.false_or]
  by_cases e:a=b
  ·subst e;simp [zcO]
  ·rw [zcn a b h' e];simp [e]
 have HN:=yb (fun (a:ByteArray) (w:World)=>isNaNS_any a w)
 unfold cmpS
 by_cases h1:sLt a b=true
 ·rw [yg h1]
  rw [h1] at hl
  clear hg h1
  generalize mkB a=x at *
  generalize mkB b=y at *
  go_enter Tryz.func172,Tryz.ntmps172
  go_wp2_with (go_at_call 192;refine (HN.out _ _).mono ?_;rintro e w' ⟨rfl,rfl⟩)
  go_ret
  exact ⟨rfl,rfl⟩
 ·rw [yh h1]
  have hg:=hg h1
  rw [show sLt a b=false by simpa using h1] at hl
  by_cases h2:sLt b a=true
  ·rw [yg h2]
   rw [h2,hl,Bool.false_or] at hg
   clear h1 h2
   generalize mkB a=x at *
   generalize mkB b=y at *
   simp only [Bool.not_true] at hg
   go_enter Tryz.func172,Tryz.ntmps172
   go_wp2_with (go_at_call 192;refine (HN.out _ _).mono ?_;rintro e w' ⟨rfl,rfl⟩)
   go_ret
   exact ⟨rfl,rfl⟩
  ·rw [yh h2]
   rw [show sLt b a=false by simpa using h2,hl,Bool.false_or] at hg
   clear h1 h2
   generalize mkB a=x at *
   generalize mkB b=y at *
   simp only [yj] at hg
   go_enter Tryz.func172,Tryz.ntmps172
   go_wp2_with (go_at_call 192;refine (HN.out _ _).mono ?_;rintro e w' ⟨rfl,rfl⟩)
   go_ret
   exact ⟨rfl,rfl⟩
theorem cmpPair_any {w:World} {b o1 o2 n1 n2 c1 c2:Nat} {x y:List UInt8} (h1:w.cell? ⟨b,o1+2,none⟩=some (.string (mkB x))) (h2:w.cell? ⟨b,o2+2,none⟩=some (.string (mkB y))) (g1:0<n1) (g2:0<n2) :
  Calls Tryz.prog 171 #[.slice (some ⟨b,o1,none⟩) n1 c1,.slice (some ⟨b,o2,none⟩) n2 c2] w fun e w'=>e=.returned (.int .i64 (cmpS x y))/\∃q,w'=w.drewN q:=by
 have HC:=yb (fun W=>cmpS_any x y W)
 generalize cmpS x y=c at *
 generalize mkB x=x' at *
 generalize mkB y=y' at *
 have i1:(0:Int)<(n1:Int):=by omega
 have i2:(0:Int)<(n2:Int):=by omega
 go_enter Tryz.func171,Tryz.ntmps171
 go_wp2
 go_quiet ((go_at_call 172;exact Calls.quiet_of ((HC.out _).mono fun _ _ h=>⟨h.1,0,h.2.symm⟩)))
 go_wp2
 go_ret
 exact ⟨rfl,_,rfl⟩
end Go.Proofs.YtcmoehknppjkiaaGreatDoor
namespace Go.Proofs.YtcmoehknppjkiaaGreatDoor
open Go.RowKit Go.Sort
structure SB {α:Type} (enc:α->Value) (w0:World) (g:Nat) (t:TypeId) (rest:List Value) (d:Array α) (w:World):Prop where
 grown:w0.grownBy w (some g)
 blk:w.heap[g]?=some (.cells (d.toList.map enc++rest).toArray t (0,0))
section
variable {α : Type} {enc : α -> Value} {w0 w : World} {g : Nat} {t : TypeId} {rest : List Value} {d : Array α}
theorem SB.cell [Inhabited α] (h:SB enc w0 g t rest d w) (i:Nat) (hi:i<d.size):w.cell? ⟨g,i,none⟩=some (enc d[i]!):=by
 rw [cell_of_row w g i _ t (0,0) h.blk]
 simp [List.getElem?_append,hi]
theorem SB.free (h:SB enc w0 g t rest d w) (i:Nat):w.frozen? ⟨g,i,none⟩=false:=frozen_of_row w g i _ t h.blk
theorem SB.drewN (h:SB enc w0 g t rest d w) (n:Nat):SB enc w0 g t rest d (w.drewN n):=⟨⟨h.grown.os,h.grown.tape,h.grown.output,h.grown.size,h.grown.block⟩,h.blk⟩
theorem zeS {w0 w:World} {g i:Nat} (h:w0.grownBy w (some g)) (v:Value):w0.grownBy (w.setCell ⟨g,i,none⟩ v) (some g) :=
 ⟨h.os,h.tape,h.output,by simp [World.setCell];exact h.size,fun k hk hne=>by rw [heap_setCell_other w ⟨g,i,none⟩ k v (fun e=>hne (by simp [e]))];exact h.block k hk hne⟩
theorem zd5 (w:World) (row:Option Nat):w.grownBy w row:=⟨rfl,rfl,rfl,yp _,fun _ _ _=>rfl⟩
theorem zfN {w0 w:World} {row:Option Nat} (h:w0.grownBy w row) (n:Nat):w0.grownBy (w.drewN n) row:=⟨h.os,h.tape,h.output,h.size,h.block⟩
theorem SB.set (h:SB enc w0 g t rest d w) (i:Nat) (hi:i<d.size) (x:α):SB enc w0 g t rest (d.setIfInBounds i x) (w.setCell ⟨g,i,none⟩ (enc x)):=by
 refine ⟨zeS h.grown _,?_⟩
 rw [heap_setCell_same w g i _ t _ h.blk,List.setIfInBounds_toArray,List.set_append]
 simp [hi,List.map_set]
theorem SB.swp [Inhabited α] (h:SB enc w0 g t rest d w) (i j:Nat) (hi:i<d.size) (hj:j<d.size) (q:Nat) :
  SB enc w0 g t rest (swp d i j) (((w.drewN q).setCell ⟨g,i,none⟩ (enc d[j]!)).setCell ⟨g,j,none⟩ (enc d[i]!)) :=
 ((h.drewN q).set i hi _).set j (by simpa using hj) _
theorem SB.row (h:SB enc w0 g t rest d w) {cap:Nat} (h1:d.size<=cap) (h2:cap<=maxLen):Row w 1 (some ⟨g,0,none⟩) d.size cap (d.toList.map enc):=by
 refine ⟨by simp,h1,h2,fun e=>(by cases e),fun _=>⟨g,0,rfl,(Array.getElem?_eq_some_iff.1 h.blk).1,fun j u hj=>?_⟩⟩
 rw [Nat.zero_add,cell_of_row w g j _ t (0,0) h.blk]
 have hjl:=(List.getElem?_eq_some_iff.1 hj).1
 rw [List.getElem?_toArray,List.getElem?_append_left hjl];exact hj
theorem SB.start {cs:Array Value} {n:Nat} (hb:w.heap[g]?=some (.cells cs t (0,0))) (hx:cs.toList.take n=d.toList.map enc):SB enc w g t (cs.toList.drop n) d w :=
 ⟨⟨rfl,rfl,rfl,yp _,fun _ _ _=>rfl⟩,by rw [<-hx,List.take_append_drop];exact hb⟩
end
structure CmpQ {α:Type} (P:Program) (f:FuncId) (cb:Array Value) (enc:α->Value) (cf:α->α->Int) (D:α->Prop) (w0:World) (g:Nat):Prop where
 enters:∀args w,(callFunc f args).run P w=.ok (.enter f args) w
 calls:∀W,w0.grownBy W (some g)->∀x y,D x->D y->Calls P f (#[enc x,enc y]++cb) W fun e w'=>e=.returned (.int .i64 (cf x y))/\∃q,w'=W.drewN q
def ltOf {α:Type} (cf:α->α->Int) (x y:α):Bool:=decide (cf x y<0)
section
variable {α : Type} [Inhabited α] (lt : α -> α -> Bool)
theorem inner_go (a j:Nat) (d:Array α) (hj:a<j) (hl:lt d[j]! d[j-1]! = true):insInner lt a j d=insInner lt a (j-1) (swp d j (j-1)):=by
 rcases j with _|k
 ·omega
 ·have h1:(decide (k+1 > a)&&lt d[k+1]! d[k]!)=true:=by simp only [Nat.add_sub_cancel] at hl;simp [hl,hj]
  rw [insInner,yg h1];rfl
theorem ze9 (a j:Nat) (d:Array α) (h:j<=a\/lt d[j]! d[j-1]! = false):insInner lt a j d=d:=by
 rcases j with _|k
 ·rfl
 ·rw [insInner,yh]
  simp only [Nat.add_sub_cancel] at h
  rcases h with h|h
  ·simp;omega
  ·simp [h]
theorem zel (a b i:Nat) (d:Array α) (h:i<b):insOuter lt a b i d=insOuter lt a b (i+1) (insInner lt a i d):=by rw [insOuter,yg h]
theorem zb8 (a b i:Nat) (d:Array α) (h:¬i<b):insOuter lt a b i d=d:=by rw [insOuter,yh h]
end
end Go.Proofs.YtcmoehknppjkiaaGreatDoor
namespace Go.Proofs.YtcmoehknppjkiaaGreatDoor
open Go.RowKit Go.Shelf
attribute [local go_sem] Oper.semAt_some
def zbQ (b off:Nat) (k:Nat):Value:=.slice (some ⟨b,off+2*k*4,none⟩) 2 2
theorem staysK_t {S:Nat->Prop} {A B C:World} (h:zaJ S A B) (k:zaJ S B C):zaJ S A C:=h.trans k
theorem staysK_b {S:Nat->Prop} {w:World} (hS:∀b,S b->b<w.heap.size) (W:World) (l:Nat) (o o':Obj) (hl:w.heap.size<=l) (_:W.heap[l]?=some o) (_:o.isCells=false) (_:o.isWalk=false):zaJ S W (W.putObj l o') :=
 ⟨by simp,fun b _ hb=>World.putObj_heap_other (fun e=>by have:=hS b hb;omega)⟩
theorem chunk_in (_:Fence.wide.fn 169) (n:Nat) (a:Option Addr) (len cap:Nat) (w:World) :
  CallsIn Fence.wide n Tryz.prog 169 #[.slice a len cap,.int .i64 2] w fun e w'=>e=.returned (.func (.func 190) #[] #[.pointer (some ⟨w.heap.size,0,none⟩),.pointer (some ⟨w.heap.size+1,0,none⟩)]) /\
   w'=(w.alloc (.cells #[.slice a len cap] 23)).alloc (.cells #[.int .i64 2] 3):=by
 refine callsIn_wide.2 ?_
 go_enter Tryz.func169,Tryz.ntmps169
 go_wp2
 go_ret
 exact ⟨rfl,rfl⟩
set_option maxRecDepth 100000 in
theorem chunk1_in (n:Nat) (hro:Fence.wide.round=none) (hn:1<=n) (l Bs Bn b off m cap:Nat) (hcap:2*m<=cap) (hcm:cap<=maxLen) (J Jx:List Nat->World->Prop) (hJd:∀s W q,J s W->J s (W.drewN q))
  (hY:∀pre x W,J pre W->pre.length<m->YieldAt Fence.wide (n-1) Tryz.prog l #[zbQ b off x] W fun e W' =>
   (e=.returned (.bool true)/\J (pre++[x]) W'/\zaJ (fun c=>c=Bs\/c=Bn) W W')\/(e=.returned (.bool false)/\Jx (pre++[x]) W'))
  (W:World) (hBs:W.cell? ⟨Bs,0,none⟩=some (.slice (some ⟨b,off,none⟩) (2*m) cap)) (hBn:W.cell? ⟨Bn,0,none⟩=some (.int .i64 2)) (h0:J [] W) :
  CallsIn Fence.wide n Tryz.prog 190 #[.func (.yield l) #[] #[],.pointer (some ⟨Bs,0,none⟩),.pointer (some ⟨Bn,0,none⟩)] W fun e W'=>(∃v,e=.returned v) /\
   ((∃ys,ys=List.range m/\J ys W')\/(∃pre,(∃k,k<=m/\pre=List.range k)/\Jx pre W')):=by
 unfold maxLen at hcm
 refine callsIn_of_wp Tryz.func190 rfl trivial ?_ hro
 simp only [Tryz.ntmps190,List.size_toArray,List.length_cons,List.length_nil,Nat.reduceAdd,Nat.reduceSub,Array.replicate_succ,Array.replicate_zero,List.push_toArray,List.append_toArray,List.nil_append,List.cons_append]
 gi_wp2
 gi_loopw [4] (fun i wr=>∃k:Nat,k<=m/\i=.int .i64 (2*(k:Int))/\J (List.range k) wr/\zaJ (fun c=>c=Bs\/c=Bn) W wr)
  (fun i _=>2*m-(intOf i).toNat)
 case atStart=>exact ⟨0,Nat.zero_le _,rfl,h0,zaJ.refl _ _⟩
 case round =>
  obtain ⟨k,hk,rfl,hJs,hnx⟩:=hrel
  have e1:wr.cell? ⟨Bs,0,none⟩=some (.slice (some ⟨b,off,none⟩) (2*m) cap):=(World.cell?_of_block (hnx.2 Bs (World.block_lt_of_cell? W _ hBs) (.inl rfl))).trans hBs
  have e2:wr.cell? ⟨Bn,0,none⟩=some (.int .i64 2):=(World.cell?_of_block (hnx.2 Bn (World.block_lt_of_cell? W _ hBn) (.inr rfl))).trans hBn
  by_cases hlt:k<m
  ·have d1:decide (2*(k:Int)<((2*m:Nat):Int))=true:=yd (by omega)
   have HJ:=yb hJs
   have HY:=yb hY
   have HJD:=yb hJd
   clear hJs hY hJd
   gi_wp2
   refine wpIn_wide.2 ?_
   have i1:(0:Int)<=2*(k:Int):=by omega
   have i2:(2*(k:Int)).toNat=2*k:=by omega
   have i3:(2*(k:Int))<=(cap:Int):=by omega
   have i4:2*k<=2*m:=by omega
   go_quiet (fail)
   obtain ⟨fn,tmps,assign,body,hy,hR⟩:=HY.out _ k (wr.drewN nq) (HJD.out _ _ nq HJ.out) (by simpa using hlt)
   unfold zbQ at hy
   have i5:2*(k:Int)+2<=(cap:Int):=by omega
   have i6:(2*(k:Int)+2).toNat=2*k+2:=by omega
   have i7:(0:Int)<=2*(k:Int)+2:=by omega
   have i8:2*(k:Int)<=2*(k:Int)+2:=by omega
   gi_wp2
   refine hR.mono ?_
   rintro e W3 (⟨rfl,hJ3,hk3⟩|⟨rfl,hJx3⟩)
   ·have g1:W3.cell? ⟨Bs,0,none⟩=some (.slice (some ⟨b,off,none⟩) (2*m) cap):=(World.cell?_of_block (hk3.2 Bs (World.block_lt_of_cell? (wr.drewN nq) _ e1) (.inl rfl))).trans e1
    have g2:W3.cell? ⟨Bn,0,none⟩=some (.int .i64 2):=(World.cell?_of_block (hk3.2 Bn (World.block_lt_of_cell? (wr.drewN nq) _ e2) (.inr rfl))).trans e2
    have HJ3:=yb hJ3
    have HK3:=yb (hnx.trans (show zaJ (fun c=>c=Bs\/c=Bn) wr W3 from hk3))
    clear hJ3 hk3
    gi_wp2
    go_roundw
    case rel=>exact ⟨k+1,by omega,by congr 1,by rw [List.range_succ];exact HJ3.out,HK3.out⟩
    case measure=>simp [intOf];omega
   ·gi_wp2
    refine yi (results_none rfl _ _ _) rfl ?_
    exact ⟨⟨_,rfl⟩,.inr ⟨_,⟨k+1,by omega,by rw [List.range_succ]⟩,hJx3⟩⟩
  ·obtain rfl:k=m:=by omega
   have d1:decide (2*(k:Int)<((2*k:Nat):Int))=false:=ye (by omega)
   gi_wp2
   go_end0
   exact ⟨⟨_,rfl⟩,.inl ⟨_,rfl,hJs⟩⟩
theorem chunk0_in (n:Nat) (hro:Fence.wide.round=none) (l Bs Bn:Nat) (a:Option Addr) (cap:Nat) (J:List Nat->World->Prop) (W:World) (hBs:W.cell? ⟨Bs,0,none⟩=some (.slice a 0 cap)) (h0:J [] W) :
  CallsIn Fence.wide n Tryz.prog 190 #[.func (.yield l) #[] #[],.pointer (some ⟨Bs,0,none⟩),.pointer (some ⟨Bn,0,none⟩)] W fun e W'=>(∃v,e=.returned v)/\J [] W':=by
 refine callsIn_of_wp Tryz.func190 rfl trivial ?_ hro
 simp only [Tryz.ntmps190,List.size_toArray,List.length_cons,List.length_nil,Nat.reduceAdd,Nat.reduceSub,Array.replicate_succ,Array.replicate_zero,List.push_toArray,List.append_toArray,List.nil_append,List.cons_append]
 gi_wp2
 gi_loopw [4] (fun i wr=>i=.int .i64 0/\wr.cell? ⟨Bs,0,none⟩=some (.slice a 0 cap)/\J [] wr) (fun _ _=>0)
 case atStart=>exact ⟨rfl,hBs,h0⟩
 case round =>
  obtain ⟨rfl,hb,hJs⟩:=hrel
  gi_wp2
  go_end0
  exact ⟨⟨_,rfl⟩,hJs⟩
theorem chunk_stops (n:Nat) (hro:Fence.wide.round=none) (hn:1<=n) (Bs Bn b off m cap:Nat) (a:Option Addr) (ha:0<m->a=some ⟨b,off,none⟩) (hcap:2*m<=cap) (hcm:cap<=maxLen) (w:World) (hBs:Bs<w.heap.size) (hBn:Bn<w.heap.size)
  (h1:w.cell? ⟨Bs,0,none⟩=some (.slice a (2*m) cap)) (h2:w.cell? ⟨Bn,0,none⟩=some (.int .i64 2)) :
  SeqStopsK Fence.wide n Tryz.prog 190 #[.pointer (some ⟨Bs,0,none⟩),.pointer (some ⟨Bn,0,none⟩)] (fun x:Nat=>#[zbQ b off x]) (zaJ (fun c=>c=Bs\/c=Bn)) (fun ys=>ys=List.range m) (fun pre=>∃k,k<=m/\pre=List.range k) m w:=by
 intro l J Jx W hW hJ _ hY h0
 have e1:=(hW.cell (p:=⟨Bs,0,none⟩) hBs).trans h1
 have e2:=(hW.cell (p:=⟨Bn,0,none⟩) hBn).trans h2
 rcases Nat.eq_zero_or_pos m with rfl|hm
 ·exact (chunk0_in n hro l Bs Bn a cap J W e1 h0).mono fun e W' ⟨he,hj⟩=>⟨he,.inl ⟨_,rfl,hj⟩⟩
 ·rw [ha hm] at e1
  exact chunk1_in n hro hn l Bs Bn b off m cap hcap hcm J Jx (fun s W1 q hs=>hJ s W1 (W1.drewN q) none hs (zfN (zd5 W1 none) q) (fun r e=>by cases e)) hY W e1 e2 h0
end Go.Proofs.YtcmoehknppjkiaaGreatDoor
namespace Go.Proofs.YtcmoehknppjkiaaGreatDoor
open Go.Sort
def ltI (p:List (PV×PV)) (i j:Nat):Bool:=sLt p[i]!.1.s p[j]!.1.s||(p[i]!.1.s==p[j]!.1.s&&decide (i<j))
def insI (p:List (PV×PV)) (k:Nat):List Nat->List Nat
 | []=>[k]
 | j::l=>if sLt p[j]!.1.s p[k]!.1.s then j::insI p k l else k::j::l
def zfG (p:List (PV×PV)):List Nat->List Nat
 | []=>[]
 | k::l=>insI p k (zfG p l)
theorem sLt_nt {a b c:List UInt8} (h1:sLt a b=false) (h2:sLt b c=false):sLt a c=false:=by
 cases h:sLt a c with
 | false=>rfl
 | true =>
  by_cases hab:a=b
  ·subst hab;rw [h] at h2;cases h2
  ·have:=sLt_tr b a c (zcn a b h1 hab) h
   rw [this] at h2;cases h2
theorem zfR (p:List (PV×PV)):SWO (ltI p) where
 irrefl x:=by simp [ltI,zcO]
 trans x y z h1 h2:=by
  unfold ltI at *
  simp only [Bool.or_eq_true,Bool.and_eq_true,beq_iff_eq,decide_eq_true_eq] at *
  generalize p[x]!.1.s=a at *
  generalize p[y]!.1.s=b at *
  generalize p[z]!.1.s=c at *
  rcases h1 with h1|⟨h1,h3⟩
  ·rcases h2 with h2|⟨h2,h4⟩
   ·exact .inl (sLt_tr _ _ _ h1 h2)
   ·subst h2;exact .inl h1
  ·subst h1
   rcases h2 with h2|⟨h2,h4⟩
   ·exact .inl h2
   ·exact .inr ⟨h2,by omega⟩
 ntrans x y z h1 h2:=by
  unfold ltI at *
  simp only [Bool.or_eq_false_iff,Bool.and_eq_false_iff,yf,decide_eq_false_iff_not] at *
  generalize p[x]!.1.s=a at *
  generalize p[y]!.1.s=b at *
  generalize p[z]!.1.s=c at *
  refine ⟨sLt_nt h1.1 h2.1,?_⟩
  by_cases hac:a=c
  ·subst hac
   right
   by_cases hab:a=b
   ·subst hab
    have h3:=h1.2.resolve_left (fun h=>h rfl)
    have h4:=h2.2.resolve_left (fun h=>h rfl)
    omega
   ·exact absurd (zcn a b h1.1 hab) (by rw [h2.1];simp)
  ·exact .inl hac
theorem ltI_anti (p:List (PV×PV)) (x y:Nat) (h1:ltI p x y=false) (h2:ltI p y x=false):x=y:=by
 unfold ltI at *
 simp only [Bool.or_eq_false_iff,Bool.and_eq_false_iff,yf,decide_eq_false_iff_not] at *
 generalize p[x]!.1.s=a at *
 generalize p[y]!.1.s=b at *
 by_cases hab:a=b
 ·subst hab
  have h3:=h1.2.resolve_left (fun h=>h rfl)
  have h4:=h2.2.resolve_left (fun h=>h rfl)
  omega
 ·exact absurd (zcn a b h1.1 hab) (by rw [h2.1];simp)
theorem zeG (p:List (PV×PV)) (k:Nat):∀l,(insI p k l).Perm (k::l)
 | []=>List.Perm.refl _
 | j::l=>by
  unfold insI
  split
  ·exact ((zeG p k l).cons j).trans (List.Perm.swap k j l)
  ·exact List.Perm.refl _
theorem zdK (p:List (PV×PV)):∀l,(zfG p l).Perm l
 | []=>List.Perm.refl _
 | k::l=>(zeG p k (zfG p l)).trans ((zdK p l).cons k)
theorem zeY (p:List (PV×PV)) (k:Nat):∀l:List Nat,(∀j∈l,k<j)->l.Pairwise (fun a b=>ltI p b a=false)->(insI p k l).Pairwise (fun a b=>ltI p b a=false)
 | [],_,_=>by simp [insI]
 | j::l,hk,h=>by
  have hs:=zfR p
  rw [List.pairwise_cons] at h
  unfold insI
  split
  ·rename_i hj
   rw [List.pairwise_cons]
   refine ⟨fun x hx=>?_,zeY p k l (fun x hx=>hk x (List.mem_cons_of_mem _ hx)) h.2⟩
   rcases List.mem_cons.1 ((zeG p k l).mem_iff.1 hx) with rfl|hx
   ·unfold ltI
    simp only [Bool.or_eq_false_iff,Bool.and_eq_false_iff,yf]
    refine ⟨zfs _ _ hj,.inl fun e=>?_⟩
    rw [e,zcO] at hj;cases hj
   ·exact h.1 x hx
  ·rename_i hj
   have hkj:ltI p j k=false:=by
    unfold ltI
    simp only [Bool.or_eq_false_iff,Bool.and_eq_false_iff,decide_eq_false_iff_not]
    have:=hk j List.mem_cons_self
    exact ⟨by simpa using hj,.inr (by omega)⟩
   rw [List.pairwise_cons,List.pairwise_cons]
   refine ⟨fun x hx=>?_,h⟩
   rcases List.mem_cons.1 hx with rfl|hx
   ·exact hkj
   ·exact hs.ntrans x j k (h.1 x hx) hkj
theorem zdW (p:List (PV×PV)):∀l:List Nat,l.Pairwise (· < ·)->(zfG p l).Pairwise (fun a b=>ltI p b a=false)
 | [],_=>List.Pairwise.nil
 | k::l,h=>by
  rw [List.pairwise_cons] at h
  exact zeY p k _ (fun j hj=>h.1 j ((zdK p l).mem_iff.1 hj)) (zdW p l h.2)
theorem insI_map (p:List (PV×PV)) (k:Nat):∀l:List Nat,(insI p k l).map (fun i=>p[i]!)=insV p[k]! (l.map fun i=>p[i]!)
 | []=>rfl
 | j::l=>by
  simp only [insI,List.map_cons,insV]
  split
  ·rw [List.map_cons,insI_map p k l]
  ·rfl
theorem sortI_map (p:List (PV×PV)):∀l:List Nat,(zfG p l).map (fun i=>p[i]!)=zc8 (l.map fun i=>p[i]!)
 | []=>rfl
 | k::l=>by
  simp only [zfG,List.map_cons,zc8]
  rw [insI_map,sortI_map p l]
theorem range_map (p:List (PV×PV)):(List.range p.length).map (fun i=>p[i]!)=p:=by
 apply List.ext_getElem
 ·simp
 ·intro i h1 h2
  simp [h2]
theorem zcq {A:Array Nat} {n:Nat} (h:A.size=n):A.extract 0 n=A:=by subst h;simp
theorem sorted_is (p:List (PV×PV)) (R:Array Nat) (hP:PermIn 0 p.length (Array.range p.length) R) (hS:SortedIn (ltI p) 0 p.length R):R.toList.map (fun i=>p[i]!)=zc8 p:=by
 have hz:(Array.range p.length).size=p.length:=by simp
 have h1:=sorted_unique_holds (zfR p) (ltI_anti p) (Array.range p.length) R (by rw [hz];exact hP) (by rw [hz];exact hS)
 have hJp:=zdK p (List.range p.length)
 have hJs:=zdW p (List.range p.length) List.pairwise_lt_range
 have hJl:(zfG p (List.range p.length)).length=p.length:=by rw [hJp.length_eq];simp
 have h2:=sorted_unique_holds (zfR p) (ltI_anti p) (Array.range p.length) (zfG p (List.range p.length)).toArray
  (by
   rw [hz]
   refine ⟨by simp [hJl],fun i hi=>?_,?_⟩
   ·rw [getElem!_neg _ _ (by simp [hJl];omega),getElem!_neg _ _ (by simp;omega)]
   ·rw [zcq (by simpa using hJl),zcq hz]
    simpa using hJp)
  (by
   rw [hz]
   intro i j _ hij hj
   have:=List.pairwise_iff_getElem.1 hJs i j (by omega) (by omega) hij
   rw [getElem!_pos _ j (by simp [hJl];omega),getElem!_pos _ i (by simp [hJl];omega)]
   simpa using this)
 rw [h1,<-h2]
 show ((zfG p (List.range p.length)).toArray.toList).map _=_
 rw [List.toList_toArray,sortI_map,range_map]
theorem zcU {n:Nat} {R:Array Nat} (hP:PermIn 0 n (Array.range n) R):R.size=n/\∀i,i<n->R[i]!<n:=by
 have hz:R.size=n:=by simpa using hP.1
 refine ⟨hz,fun i hi=>?_⟩
 have h:=hP.2.2
 rw [zcq hz,zcq (by simp)] at h
 have hm:R[i]! ∈ R.toList:=by rw [getElem!_pos R i (by omega)];simp
 have:=h.mem_iff.1 hm
 simpa using this
end Go.Proofs.YtcmoehknppjkiaaGreatDoor
namespace Go.Proofs.YtcmoehknppjkiaaGreatDoor
open Go.RowKit
theorem twoV_len:∀(m:Nat) (l:List PV),l.length=2*m->(twoV l).length=m
 | 0,l,h=>by
  have:l=[]:=List.eq_nil_of_length_eq_zero (by omega)
  subst this;rfl
 | m+1,a::b::l,h=>by simp only [twoV,List.length_cons];rw [twoV_len m l (by simp at h;omega)]
 | m+1,[a],h=>by simp at h;omega
 | m+1,[],h=>by simp at h
theorem twoV_at:∀(m:Nat) (l:List PV),l.length=2*m->∀k,k<m->∃x y,l[2*k]?=some x/\l[2*k+1]?=some y/\(twoV l)[k]! = (x,y)
 | 0,_,_,k,hk=>by omega
 | m+1,a::b::l,h,0,_=>⟨a,b,rfl,rfl,rfl⟩
 | m+1,a::b::l,h,k+1,hk=>by
  obtain ⟨x,y,h1,h2,h3⟩:=twoV_at m l (by simp at h;omega) k (by omega)
  refine ⟨x,y,?_,?_,?_⟩
  ·rw [show 2*(k+1)=2*k+1+1 by omega];simpa using h1
  ·rw [show 2*(k+1)+1=2*k+1+1+1 by omega];simpa using h2
  ·simp only [twoV]
   rw [<-h3];simp
 | m+1,[a],h,_,_=>by simp at h;omega
 | m+1,[],h,_,_=>by simp at h
theorem zeC:∀L:List (PV×PV),zbT L=true↔∃i,i+1<L.length/\L[i]!.1.s=L[i+1]!.1.s
 | []=>by simp [zbT]
 | [x]=>by simp [zbT]
 | x::y::l=>by
  simp only [zbT,Bool.or_eq_true,beq_iff_eq]
  rw [zeC (y::l)]
  constructor
  ·rintro (h|⟨i,h1,h2⟩)
   ·exact ⟨0,by simp,by simpa using h⟩
   ·exact ⟨i+1,by simp at h1 |-;omega,by simpa using h2⟩
  ·rintro ⟨i,h1,h2⟩
   rcases i with _|i
   ·left;simpa using h2
   ·right;exact ⟨i,by simp at h1 |-;omega,by simpa using h2⟩
theorem flatV_len:∀a:List (PV×PV),(ze6 a).length=2*a.length
 | []=>rfl
 |(x,y)::a=>by simp only [ze6,List.length_cons];rw [flatV_len a];omega
def zea (cs:List Value) (k:Nat):List Value:=(cs.drop (k*8)).take 8
theorem IsVs.drop {w:World} {F:Nat->Prop}:∀(k:Nat) {l:List PV} {cs:List Value},IsVs w F l cs->IsVs w F (l.drop k) (cs.drop (k*4))
 | 0,_,_,h=>by simpa using h
 | k+1,[],_,h=>by cases h;simp [IsVs]
 | k+1,v::l,_,⟨sl,t,h,hv,ht⟩=>by
  subst h
  have:=ht.drop k
  rw [show (k+1)*4=k*4+4 by omega]
  simpa [pvC] using this
theorem IsVs.part {w:World} {F:Nat->Prop} {l:List PV} {cs:List Value} (h:IsVs w F l cs) {k:Nat} {x y:PV} (h1:l[2*k]?=some x) (h2:l[2*k+1]?=some y):IsVs w F [x,y] (zea cs k):=by
 have hd:=h.drop (2*k)
 obtain ⟨g1,e1⟩:=List.getElem?_eq_some_iff.1 h1
 obtain ⟨g2,e2⟩:=List.getElem?_eq_some_iff.1 h2
 rw [List.drop_eq_getElem_cons g1,List.drop_eq_getElem_cons g2,e1,e2] at hd
 obtain ⟨s1,t1,q1,v1,s2,t2,q2,v2,-⟩:=hd
 unfold zea
 rw [show k*8=2*k*4 by omega,q1,q2]
 exact ⟨s1,pvC y s2,by simp [pvC],v1,s2,[],by simp,v2,rfl⟩
theorem parts_all {w:World} {F:Nat->Prop} {l:List PV} {cs:List Value} {m:Nat} (hm:l.length=2*m) (h:IsVs w F l cs):∀qs:List Nat,(∀k∈qs,k<m)->IsVs w F (ze6 (qs.map fun k=>(twoV l)[k]!)) (qs.flatMap (zea cs))
 | [],_=>rfl
 | k::qs,hq=>by
  obtain ⟨x,y,h1,h2,h3⟩:=twoV_at m l hm k (hq k List.mem_cons_self)
  have:=parts_all hm h qs fun j hj=>hq j (List.mem_cons_of_mem _ hj)
  simp only [List.map_cons,List.flatMap_cons]
  rw [h3]
  exact (h.part h1 h2).append this
end Go.Proofs.YtcmoehknppjkiaaGreatDoor
