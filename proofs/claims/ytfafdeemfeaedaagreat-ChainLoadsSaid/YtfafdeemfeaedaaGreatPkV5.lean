/-
  Our texts Xr5 to NumR, in one.
-/
import Derived.Test.YtfafdeemfeaedaaGreatPkV4
import Derived.IntWalk
import Derived.Deep.RegionHeld3
import Derived.Deep.AppendLies
set_option maxRecDepth 8000
set_option maxHeartbeats 8000000
open Go
variable {A A0 B N c2 e f g i j k kc m mb n' off p r tot u:Nat} {F G S U X:Nat->Prop} {L R T T':List (Int×Int)} {P at2 er gap tto x:Int} {W W' W0 W1 W2 W8 w' w0 w1 w2:World} {ad gv sl sv sx v' x0 x1 x2 x3 x4 y0 y1 y2 y3 z:Value} {c:UInt8} {cs xs:List Value} {ds rd:List Int} {ka sa:Option Addr} {key:List UInt8} {ov yq:Bool} {t ty:TypeId}
namespace Go.Proofs.YtfafdeemfeaedaaGreat
open Go.RowKit
theorem zha {bs:List UInt8} {gs:List Grp} {k:Int} (he:(nxtV bs yq k).2.2.2≠0):zbF bs yq (g+1) gs k=([],0,(nxtV bs yq k).2.2.2):=by
 unfold zbF;simp only;rw [yg he]
theorem zek {bs:List UInt8} {gs:List Grp} {k:Int} (he:(nxtV bs yq k).2.2.2=0) (ht:zdZ (nxtV bs yq k).1=true):zbF bs yq (g+1) gs k=(gs,(nxtV bs yq k).2.2.1,0):=by
 unfold zbF;simp only;rw [yh (by rw [he];decide),yg ht]
theorem grps_bad {bs:List UInt8} {gs:List Grp} {k:Int} (he:(nxtV bs yq k).2.2.2=0) (ht:zdZ (nxtV bs yq k).1=false) (hw:zaH (nxtV bs yq k).1=false):zbF bs yq (g+1) gs k=([],0,20):=by
 unfold zbF;simp only;rw [yh (by rw [he];decide),yh (by rw [ht];decide),yg hw]
theorem grps_full {bs:List UInt8} {gs:List Grp} {k:Int} (he:(nxtV bs yq k).2.2.2=0) (ht:zdZ (nxtV bs yq k).1=false) (hw:zaH (nxtV bs yq k).1=true) (hl:gs.length=64) :
  zbF bs yq (g+1) gs k=([],0,if (nxtV bs yq (nxtV bs yq k).2.2.1).2.2.2≠0 then (nxtV bs yq (nxtV bs yq k).2.2.1).2.2.2 else 20):=by
 unfold zbF;simp only
 rw [yh (by rw [he];decide),yh (by rw [ht];decide),yh (by rw [hw];decide)]
 split
 ·rfl
 ·rw [yg (.inr (.inl hl))]
theorem grps_step {bs:List UInt8} {gs:List Grp} {k:Int} (he:(nxtV bs yq k).2.2.2=0) (ht:zdZ (nxtV bs yq k).1=false) (hl:gs.length≠64) :
  zbF bs yq (g+1) gs k=if (grp1 bs yq (nxtV bs yq k).1 (nxtV bs yq k).2.2.1).2.2≠0 then ([],0,(grp1 bs yq (nxtV bs yq k).1 (nxtV bs yq k).2.2.1).2.2)
   else zbF bs yq g (gs++[(grp1 bs yq (nxtV bs yq k).1 (nxtV bs yq k).2.2.1).1]) (grp1 bs yq (nxtV bs yq k).1 (nxtV bs yq k).2.2.1).2.1:=by
 conv=>lhs;unfold zbF
 simp only
 rw [yh (by rw [he];decide),yh (by rw [ht];decide)]
 unfold grp1
 generalize nxtV bs yq (nxtV bs yq k).2.2.1=u
 generalize nxtV bs yq k=t
 by_cases hw:zaH t.1=false
 ·simp [hw]
 rw [yh hw,yh hw]
 by_cases hu:u.2.2.2≠0
 ·rw [yg hu,yg hu]
  simp [hu]
 rw [yh hu,yh hu]
 by_cases hf:zaH u.1=false\/zdb t.1.vn u.1.vn=false
 ·rw [yg (hf.imp id fun h=>.inr h),yg hf]
  simp
 rw [yh (fun h=>h.elim (fun a=>hf (.inl a)) (fun b=>b.elim hl (fun c=>hf (.inr c)))),yh hf]
 by_cases hq:(zb5 bs yq u.1.vn.toNat u.2.2.1.toNat []).2.2≠0
 ·rw [yg hq,yg hq]
  simp [hq]
 ·rw [yh hq,yh hq]
  simp
theorem grp1_le {bs:List UInt8} {x:Tk} {k:Int} (h0:0<=k) (h1:k<=bs.length):0<=(grp1 bs yq x k).2.1/\(grp1 bs yq x k).2.1<=bs.length:=by
 have hto:=za1 (bs:=bs) (k:=k) yq h0 h1
 rw [<-nxt_3] at hto
 have hen:∀(m a:Nat) (l:List Ent),a<=bs.length->(zb5 bs yq m a l).2.1<=bs.length:=by
  intro m
  induction m with
  | zero=>intro a l h;exact h
  | succ m ih =>
   intro a l h
   rw [zb5]
   split
   ·exact Nat.zero_le _
   ·rename_i he
    exact ih _ _ (entV_le h (by simpa using he))
 unfold grp1
 split
 ·exact ⟨Int.le_refl _,by show (0:Int)<=_;omega⟩
 split
 ·exact ⟨Int.le_refl _,by show (0:Int)<=_;omega⟩
 split
 ·exact ⟨Int.le_refl _,by show (0:Int)<=_;omega⟩
 split
 ·exact ⟨Int.le_refl _,by show (0:Int)<=_;omega⟩
 ·have:=hen (nxtV bs yq k).1.vn.toNat (nxtV bs yq k).2.2.1.toNat [] (by omega)
  exact ⟨by show (0:Int)<=((_:Nat):Int);omega,by show ((_:Nat):Int)<=_;omega⟩
theorem EGrp:zc9 Tryz.prog 24 42 (.agg #[.int .i64 0,.slice none 0 0]) 2 32:=⟨Tryz.underlying24,by kernel_rfl,rfl,by omega⟩
theorem trail_iff (x:Tk):zdZ x=(x.kind==6&&decide (x.s=[116,114,97,105,108,101,114])):=by
 unfold zdZ
 congr 1
 by_cases h:x.s=[116,114,97,105,108,101,114]<;>simp [h]
theorem zb7 (W:World) (o:Obj) {b:Nat} (hb:b<W.heap.size):(W.alloc o).heap[b]?=W.heap[b]?:=(zam W o).block b hb
structure GsM (w W:World) (p:Nat) (gs:List Grp) (cs:List Value) (v:Value):Prop where
 own:W.ownsRow w.heap.size 42 2 v gs.length cs
 hold:IsGs W (fun b=>w.heap.size<=b/\v.ownBlock≠some b) gs cs
 kps:zaj (fun b=>b=p) w W
theorem GsM.on {w:World} {gs:List Grp} {v:Value} (h:GsM w W p gs cs v) (hp:p<w.heap.size) (hk:zaj (fun b=>b=p) W W'):GsM w W' p gs cs v :=
 ⟨zaE h.own fun b hb=>hk.block b (h.own.lt b hb).2 (by have:=(h.own.lt b hb).1;omega),h.hold.keep ⟨hk.size,fun b hb hF=>hk.block b hb (by have:=hF.1;omega)⟩ (fun _ h=>h),h.kps.trans hk (fun x hx=>.inl hx)⟩
theorem GsM.fin {w:World} {gs:List Grp} {v:Value} (h:GsM w W p gs cs v):IsG W (fun b=>w.heap.size<=b) gs v:=by
 obtain ⟨a,cap,e,-,-⟩:=zas h.own
 subst e
 exact ⟨a,cap,cs,rfl,(Row.of_own h.own).2,fun h0 x hx=>(h.own.lt x.block (by rw [hx];rfl)).1,h.hold.keep (zaK.refl _ _) (fun b hb=>hb.1)⟩
theorem GsM.app {w:World} {o:Obj} {gs:List Grp} {v:Value} (h:GsM w W p gs cs v) (hg8:(W.alloc o).grownBy W8 v.ownBlock) {n:Int} {es:List Ent} (he:IsE W (fun b=>B<=b) es sv) (hB:w.heap.size<=B) (hv:∀b,v.ownBlock=some b->b<B) (_hBW:B<=W.heap.size)
  (hO:W8.ownsRow w.heap.size 42 2 v' (gs.length+1) (cs++[.int .i64 n,sv])) (hn:∀b,v'.ownBlock=some b->v.ownBlock=some b\/(W.alloc o).heap.size<=b):GsM w W8 p (gs++[⟨n,es⟩]) (cs++[.int .i64 n,sv]) v':=by
 have hst:zaK (fun b=>v.ownBlock≠some b/\b<W.heap.size) W W8:=⟨by have:=hg8.size;rw [zan] at this;omega,fun b hb hF=>by
  rw [hg8.block b (by rw [zan];omega) (fun e=>hF.1 e.symm)]
  exact (zb7 W o hb)⟩
 refine ⟨by rw [List.length_append];exact hO,?_,(h.kps.alloc o).grown hg8 (fun k hk=>.inr (h.own.lt k hk).1)⟩
 have hnew:∀b,b<W.heap.size->v.ownBlock≠some b->v'.ownBlock≠some b:=fun b hb hne e=>by
  rcases hn b e with h1|h1
  ·exact hne h1
  ·rw [zan] at h1;omega
 have lt_e:∀ {es:List Ent} {sv:Value} {F:Nat->Prop},IsE W F es sv->IsE W (fun b=>F b/\b<W.heap.size) es sv:=fun {es sv F} h=>by
  obtain ⟨a,cap,e,hr,hF⟩:=h
  exact ⟨a,cap,e,hr,fun h0 x hx=>⟨hF h0 x hx,hr.lt h0 x hx⟩⟩
 have lt_g:∀ {gs:List Grp} {cs:List Value} {F:Nat->Prop},IsGs W F gs cs->IsGs W (fun b=>F b/\b<W.heap.size) gs cs:=fun {gs}=>by
  induction gs with
  | nil=>exact fun h=>h
  | cons g gs ih=>exact fun ⟨v,t,e,h1,h2⟩=>⟨v,t,e,lt_e h1,ih h2⟩
 refine IsGs.snoc ?_ ?_
 ·have h2:=(lt_g h.hold)
  have h3:IsGs W8 (fun b=>(w.heap.size<=b/\v.ownBlock≠some b)/\b<W.heap.size) gs cs:=h2.keep ⟨hst.1,fun b hb hF=>hst.2 b hb ⟨hF.1.2,hF.2⟩⟩ (fun _ h=>h)
  exact h3.keep (zaK.refl _ _) (fun b hb=>⟨hb.1.1,hnew b hb.2 hb.1.2⟩)
 ·have h2:IsE W (fun b=>B<=b/\b<W.heap.size) es sv:=lt_e he
  have hne:∀b,B<=b->v.ownBlock≠some b:=fun b hb e=>by have:=hv b e;omega
  have h3:IsE W8 (fun b=>B<=b/\b<W.heap.size) es sv:=h2.keep ⟨hst.1,fun b hb hF=>hst.2 b hb ⟨hne b hF.1,hF.2⟩⟩ (fun _ h=>h)
  exact h3.keep (zaK.refl _ _) (fun b hb=>⟨Nat.le_trans hB hb.1,hnew b hb.2 (hne b hb.1)⟩)
section
variable {w0 w : World} {p : Nat} {a : Option Addr} {cap : Nat} {bs : List UInt8} {yq : Bool}
def GsEnd (w0 w:World) (p:Nat) (a:Option Addr) (cap:Nat) (bs:List UInt8) (yq:Bool) (V:List Grp×Int×Int) (e:Ending) (w':World):Prop :=
 ∃v,e=.returned (.tuple #[v,.int .i64 V.2.2])/\IsG w' (fun b=>w.heap.size<=b) V.1 v/\(∃at2:Int,IsRd w0 w' p a cap bs yq at2/\(V.2.2=0->at2=V.2.1))/\zaj (fun b=>b=p) w w'
theorem gs_no {V:List Grp×Int×Int} {e:Int} (hV:V=([],0,e)) (he:e≠0) (hI:∃at2:Int,IsRd w0 W p a cap bs yq at2) (hk:zaj (fun b=>b=p) w W):GsEnd w0 w p a cap bs yq V (.returned (.tuple #[.slice none 0 0,.int .i64 e])) W:=by
 subst hV
 obtain ⟨at2,hI⟩:=hI
 exact ⟨_,rfl,IsG.nil _ _,⟨at2,hI,fun h=>absurd h he⟩,hk⟩
def lenV:Value->Nat | .slice _ n _=>n|_=>0
theorem xgroups_any {k:Int} (h:IsRd w0 w p a cap bs yq k) (h0:0<=k) (h1:k<=bs.length):Calls Tryz.prog 44 #[.pointer (some ⟨p,0,none⟩)] w (GsEnd w0 w p a cap bs yq (zbF bs yq 65 [] k)):=by
 have hsm:=h.small
 have HPW:=yb (show p<w.heap.size from h.lt)
 obtain ⟨R,hR⟩:∃R,R=zbF bs yq 65 [] k:=⟨_,rfl⟩
 rw [<-hR]
 have HRR:=yb hR
 have HR:=yb h
 clear h hR
 go_enter Tryz.func44,Tryz.ntmps44
 go_wp2
 go_loopw [4] (fun v wr=>∃(gs:List Grp) (k2:Int) (cs:List Value),gs.length<=64/\0<=k2/\k2<=bs.length/\Hid (IsRd w0 wr p a cap bs yq k2)/\Hid (GsM w wr p gs cs v)/\Hid (R=zbF bs yq (65-gs.length) gs k2)) (fun v _=>65-lenV v)
 case atStart=>exact ⟨[],k,[],by simp,h0,h1,HR,yb ⟨World.ownsRow_nil _ _ _ _,rfl,zaj.refl _ _⟩,HRR⟩
 case round =>
  obtain ⟨gs,k2,cs,hgl,hk0,hk1,HI,HGM,HQ⟩:=hrel
  obtain ⟨sa,sc,rfl,-,-⟩:=zas HGM.out.own
  have HN:=yb (zfm HI.out)
  have hto:=za1 (bs:=bs) (k:=k2) yq hk0 hk1
  rw [<-nxt_3] at hto
  obtain ⟨m,hm⟩:∃m,m+1=65-gs.length:=⟨64-gs.length,by omega⟩
  have hQ:=HQ.out
  rw [<-hm] at hQ
  have HM:=yb hm
  have HQE:=yb (fun he=>hQ.trans (zha he))
  have HQT:=yb (fun he ht=>hQ.trans (zek he ht))
  have HQB:=yb (fun he ht hw=>hQ.trans (grps_bad he ht hw))
  have HQF:=yb (fun he ht hw hl=>hQ.trans (grps_full he ht hw hl))
  have HQS:=yb (fun he ht hl=>hQ.trans (grps_step he ht hl))
  have HN2:=yb (fun (W:World) (hI:IsRd w0 W p a cap bs yq (nxtV bs yq k2).2.2.1)=>zfm hI)
  have HGR:=yb (fun (W:World) (hI:IsRd w0 W p a cap bs yq (nxtV bs yq k2).2.2.1)=>xgroup_any hI (by omega) hto.2 (nxtV bs yq k2).1 (nxtV bs yq k2).2.1 (nxtV bs yq k2).2.2.1)
  have HGL:=yb (grp1_le (bs:=bs) (yq:=yq) (x:=(nxtV bs yq k2).1) (k:=(nxtV bs yq k2).2.2.1) (by omega) hto.2)
  have HGB:=yb (fun (h:zaH (nxtV bs yq k2).1=false)=>show (grp1 bs yq (nxtV bs yq k2).1 (nxtV bs yq k2).2.2.1).2.2=20 by unfold grp1;rw [yg h])
  have HTI:=yb (trail_iff (nxtV bs yq k2).1)
  have HWX:=yb (fun W=>zff (nxtV bs yq k2).1 (nxtV bs yq k2).2.1 (nxtV bs yq k2).2.2.1 W)
  have HSQ:=yb (zbM (nxtV bs yq k2).1.s [116,114,97,105,108,101,114])
  clear hm hQ HQ
  generalize nxtV bs yq k2=U at *
  obtain ⟨x,f,t,E⟩:=U
  simp only at hto HN HQE HQT HQB HQF HQS HN2 HGR HGL HTI HWX HSQ
  generalize nxtV bs yq t=U2 at *
  obtain ⟨y,f2,t2,E2⟩:=U2
  generalize grp1 bs yq x t=G at *
  obtain ⟨⟨gn,ge⟩,gk,gr⟩:=G
  unfold GrpEnd at HGR
  simp only at HQF HQS HN2 HGR HGL HGB
  unfold tokN at HN HN2 HWX HGR
  obtain ⟨tr,htr⟩:∃tr,tr=decide (x.s=[116,114,97,105,108,101,114]):=⟨_,rfl⟩
  rw [<-htr] at HTI HSQ
  rw [HTI.out] at HQT HQB HQF HQS
  clear htr HTI
  generalize zaH x=wx at *
  generalize x.kind=a0 at *
  generalize x.vk=a1 at *
  generalize x.vn=a2 at *
  generalize mkB x.vs=s1 at *
  generalize mkB x.s=s2 at *
  generalize y.kind=b0 at *
  generalize y.vk=b1 at *
  generalize y.vn=b2 at *
  generalize mkB y.vs=q1 at *
  generalize mkB y.s=q2 at *
  go_wp2_with fail
  refine HN.out.mono ?_
  rintro e w3 ⟨rfl,hi3,hk3⟩
  have HT3:=yb (zac (w:=w3) (b:=w3.heap.size) (.cells #[.int .i64 a0,.int .i64 f,.int .i64 t,.int .i64 a1,.int .i64 a2,.string s1,.slice none 0 0,.string s2] 150) rfl)
  have HI3:=yb (hi3.mono (zam w3 (.cells #[.int .i64 a0,.int .i64 f,.int .i64 t,.int .i64 a1,.int .i64 a2,.string s1,.slice none 0 0,.string s2] 150)))
  have HG3:=yb ((HGM.out.on HPW.out hk3).on HPW.out (zax (zam w3 (.cells #[.int .i64 a0,.int .i64 f,.int .i64 t,.int .i64 a1,.int .i64 a2,.string s1,.slice none 0 0,.string s2] 150))))
  have HTP:=yb (show w3.heap.size≠p by have:=hi3.lt;omega)
  clear hi3 hk3 HN HI HGM
  go_upto_region 3 with fail
  obtain ⟨T,hT⟩:∃T,T=w3.heap.size:=⟨_,rfl⟩
  rw [<-hT] at HT3 HTP |-
  clear hT
  generalize World.alloc _ _=W3 at *
  obtain ⟨⟨v0,v1,v2,v3,v4,v5,v6,v7⟩,-⟩:=zag HT3.out
  by_cases hE:E=0
  case neg =>
   have HV3:=yb (HQE.out hE)
   have e0:(E==0)=false:=by rw [yf];exact hE
   have e1:(E != 0)=true:=by simp only [bne,e0,yj]
   have HE:=yb hE
   clear hE
   go_wp2
   go_ret2
   exact gs_no HV3.out HE.out ⟨_,HI3.out⟩ HG3.out.kps
  subst hE
  rw [yg rfl] at HI3
  have hsq:=HSQ.out
  obtain ⟨k6,hk6⟩:∃k6,k6=(a0==6):=⟨_,rfl⟩
  rw [<-hk6] at HQT HQB HQF HQS
  have HK6:=yb hk6
  obtain ⟨tb,htb⟩:∃tb,tb=(k6&&tr):=⟨_,rfl⟩
  rw [<-htb] at HQT HQB HQF HQS
  have HTB:=yb htb
  clear htb hk6
  go_upto_region 5 with fail
  go_cut [27] from 10 to 59 (fun v wx=>v=.bool tb/\wx=W3)
  case first =>
   clear HQT HQB HQF HQS HN2 HGR HGL HGB
   cases k6
   ·have e6:=HK6.out.symm
    obtain rfl:tb=false:=HTB.out
    go_wp2_with fail
    go_meet
    exact ⟨rfl,rfl⟩
   ·have e6:=HK6.out.symm
    obtain rfl:tb=tr:=HTB.out
    go_wp2_with fail
    go_meet
    exact ⟨rfl,rfl⟩
  case rest =>
  obtain ⟨rfl,hw⟩:=hcut
  subst hw
  clear hsq HSQ HK6 HTB
  cases tb
  case true =>
   have HV3:=yb (HQT.out rfl rfl)
   clear HQT HQB HQF HQS HN2 HGR HGL HGB v0 v1 v2 v3 v4 v5 v6 v7
   go_wp2
   go_ret2
   rw [HV3.out]
   exact ⟨_,rfl,HG3.out.fin,⟨_,HI3.out,fun _=>rfl⟩,HG3.out.kps⟩
  have HQB2:=yb (HQB.out rfl rfl)
  have HQF2:=yb (HQF.out rfl rfl)
  have HQS2:=yb (HQS.out rfl rfl)
  clear HQT HQB HQF HQS
  obtain ⟨fb,hfb⟩:∃fb,fb=(decide (gs.length=64)&&wx):=⟨_,rfl⟩
  have HFB:=yb hfb
  clear hfb
  go_upto_region 7 with fail
  go_cut [35] from 10 to 59 (fun v wx=>v=.bool fb/\Hid (IsRd w0 wx p a cap bs yq t)/\Hid (GsM w wx p gs cs (.slice sa gs.length sc))/\Hid (wx.heap[T]?=some (.cells #[.int .i64 a0,.int .i64 f,.int .i64 t,.int .i64 a1,.int .i64 a2,.string s1,.slice none 0 0,.string s2] 150 (0,0))))
  case first =>
   clear HQB2 HQF2 HQS2 HN2 HGR HGL HGB
   by_cases h64:gs.length=64
   ·obtain rfl:fb=wx:=by rw [HFB.out,yd h64,Bool.true_and]
    have hd64:((gs.length:Int)==64)=true:=by rw [beq_iff_eq];omega
    have hd64n:(gs.length==64)=true:=by rw [beq_iff_eq];exact h64
    clear h64
    go_wp2_with (go_at_call 79;refine (HWX.out _).mono ?_;rintro e w4 ⟨rfl,hb4⟩;have HI4:=yb (HI3.out.mono hb4);have HG4:=yb (HG3.out.on HPW.out (zax hb4));have HT4:=yb (zab hb4 HT3.out))
    go_meet
    exact ⟨rfl,HI4,HG4,HT4⟩
   ·obtain rfl:fb=false:=by rw [HFB.out,ye h64,Bool.false_and]
    have hd64:((gs.length:Int)==64)=false:=by rw [yf];omega
    have hd64n:(gs.length==64)=false:=by rw [yf];exact h64
    go_wp2_with fail
    go_meet
    exact ⟨rfl,HI3,HG3,HT3⟩
  case rest =>
  obtain ⟨rfl,HI4,HG4,HT4⟩:=hcut
  clear HI3 HG3 HT3 v0 v1 v2 v3 v4 v5 v6 v7 HWX
  obtain ⟨⟨v0,v1,v2,v3,v4,v5,v6,v7⟩,-⟩:=zag HT4.out
  cases fb
  case true =>
   have h64:gs.length=64/\wx=true:=by have:=HFB.out;simpa using this.symm
   have HVF:=yb (HQF2.out h64.2 h64.1)
   clear HQB2 HQS2 HQF2 HGR HGL HGB HFB h64
   go_wp2_with fail
   refine (HN2.out _ HI4.out).mono ?_
   rintro e w5 ⟨rfl,hi5,hk5⟩
   have HI5:=yb (hi5.mono (zam w5 (.cells #[.int .i64 b0,.int .i64 f2,.int .i64 t2,.int .i64 b1,.int .i64 b2,.string q1,.slice none 0 0,.string q2] 150)))
   have HG5:=yb ((HG4.out.on HPW.out hk5).on HPW.out (zax (zam w5 (.cells #[.int .i64 b0,.int .i64 f2,.int .i64 t2,.int .i64 b1,.int .i64 b2,.string q1,.slice none 0 0,.string q2] 150))))
   have HT5:=yb (zac (w:=w5) (b:=w5.heap.size) (.cells #[.int .i64 b0,.int .i64 f2,.int .i64 t2,.int .i64 b1,.int .i64 b2,.string q1,.slice none 0 0,.string q2] 150) rfl)
   clear hi5 hk5 HN2 HI4 HG4 HT4 v0 v1 v2 v3 v4 v5 v6 v7
   go_upto_region 9 with fail
   generalize w5.heap.size=T5 at *
   generalize World.alloc _ _=W5 at *
   obtain ⟨⟨v0,v1,v2,v3,v4,v5,v6,v7⟩,-⟩:=zag HT5.out
   by_cases hE2:E2=0
   ·subst hE2
    rw [yh (by decide)] at HVF
    go_wp2
    go_ret2
    exact gs_no HVF.out (by decide) ⟨_,HI5.out⟩ HG5.out.kps
   ·have e0:(E2==0)=false:=by rw [yf];exact hE2
    have e1:(E2 != 0)=true:=by simp only [bne,e0,yj]
    have HE2:=yb hE2
    rw [yg hE2] at HVF
    clear hE2
    go_wp2
    go_ret2
    exact gs_no HVF.out HE2.out ⟨_,HI5.out⟩ HG5.out.kps
  have HGE:=yb (show gr≠0->R=([],0,gr) from fun h=>by
   by_cases h64:gs.length=64
   ·have hwx:wx=false:=by have:=HFB.out;rw [yd h64,Bool.true_and] at this;exact this.symm
    rw [HQB2.out hwx,HGB.out hwx]
   ·have:=HQS2.out h64
    rw [yg h] at this
    exact this)
  have HGO:=yb (show gr=0->gs.length≠64/\R=zbF bs yq m (gs++[⟨gn,ge⟩]) gk from fun h=>by
   by_cases h64:gs.length=64
   ·have hwx:wx=false:=by have:=HFB.out;rw [yd h64,Bool.true_and] at this;exact this.symm
    have:=HGB.out hwx
    rw [h] at this
    cases this
   ·have:=HQS2.out h64
    rw [yh (by rw [h];decide)] at this
    exact ⟨h64,this⟩)
  clear HQB2 HQF2 HQS2 HGB HFB HN2
  go_wp2_with fail
  refine (HGR.out _ HI4.out).mono ?_
  rintro e w6 ⟨gv,rfl,hie,⟨at2,hi6,hat⟩,hk6⟩
  have HG6:=yb (HG4.out.on HPW.out hk6)
  have HVB:=yb (show ∀b,Value.ownBlock (.slice sa gs.length sc)=some b->b<wc.heap.size from fun b hb=>(HG4.out.own.lt b hb).2)
  have HWW:=yb (show w.heap.size<=wc.heap.size/\wc.heap.size<=w6.heap.size from ⟨HG4.out.kps.size,hk6.size⟩)
  obtain ⟨va,vc,rfl,-,-⟩:=hie.len
  have HI7:=yb (hi6.mono (zam w6 (.cells #[.int .i64 gn,.slice va ge.length vc] 42)))
  have HG7:=yb (HG6.out.on HPW.out (zax (zam w6 (.cells #[.int .i64 gn,.slice va ge.length vc] 42))))
  have HE7:=yb (hie.below (zam w6 (.cells #[.int .i64 gn,.slice va ge.length vc] 42)))
  have HZ7:=yb (zac (w:=w6) (b:=w6.heap.size) (.cells #[.int .i64 gn,.slice va ge.length vc] 42) rfl)
  have HAT:=yb hat
  have HWS:=yb (zan w6 (.cells #[.int .i64 gn,.slice va ge.length vc] 42))
  clear hie hi6 hat hk6 HG4 HI4 HT4 HGR HG6 v0 v1 v2 v3 v4 v5 v6 v7
  go_upto_region 14 with fail
  obtain ⟨z,hz⟩:∃z,z=w6.heap.size:=⟨_,rfl⟩
  rw [<-hz] at HZ7 HWW HWS |-
  clear hz
  generalize w6.alloc _=W7 at *
  obtain ⟨⟨z0,z1⟩,-⟩:=zaA HZ7.out
  by_cases hgr:gr=0
  case neg =>
   have HVF:=yb (HGE.out hgr)
   have e0:(gr==0)=false:=by rw [yf];exact hgr
   have e1:(gr != 0)=true:=by simp only [bne,e0,yj]
   have HE2:=yb hgr
   clear hgr
   go_wp2
   go_ret2
   exact gs_no HVF.out HE2.out ⟨_,HI7.out⟩ HG7.out.kps
  subst hgr
  obtain ⟨h64,hRQ⟩:=HGO.out rfl
  have hL:gs.length<=63:=by omega
  have HRQ:=yb hRQ
  have hone:∀u∈[Value.int .i64 gn,.slice va ge.length vc],u.oneCell'=true:=by
   intro u hu
   simp at hu
   rcases hu with rfl|rfl<;>rfl
  have HONE:=yb hone
  have HKK:=yb HGL.out
  clear hone h64 hRQ HGO HGE HGL
  go_wp2_with (at_builtin;go_loud (refine zbT EGrp rfl (.tmp 56) (.tmp 58) rfl w.heap.size _ gs.length _ rfl (HG7.out.own.alloc _) _ 1 _ rfl (zcK _ #[.int .i64 gn,.slice va ge.length vc] _ 2 rfl rfl) HONE.out (by unfold maxLen;omega) (by omega) (by rw [zan];have:=HG7.out.kps.size;omega) ?_);intro v' w8 hO8 hg8 hn8;obtain ⟨ua,uc,rfl,-,-⟩:=zas hO8;have HG8:=yb (HG7.out.app hg8 HE7.out HWW.out.1 HVB.out (by have:=HWW.out.2;have:=HWS.out;omega) hO8 hn8);have HI8:=yb ((HI7.out.mono (zam _ _)).grown hg8 (fun b hb=>⟨fun e=>by have:=(HG7.out.own.lt b hb).1;have:=HPW.out;omega,Nat.le_trans HR.out.bel.size (HG7.out.own.lt b hb).1⟩));clear hO8 hg8 hn8)
  go_roundw
  case rel=>exact ⟨gs++[⟨gn,ge⟩],gk,_,by rw [List.length_append];simp;omega,HKK.out.1,HKK.out.2,by rw [<-HAT.out rfl];exact HI8,HG8,yb (by rw [HRQ.out,List.length_append,show 65-(gs.length+[(⟨gn,ge⟩:Grp)].length)=m by have:=HM.out;simp;omega])⟩
  case measure=>simp [lenV];omega
end
end Go.Proofs.YtfafdeemfeaedaaGreat
namespace Go.Proofs.YtfafdeemfeaedaaGreat
def fIx (s:List UInt8):List (PV×PV)->Nat
 | []=>0
 | y::l=>if y.1.s=s then 0 else fIx s l+1
theorem fIx_le (s:List UInt8):∀l,fIx s l<=l.length
 | []=>yp _
 | y::l=>by
  have:=fIx_le s l
  unfold fIx
  split
  ·exact Nat.zero_le _
  ·simp;omega
theorem fIx_has (s:List UInt8):∀l,hasK s l=decide (fIx s l<l.length)
 | []=>by simp [hasK,fIx]
 | y::l=>by
  have h:=fIx_has s l
  unfold fIx
  by_cases e:y.1.s=s
  ·rw [yg e];simp [hasK,e]
  ·rw [yh e]
   have:hasK s (y::l)=hasK s l:=by simp [hasK,e]
   rw [this,h];simp
theorem fIx_ne (s:List UInt8):∀(l:List (PV×PV)) (k:Nat) (y:PV×PV),k<fIx s l->l[k]?=some y->y.1.s≠s
 | [],k,y,h,_=>by simp [fIx] at h
 | z::l,k,y,h,hk=>by
  unfold fIx at h
  by_cases e:z.1.s=s
  ·rw [yg e] at h;omega
  ·rw [yh e] at h
   cases k with
   | zero=>simp at hk;subst hk;exact e
   | succ k=>exact fIx_ne s l k y (by omega) (by simpa using hk)
theorem fIx_eq (s:List UInt8):∀(l:List (PV×PV)) (y:PV×PV),l[fIx s l]?=some y->y.1.s=s
 | [],y,h=>by simp at h
 | z::l,y,h=>by
  unfold fIx at h
  by_cases e:z.1.s=s
  ·rw [yg e] at h;simp at h;subst h;exact e
  ·rw [yh e] at h
   exact fIx_eq s l y (by simpa using h)
theorem flat_at:∀(l:List (PV×PV)) (k:Nat) (y:PV×PV),l[k]?=some y->(zaV l)[2*k]?=some y.1/\(zaV l)[2*k+1]?=some y.2
 | [],k,y,h=>by simp at h
 |(a,b)::l,0,y,h=>by simp at h;subst h;exact ⟨rfl,rfl⟩
 |(a,b)::l,k+1,y,h=>by
  have:=flat_at l k y (by simpa using h)
  rw [show 2*(k+1)+1=2*k+1+1+1 by omega,show 2*(k+1)=2*k+1+1 by omega]
  simpa [zaV] using this
theorem zc5:∀l:List (PV×PV),(zaV l).length=2*l.length
 | []=>rfl
 |(a,b)::l=>by simp [zaV,zc5 l];omega
theorem zdU:∀(a b:List (PV×PV)),zaV (a++b)=zaV a++zaV b
 | [],b=>rfl
 |(x,y)::a,b=>by simp [zaV,zdU a b]
theorem rep_len (x:PV×PV):∀l,(repK x l).length=l.length
 | []=>rfl
 | y::l=>by
  unfold repK
  split
  ·simp
  ·simp [rep_len x l]
theorem rep_at (x:PV×PV):∀(l:List (PV×PV)) (k:Nat) (y:PV×PV),l[k]?=some y->(repK x l)[k]?=some (y.1,if k=fIx x.1.s l then x.2 else y.2)
 | [],k,y,h=>by simp at h
 | z::l,k,y,h=>by
  unfold repK fIx
  by_cases e:z.1.s=x.1.s
  ·rw [yg e,yg e]
   cases k with
   | zero=>simp at h;subst h;simp
   | succ k=>simp at h |-;exact h
  ·rw [yh e,yh e]
   cases k with
   | zero=>simp at h;subst h;simp
   | succ k =>
    have:=rep_at x l k y (by simpa using h)
    simp only [List.getElem?_cons_succ,this]
    simp
theorem rep_step (x:PV×PV) (l:List (PV×PV)) (k:Nat) (y:PV×PV) (h:l[k]?=some y):zaV ((repK x l).take (k+1))=zaV ((repK x l).take k)++[y.1,if k=fIx x.1.s l then x.2 else y.2]:=by
 rw [List.take_add_one,rep_at x l k y h,zdU];rfl
def gIx (s:List UInt8):List (PV×PV)->Nat
 | []=>0
 | y::l=>if sLt s y.1.s=true then 0 else gIx s l+1
theorem gIx_le (s:List UInt8):∀l,gIx s l<=l.length
 | []=>yp _
 | y::l=>by
  have:=gIx_le s l
  unfold gIx
  split
  ·exact Nat.zero_le _
  ·simp;omega
theorem gIx_no (s:List UInt8):∀(l:List (PV×PV)) (k:Nat) (y:PV×PV),k<gIx s l->l[k]?=some y->sLt s y.1.s=false
 | [],k,y,h,_=>by simp [gIx] at h
 | z::l,k,y,h,hk=>by
  unfold gIx at h
  by_cases e:sLt s z.1.s=true
  ·rw [yg e] at h;omega
  ·rw [yh e] at h
   cases k with
   | zero=>simp at hk;subst hk;simpa using e
   | succ k=>exact gIx_no s l k y (by omega) (by simpa using hk)
theorem gIx_yes (s:List UInt8):∀(l:List (PV×PV)) (y:PV×PV),l[gIx s l]?=some y->sLt s y.1.s=true
 | [],y,h=>by simp at h
 | z::l,y,h=>by
  unfold gIx at h
  by_cases e:sLt s z.1.s=true
  ·rw [yg e] at h;simp at h;subst h;exact e
  ·rw [yh e] at h
   exact gIx_yes s l y (by simpa using h)
theorem ins_is (x:PV×PV):∀l,insK x l=l.take (gIx x.1.s l)++x::l.drop (gIx x.1.s l)
 | []=>by simp [insK,gIx]
 | y::l=>by
  unfold insK gIx
  by_cases e:sLt x.1.s y.1.s=true
  ·rw [yg e,yg e];rfl
  ·rw [yh e,yh e,ins_is x l];rfl
def insT (x:PV×PV) (l:List (PV×PV)) (k:Nat):List (PV×PV):=if gIx x.1.s l<k then l.take (gIx x.1.s l)++x::(l.take k).drop (gIx x.1.s l) else l.take k
theorem insT_zero (x:PV×PV) (l:List (PV×PV)):insT x l 0=[]:=by unfold insT;rw [yh (by omega)];simp
theorem insT_step (x:PV×PV) (l:List (PV×PV)) (k:Nat) (y:PV×PV) (h:l[k]?=some y) (hk:k≠gIx x.1.s l):zaV (insT x l (k+1))=zaV (insT x l k)++[y.1,y.2]:=by
 have e:insT x l (k+1)=insT x l k++[y]:=by
  have hkl:k<l.length:=(List.getElem?_eq_some_iff.1 h).1
  unfold insT
  by_cases g:gIx x.1.s l<k
  ·rw [yg (by omega),yg g,List.take_add_one,h]
   simp only [Option.toList_some,List.append_assoc,List.cons_append]
   rw [List.drop_append_of_le_length (by simp;omega)]
  ·rw [yh (by omega),yh g,List.take_add_one,h];rfl
 rw [e,zdU];rfl
theorem insT_here (x:PV×PV) (l:List (PV×PV)) (y:PV×PV) (h:l[gIx x.1.s l]?=some y):zaV (insT x l (gIx x.1.s l+1))=zaV (insT x l (gIx x.1.s l))++[x.1,x.2,y.1,y.2]:=by
 have e:insT x l (gIx x.1.s l+1)=insT x l (gIx x.1.s l)++[x,y]:=by
  unfold insT
  have hl:gIx x.1.s l<l.length:=(List.getElem?_eq_some_iff.1 h).1
  rw [yg (by omega),yh (by omega),List.take_add_one,h]
  rw [List.drop_append_of_le_length (by simp;omega),List.drop_of_length_le (by rw [List.length_take];omega)]
  rfl
 rw [e,zdU];rfl
theorem insT_end (x:PV×PV) (l:List (PV×PV)):insK x l=if gIx x.1.s l<l.length then insT x l l.length else insT x l l.length++[x]:=by
 have:=gIx_le x.1.s l
 rw [ins_is]
 unfold insT
 by_cases g:gIx x.1.s l<l.length
 ·rw [yg g,yg g];simp
 ·rw [yh g,yh g]
  have e:gIx x.1.s l=l.length:=by omega
  rw [e];simp
end Go.Proofs.YtfafdeemfeaedaaGreat
namespace Go.Proofs.YtfafdeemfeaedaaGreat
open Go.RowKit
theorem skN_pc {bs:List UInt8} {j:Nat} (h:j<bs.length) (hc:bs.getD j 0=37):skN bs false j=skN bs true j:=by
 rw [zfd (b':=true) h (by rw [hc];simp [zbh]),zfd (b:=true) (b':=true) h (by rw [hc];simp [zbh])]
theorem skN_nl {bs:List UInt8} (h:j<bs.length) (hc:bs.getD j 0=10\/bs.getD j 0=13):skN bs true j=skN bs false j:=by
 have hl:∀l,zbh true (bs.getD j 0::l)=1+zbh false l:=fun l=>by
  rcases hc with hc|hc<;>(rw [hc];simp [zbh])
 have h2:∀l,zbh false (bs.getD j 0::l)=1+zbh false l:=fun l=>by
  rcases hc with hc|hc<;>(rw [hc];simp [zbh,isSp])
 rw [zfd (b':=false) h (hl _),zfd (b:=false) (b':=false) h (h2 _)]
theorem skN_on {bs:List UInt8} (h:j<bs.length) (h1:bs.getD j 0≠10) (h2:bs.getD j 0≠13):skN bs true j=skN bs true (j+1) :=
 zfd h (by rw [zbh,show (bs.getD j 0 != 10&&bs.getD j 0 != 13)=true by rw [Bool.and_eq_true,bne_iff_ne,bne_iff_ne];exact ⟨h1,h2⟩])
theorem rskip_any {w:World} {a:Option Addr} {cap:Nat} {bs:List UInt8} (hr:Row w 1 a bs.length cap (bs.map u8C)) (hn:bs.length<=400000) (k:Int) :
  Calls Tryz.prog 121 #[.slice a bs.length cap,.int .i64 k] w fun e w'=>e=.returned (.int .i64 (zaM bs k:Nat))/\w=w':=by
 obtain ⟨V,hV⟩:∃V,V=zaM bs k:=⟨_,rfl⟩
 rw [<-hV]
 by_cases hk:k<0
 ·have HV:=yb (show V=0 by rw [hV];unfold zaM;rw [yg hk])
  have hkd:decide (k<0)=true:=yd hk
  clear hV hr
  go_enter Tryz.func121,Tryz.ntmps121
  go_wp2
  go_ret
  exact ⟨by rw [HV.out];rfl,rfl⟩
 ·have hv:=hV.trans (skipV_skN (by omega))
  obtain ⟨j0,hj0⟩:∃j:Nat,k=j:=⟨k.toNat,by omega⟩
  subst hj0
  rw [Int.toNat_natCast] at hv
  have HV:=yb hv
  have hkd:decide ((j0:Int)<0)=false:=ye (by omega)
  have HC:=yb (fun j (hj:j<bs.length)=>hr.at 0 j hj)
  clear hV hr hv hk
  go_enter Tryz.func121,Tryz.ntmps121
  go_wp2
  go_loop [1] (fun i=>∃j:Nat,i=.int .i64 j/\Hid (V=skN bs false j))
   (fun i=>bs.length-(intOf i).toNat)
  case atStart=>exact ⟨j0,rfl,HV⟩
  case round =>
   obtain ⟨j,rfl,HJ⟩:=hrel
   by_cases hj:j<bs.length
   ·obtain ⟨b0,off,ha,-,hc⟩:=HC.out j hj
    have hcj:=hc j hj
    have HCC:=yb hc
    unfold u8C at hcj
    have hji:decide ((j:Int)<bs.length)=true:=by simp;exact hj
    have hjd:decide (j<bs.length)=true:=yd hj
    have hjm:j<=399999:=by omega
    have HSP:=yb (fun W=>zdl (bs.getD j 0).toNat W)
    rw [<-zeI] at HSP
    have HG:=yb (fun b b'=>@zfd bs b b' j hj)
    have HST:=yb (fun h1 h2=>@skN_stop bs j hj h1 h2)
    have HPC:=yb (fun h=>@skN_pc bs j hj h)
    have HM:=yb (show bs.length-(j+1)<bs.length-j by omega)
    have HN:=yb hn
    have HJJ:=yb hj
    obtain ⟨c,hcc⟩:∃c,bs.getD j 0=c:=⟨_,rfl⟩
    rw [hcc] at hcj HSP HG HST HPC
    have HCJ:=yb hcc
    subst ha
    clear hc HC hn hkd hcc
    obtain ⟨sp,hsp⟩:∃sp,isSp c=sp:=⟨_,rfl⟩
    rw [hsp] at HSP
    have HS:=yb hsp
    clear hsp
    cases sp
    ·by_cases h37:c=37
     ·have hx:c.toNat=37:=by rw [h37];rfl
      have HV2:=yb (HJ.out.trans (HPC.out h37))
      rw [hx] at hcj HSP
      have H37:=yb h37
      clear hx h37
      go_wp2_with (go_at_call 85;refine (HSP.out _).mono ?_;rintro e w' ⟨rfl,rfl⟩)
      clear hcj hj hji hjd hjm
      go_loop [1] (fun i=>∃m:Nat,i=.int .i64 m/\Hid (j<=m)/\Hid (V=skN bs true m))
       (fun i=>bs.length-(intOf i).toNat)
      case atStart=>exact ⟨j,rfl,yb (yp _),HV2⟩
      case round =>
       obtain ⟨m,rfl,HJM,HMM⟩:=hrel
       by_cases hm:m<bs.length
       ·have hcm:=HCC.out m hm
        unfold u8C at hcm
        have hmi:decide ((m:Int)<bs.length)=true:=by simp;exact hm
        have hmd:decide (m<bs.length)=true:=yd hm
        have hmm:m<=399999:=by have:=HN.out;omega
        have HME:=yb (show bs.length-(m+1)<bs.length-m by omega)
        by_cases hnl:bs.getD m 0=10\/bs.getD m 0=13
        ·have HV3:=yb (HMM.out.trans (skN_nl hm hnl))
         have HJM2:=yb (show bs.length-m<bs.length-j by
          have h1:=HJM.out
          have h2:=HJJ.out
          have h3:m≠j:=fun e=>by
           rw [e,HCJ.out,H37.out] at hnl
           rcases hnl with h|h<;>exact absurd h (by decide)
          omega)
         obtain ⟨x,hx⟩:∃x,(bs.getD m 0).toNat=x:=⟨_,rfl⟩
         rw [hx] at hcm
         have hxx:x=10\/x=13:=by rw [<-hx];rcases hnl with h|h<;>(rw [h];decide)
         clear hx hnl
         rcases hxx with rfl|rfl
         all_goals
          go_wp2
          go_round
          case rel=>exact ⟨m,rfl,HV3⟩
          case measure=>simpa [intOf] using HJM2.out
        ·have HV3:=yb (HMM.out.trans (skN_on hm (fun e=>hnl (.inl e)) (fun e=>hnl (.inr e))))
         have HJM2:=yb (show j<=m+1 from Nat.le_succ_of_le HJM.out)
         have e1:(((bs.getD m 0).toNat:Int)==10)=false:=by rw [yf];exact fun e=>hnl (.inl (UInt8.toNat_inj.1 (Int.ofNat_inj.1 e)))
         have e2:(((bs.getD m 0).toNat:Int)==13)=false:=by rw [yf];exact fun e=>hnl (.inr (UInt8.toNat_inj.1 (Int.ofNat_inj.1 e)))
         generalize (bs.getD m 0).toNat=x at *
         have e3:((x:Int) != 10)=true:=by simp only [bne,e1,yj]
         have e4:((x:Int) != 13)=true:=by simp only [bne,e2,yj]
         clear hnl
         go_wp2
         go_round
         case rel=>exact ⟨m+1,by go_num,HJM2,HV3⟩
         case measure=>simpa [intOf] using HME.out
       ·have hmi:decide ((m:Int)<bs.length)=false:=ye (by omega)
        have hmd:decide (m<bs.length)=false:=ye hm
        have HV3:=yb (HMM.out.trans ((zhb (b:=true) (by omega)).trans (zhb (b:=false) (Nat.le_of_not_lt hm)).symm))
        have HJM2:=yb (show bs.length-m<bs.length-j by have:=HJJ.out;omega)
        clear hm
        go_wp2
        go_round
        case rel=>exact ⟨m,rfl,HV3⟩
        case measure=>simpa [intOf] using HJM2.out
     ·have hx:((c.toNat:Int)==37)=false:=by rw [yf];exact fun e=>h37 (UInt8.toNat_inj.1 (Int.ofNat_inj.1 e))
      have hx2:((c.toNat:Int) != 37)=true:=by simp only [bne,hx,yj]
      have HV2:=yb (HJ.out.trans (HST.out h37 HS.out))
      clear h37
      generalize c.toNat=x at *
      go_wp2_with (go_at_call 85;refine (HSP.out _).mono ?_;rintro e w' ⟨rfl,rfl⟩)
      go_ret
      exact ⟨by rw [HV2.out];rfl,rfl⟩
    ·have h37:c≠37:=fun e=>by have:=HS.out;rw [e] at this;exact absurd this (by decide)
     have HV2:=yb (HJ.out.trans (HG.out false false (by rw [zbh,yh h37,yg HS.out])))
     clear h37
     generalize c.toNat=x at *
     go_wp2_with (go_at_call 85;refine (HSP.out _).mono ?_;rintro e w' ⟨rfl,rfl⟩)
     go_round
     case rel=>exact ⟨j+1,by go_num,HV2⟩
     case measure=>simpa [intOf] using HM.out
   ·have hji:decide ((j:Int)<bs.length)=false:=ye (by omega)
    have HV2:=yb (HJ.out.trans (zhb (by omega)))
    have hjd:decide (j<bs.length)=false:=ye hj
    clear hj HC
    go_wp2
    go_ret
    exact ⟨by rw [HV2.out];rfl,rfl⟩
theorem zaF {fn:Func} {t u v x:Tmp} (h:fn.results=#[.tmp t,.tmp u,.tmp v,.tmp x]) (tmps:Array Value) (P:Program) (w:World) :
  (results fn tmps).run P w=.ok (.tuple #[tmps.getD t undef,tmps.getD u undef,tmps.getD v undef,tmps.getD x undef]) w:=by
 simp [results,h]
def escR (yq:Bool) (k:Nat):Option (List UInt8×Nat)->Value
 | none=>.tuple #[.int .u8 0,.int .i64 0,.bool false,.int .i64 (za5 yq)]
 | some ([],m)=>.tuple #[.int .u8 0,.int .i64 ((k+m:Nat):Int),.bool false,.int .i64 0]
 | some (c::_,m)=>.tuple #[.int .u8 c.toNat,.int .i64 ((k+m:Nat):Int),.bool true,.int .i64 0]
def zdD (yq:Bool) (k:Nat) (V:Option (List UInt8×Nat)) (w:World) (e:Ending) (w':World):Prop:=e=.returned (escR yq k V)/\w=w'
theorem zd5 {V:Option (List UInt8×Nat)} {n:Int} (hV:V=some ([UInt8.ofNat N],j)) (hn:n=((k+j:Nat):Int)) (w:World) :
  zdD yq k V w (.returned (.tuple #[.int .u8 ((N:Int) % 256),.int .i64 n,.bool true,.int .i64 0])) w:=by
 subst hV;subst hn
 refine ⟨?_,rfl⟩
 rw [show (N:Int) % 256=((UInt8.ofNat N).toNat:Int) by rw [UInt8.toNat_ofNat'];omega];rfl
theorem zfo {V:Option (List UInt8×Nat)} (hV:V=none) (he:za5 yq=er) (w:World) :
  zdD yq k V w (.returned (.tuple #[.int .u8 0,.int .i64 0,.bool false,.int .i64 er])) w:=by
 subst hV;subst he;exact ⟨rfl,rfl⟩
theorem zdE {V:Option (List UInt8×Nat)} {n:Int} (hV:V=some ([],j)) (hn:n=((k+j:Nat):Int)) (w:World) :
  zdD yq k V w (.returned (.tuple #[.int .u8 0,.int .i64 n,.bool false,.int .i64 0])) w:=by
 subst hV;subst hn;exact ⟨rfl,rfl⟩
theorem zcS {V:Option (List UInt8×Nat)} {n:Int} (hV:V=some ([c],1)) (hx:x=c.toNat) (hn:n=((k+1:Nat):Int)) (w:World) :
  zdD yq k V w (.returned (.tuple #[.int .u8 x,.int .i64 n,.bool true,.int .i64 0])) w:=by
 subst hV;subst hx;subst hn;exact ⟨rfl,rfl⟩
theorem zau {d:UInt8} (h:c≠d) (n:Int) (hn:n=(d.toNat:Int)):((c.toNat:Int)==n)=false:=by
 rw [yf];subst hn;exact fun e=>h (UInt8.toNat_inj.1 (Int.ofNat_inj.1 e))
theorem zci {w:World} {b cap:Nat} {n:Nat} (k:Nat) (yq:Bool) (hk:k<n) (hn:n<=400000) (x y:UInt8) (V:Option (List UInt8×Nat))
  (hc:w.cell? ⟨b,off+k,none⟩=some (.int .u8 x.toNat)) (hV:V=some ([y],1))
  (hx:(x=110/\y=10)\/(x=114/\y=13)\/(x=116/\y=9)\/(x=98/\y=8)\/(x=102/\y=12)) :
  Calls Tryz.prog 164 #[.slice (some ⟨b,off,none⟩) n cap,.int .i64 k,.bool yq] w (zdD yq k V w):=by
 have HV:=yb hV
 have hkd:decide ((n:Int)<=k)=false:=ye (by omega)
 have hkn:decide (n<=k)=false:=ye (by omega)
 have hki:(k:Int)<n:=by omega
 clear hV
 rcases hx with ⟨rfl,rfl⟩|⟨rfl,rfl⟩|⟨rfl,rfl⟩|⟨rfl,rfl⟩|⟨rfl,rfl⟩
 ·rw [show ((110:UInt8).toNat:Int)=110 from rfl] at hc
  go_enter Tryz.func164,Tryz.ntmps164
  go_wp2
  (try simp only [Exit.inBlock,Exit.then]);refine yi (zaF rfl _ _ _) rfl ?_
  exact zcS HV.out rfl rfl _
 ·rw [show ((114:UInt8).toNat:Int)=114 from rfl] at hc
  go_enter Tryz.func164,Tryz.ntmps164
  go_wp2
  (try simp only [Exit.inBlock,Exit.then]);refine yi (zaF rfl _ _ _) rfl ?_
  exact zcS HV.out rfl rfl _
 ·rw [show ((116:UInt8).toNat:Int)=116 from rfl] at hc
  go_enter Tryz.func164,Tryz.ntmps164
  go_wp2
  (try simp only [Exit.inBlock,Exit.then]);refine yi (zaF rfl _ _ _) rfl ?_
  exact zcS HV.out rfl rfl _
 ·rw [show ((98:UInt8).toNat:Int)=98 from rfl] at hc
  go_enter Tryz.func164,Tryz.ntmps164
  go_wp2
  (try simp only [Exit.inBlock,Exit.then]);refine yi (zaF rfl _ _ _) rfl ?_
  exact zcS HV.out rfl rfl _
 ·rw [show ((102:UInt8).toNat:Int)=102 from rfl] at hc
  go_enter Tryz.func164,Tryz.ntmps164
  go_wp2
  (try simp only [Exit.inBlock,Exit.then]);refine yi (zaF rfl _ _ _) rfl ?_
  exact zcS HV.out rfl rfl _
theorem rescape_any {w:World} {a:Option Addr} {cap:Nat} {bs:List UInt8} (hr:Row w 1 a bs.length cap (bs.map u8C)) (hn:bs.length<=400000) (k:Nat) (yq:Bool) :
  Calls Tryz.prog 164 #[.slice a bs.length cap,.int .i64 k,.bool yq] w (zdD yq k (escV yq (bs.drop k)) w):=by
 obtain ⟨V,hV⟩:∃V,V=escV yq (bs.drop k):=⟨_,rfl⟩
 rw [<-hV]
 by_cases hk:k<bs.length
 case neg =>
  rw [zbb hk] at hV
  have HV:=yb (show V=none from hV)
  have hkd:decide ((bs.length:Int)<=k)=true:=yd (by omega)
  have hkn:decide (bs.length<=k)=true:=yd (by omega)
  clear hV hr hk
  go_enter Tryz.func164,Tryz.ntmps164
  go_wp2_with (go_at_call 163;refine (zg8 _ _).mono ?_;rintro e w' ⟨rfl,rfl⟩)
  (try simp only [Exit.inBlock,Exit.then]);refine yi (zaF rfl _ _ _) rfl ?_
  exact zfo HV.out rfl _
 obtain ⟨b,off,rfl,-,hc⟩:=hr.at 0 k hk
 unfold u8C at hc
 have hck:=hc k hk
 rw [zay hk] at hV
 obtain ⟨c,hcc⟩:∃c,bs.getD k 0=c:=⟨_,rfl⟩
 rw [hcc] at hck hV
 by_cases hl:c=110\/c=114\/c=116\/c=98\/c=102
 ·rcases hl with rfl|rfl|rfl|rfl|rfl
  ·exact zci k yq hk hn 110 10 V hck (hV.trans rfl) (by simp)
  ·exact zci k yq hk hn 114 13 V hck (hV.trans rfl) (by simp)
  ·exact zci k yq hk hn 116 9 V hck (hV.trans rfl) (by simp)
  ·exact zci k yq hk hn 98 8 V hck (hV.trans rfl) (by simp)
  ·exact zci k yq hk hn 102 12 V hck (hV.trans rfl) (by simp)
 have n1:c≠110:=fun e=>hl (by simp [e])
 have n2:c≠114:=fun e=>hl (by simp [e])
 have n3:c≠116:=fun e=>hl (by simp [e])
 have n4:c≠98:=fun e=>hl (by simp [e])
 have n5:c≠102:=fun e=>hl (by simp [e])
 rw [ze3 _ _ _ n1 n2 n3 n4 n5] at hV
 have e1:=zau n1 110 rfl
 have e2:=zau n2 114 rfl
 have e3:=zau n3 116 rfl
 have e4:=zau n4 98 rfl
 have e5:=zau n5 102 rfl
 have hkd:decide ((bs.length:Int)<=k)=false:=ye (by omega)
 have hkn:decide (bs.length<=k)=false:=ye (by omega)
 have hki:(k:Int)<bs.length:=by omega
 have hk1:k<=399999:=by omega
 have hk2:(k:Int)<=399999:=by omega
 clear hl n1 n2 n3 n4 n5 hr
 by_cases hoc:isOc c=true
 ·rw [yg hoc,octV_go,Option.map_map] at hV
  have hoc2:=zb6.1 hoc
  have e6:((c.toNat:Int)==10)=false:=by rw [yf];omega
  have e7:((c.toNat:Int)==13)=false:=by rw [yf];omega
  have d1:decide ((c.toNat:Int)<48)=false:=ye (by omega)
  have d2:decide ((55:Int)<c.toNat)=false:=ye (by omega)
  have HG:=yb (show V=(zcC yq 3 0 (bs.drop (k+0))).map fun x=>([UInt8.ofNat x.1],0+x.2) by
   rw [hV,show bs.drop (k+0)=c::bs.drop (k+1) by rw [Nat.add_zero,zay hk,hcc],zcC,yg hoc,Option.map_map]
   congr 1
   ·funext x;simp [Function.comp]
   ·rw [show 8*0+(c.toNat-48)=c.toNat-48 from by omega])
  have HC:=yb hc
  clear hV hoc hoc2 hcc hc
  generalize c.toNat=x at *
  go_enter Tryz.func164,Tryz.ntmps164
  go_wp2
  clear hck e1 e2 e3 e4 e5 e6 e7 d1 d2 hkd
  go_loop [11,12] (fun n i=>∃(j N:Nat),j<=3/\n=.int .i64 N/\i=.int .i64 j/\N+1<=8 ^ j/\Hid (V=(zcC yq (3-j) N (bs.drop (k+j))).map fun x=>([UInt8.ofNat x.1],j+x.2))) (fun _ i=>3-(intOf i).toNat)
  case atStart=>exact ⟨0,0,by omega,by go_num,by go_num,by omega,HG⟩
  case round =>
   obtain ⟨j,N,hj,rfl,rfl,hN,HJ⟩:=hrel
   have hN5:N<=511:=by
    have:j=0\/j=1\/j=2\/j=3:=by omega
    rcases this with rfl|rfl|rfl|rfl<;>omega
   by_cases hj3:j<3
   ·have hjd:decide ((j:Int)<3)=true:=yd (by omega)
    obtain ⟨m,hm⟩:∃m,3-j=m+1:=⟨2-j,by omega⟩
    have hg:=HJ.out
    rw [hm] at hg
    by_cases hin:k+j<bs.length
    ·have hcj:=HC.out (k+j) hin
     rw [zay hin,zcC] at hg
     have hid1:decide ((k:Int)+j<bs.length)=true:=yd (by omega)
     have hii:(k:Int)+j<bs.length:=by omega
     have hge:decide ((bs.length:Int)<=(k:Int)+j)=false:=ye (by omega)
     by_cases hd:isOc (bs.getD (k+j) 0)=true
     ·have hd2:=zb6.1 hd
      rw [yg hd,Option.map_map] at hg
      have d1:decide ((48:Int)<=(bs.getD (k+j) 0).toNat)=true:=yd (by omega)
      have d2:decide (((bs.getD (k+j) 0).toNat:Int)<=55)=true:=yd (by omega)
      have HG2:=yb (show V=(zcC yq (3-(j+1)) (8*N+((bs.getD (k+j) 0).toNat-48)) (bs.drop (k+(j+1)))).map fun x=>([UInt8.ofNat x.1],(j+1)+x.2) by
       rw [hg,show 3-(j+1)=m from by omega]
       congr 1
       funext x
       simp only [Function.comp]
       rw [show j+(x.2+1)=j+1+x.2 from by omega])
      have HB:=yb (show 8*N+((bs.getD (k+j) 0).toNat-48)+1<=8 ^ (j+1) by rw [Nat.pow_succ];omega)
      have HE:=yb (show 8*(N:Int)+((bs.getD (k+j) 0).toNat:Int)-48=((8*N+((bs.getD (k+j) 0).toNat-48):Nat):Int) by omega)
      have HJ3:=yb hj3
      clear hg hm hd HJ
      generalize (bs.getD (k+j) 0).toNat=y at *
      go_wp2
      go_round
      case rel=>exact ⟨j+1,8*N+(y-48),HJ3.out,by rw [<-HE.out],by go_num,HB.out,HG2⟩
      case measure=>have:=HJ3.out;simp [intOf];omega
     ·rw [yh hd,Option.map_some] at hg
      have HG2:=yb (show V=some ([UInt8.ofNat N],j) from hg)
      have hd2:¬(48<=(bs.getD (k+j) 0).toNat/\(bs.getD (k+j) 0).toNat<=55):=fun e=>hd (zb6.2 e)
      clear hg hm hd HJ
      generalize (bs.getD (k+j) 0).toNat=y at *
      by_cases hy:(48:Int)<=y
      ·have d1:decide ((48:Int)<=y)=true:=yd hy
       have d2:decide ((y:Int)<=55)=false:=ye (by omega)
       clear hd2
       go_wp2
       (try simp only [Exit.inBlock,Exit.then]);refine yi (zaF rfl _ _ _) rfl ?_
       exact zd5 HG2.out rfl _
      ·have d1:decide ((48:Int)<=y)=false:=ye hy
       clear hd2 hy
       go_wp2
       (try simp only [Exit.inBlock,Exit.then]);refine yi (zaF rfl _ _ _) rfl ?_
       exact zd5 HG2.out rfl _
    ·rw [zbb hin,zcC] at hg
     have hid1:decide ((k:Int)+j<bs.length)=false:=ye (by omega)
     have hge:decide ((bs.length:Int)<=(k:Int)+j)=true:=yd (by omega)
     have HG2:=yb hg
     clear hg hm HJ hin
     cases yq
     ·go_wp2
      (try simp only [Exit.inBlock,Exit.then]);refine yi (zaF rfl _ _ _) rfl ?_
      exact zfo HG2.out rfl _
     ·go_wp2
      (try simp only [Exit.inBlock,Exit.then]);refine yi (zaF rfl _ _ _) rfl ?_
      exact zd5 HG2.out rfl _
   ·obtain rfl:j=3:=by omega
    have hg:=HJ.out
    rw [Nat.sub_self,zcC,Option.map_some] at hg
    have HG2:=yb (show V=some ([UInt8.ofNat N],3) from hg)
    clear hg HJ
    go_wp2
    (try simp only [Exit.inBlock,Exit.then]);refine yi (zaF rfl _ _ _) rfl ?_
    exact zd5 HG2.out rfl _
 ·rw [yh hoc] at hV
  by_cases h10:c=10
  ·subst h10
   have HV:=yb (show V=some ([],1) from hV)
   clear hV hc hcc hoc
   go_enter Tryz.func164,Tryz.ntmps164
   go_wp2
   (try simp only [Exit.inBlock,Exit.then]);refine yi (zaF rfl _ _ _) rfl ?_
   exact zdE HV.out rfl _
  ·rw [yh h10] at hV
   have e6:=zau h10 10 rfl
   by_cases h13:c=13
   ·subst h13
    rw [yg rfl] at hV
    by_cases hk3:k+1<bs.length
    ·rw [zay hk3] at hV
     have hc1:=hc (k+1) hk3
     have hid1:decide ((bs.length:Int)<=(k:Int)+1)=false:=ye (by omega)
     have hid2:decide ((k:Int)+1<bs.length)=true:=yd (by omega)
     have hii:(k:Int)+1<bs.length:=by omega
     clear hc hcc hoc h10
     by_cases hd:bs.getD (k+1) 0=10
     ·have HV:=yb (show V=some ([],2) by rw [hV,hd];rfl)
      rw [hd] at hc1
      rw [show ((10:UInt8).toNat:Int)=10 from rfl] at hc1
      clear hV hd
      go_enter Tryz.func164,Tryz.ntmps164
      go_wp2
      (try simp only [Exit.inBlock,Exit.then]);refine yi (zaF rfl _ _ _) rfl ?_
      exact zdE HV.out rfl _
     ·have HV:=yb (show V=some ([],1) by rw [hV];show (some (if bs.getD (k+1) 0=10 then 1 else 0)).map _=_;rw [yh hd];rfl)
      have e8:=zau hd 10 rfl
      clear hV hd
      generalize (bs.getD (k+1) 0).toNat=y at *
      go_enter Tryz.func164,Tryz.ntmps164
      go_wp2
      (try simp only [Exit.inBlock,Exit.then]);refine yi (zaF rfl _ _ _) rfl ?_
      exact zdE HV.out rfl _
    ·rw [zbb hk3] at hV
     have hid1:decide ((bs.length:Int)<=(k:Int)+1)=true:=yd (by omega)
     have hid2:decide ((k:Int)+1<bs.length)=false:=ye (by omega)
     have HV:=yb hV
     clear hV hc hcc hoc h10 hk3
     cases yq
     ·go_enter Tryz.func164,Tryz.ntmps164
      go_wp2
      (try simp only [Exit.inBlock,Exit.then]);refine yi (zaF rfl _ _ _) rfl ?_
      exact zfo HV.out rfl _
     ·go_enter Tryz.func164,Tryz.ntmps164
      go_wp2
      (try simp only [Exit.inBlock,Exit.then]);refine yi (zaF rfl _ _ _) rfl ?_
      exact zdE HV.out rfl _
   ·rw [yh h13] at hV
    have e7:=zau h13 13 rfl
    have HV:=yb hV
    have hd2:¬(48<=c.toNat/\c.toNat<=55):=fun e=>hoc (zb6.2 e)
    clear hV hoc h10 h13 hcc hc
    by_cases hy:(c.toNat:Int)<48
    ·have d1:decide ((c.toNat:Int)<48)=true:=yd hy
     clear hd2 hy
     obtain ⟨x,hx⟩:∃x,x=c.toNat:=⟨_,rfl⟩
     rw [<-hx] at hck e1 e2 e3 e4 e5 e6 e7 d1
     have HX:=yb hx
     clear hx
     go_enter Tryz.func164,Tryz.ntmps164
     go_wp2
     (try simp only [Exit.inBlock,Exit.then]);refine yi (zaF rfl _ _ _) rfl ?_
     exact zcS HV.out (by rw [HX.out]) rfl _
    ·have d1:decide ((c.toNat:Int)<48)=false:=ye hy
     have d2:decide ((55:Int)<c.toNat)=true:=yd (by omega)
     clear hd2 hy
     obtain ⟨x,hx⟩:∃x,x=c.toNat:=⟨_,rfl⟩
     rw [<-hx] at hck e1 e2 e3 e4 e5 e6 e7 d1 d2
     have HX:=yb hx
     clear hx
     go_enter Tryz.func164,Tryz.ntmps164
     go_wp2
     (try simp only [Exit.inBlock,Exit.then]);refine yi (zaF rfl _ _ _) rfl ?_
     exact zcS HV.out (by rw [HX.out]) rfl _
theorem octV_bd {t:List UInt8} {x:Nat×Nat} (h:octV yq c t=some x):1<=x.2/\x.2<=t.length+1:=by
 rcases t with _|⟨d,_|⟨e,t⟩⟩
 ·cases yq<;>simp [octV] at h
  subst h;simp
 ·by_cases hd:isOc d=true
  ·cases yq<;>simp [octV,hd] at h
   subst h;simp
  ·simp [octV,hd] at h
   subst h;simp
 ·by_cases hd:isOc d=true
  ·by_cases he:isOc e=true
   ·simp [octV,hd,he] at h
    subst h;simp
   ·simp [octV,hd,he] at h
    subst h;simp
  ·simp [octV,hd] at h
   subst h;simp
theorem escV_bd {t:List UInt8} {x:List UInt8} (h:escV yq t=some (x,m)):x.length<=1/\1<=m/\m<=t.length:=by
 cases t with
 | nil=>simp [escV] at h
 | cons c t =>
  unfold escV at h
  simp only [List.length_cons] at h |-
  by_cases h1:c=110
  ·rw [yg h1] at h;cases h;simp
  rw [yh h1] at h
  by_cases h2:c=114
  ·rw [yg h2] at h;cases h;simp
  rw [yh h2] at h
  by_cases h3:c=116
  ·rw [yg h3] at h;cases h;simp
  rw [yh h3] at h
  by_cases h4:c=98
  ·rw [yg h4] at h;cases h;simp
  rw [yh h4] at h
  by_cases h5:c=102
  ·rw [yg h5] at h;cases h;simp
  rw [yh h5] at h
  by_cases h6:isOc c=true
  ·rw [yg h6] at h
   obtain ⟨y,hy,hx⟩:=Option.map_eq_some_iff.1 h
   cases hx
   obtain ⟨g1,g2⟩:=octV_bd hy
   exact ⟨by simp,g1,g2⟩
  rw [yh h6] at h
  by_cases h7:c=10
  ·rw [yg h7] at h;cases h;simp
  rw [yh h7] at h
  by_cases h8:c=13
  ·rw [yg h8] at h
   obtain ⟨y,hy,hx⟩:=Option.map_eq_some_iff.1 h
   cases hx
   refine ⟨by simp,by omega,?_⟩
   cases t with
   | nil=>cases yq<;>simp [zd7] at hy;subst hy;simp
   | cons d t=>simp only [zd7,Option.some.injEq] at hy;subst hy;simp only [List.length_cons];split<;>omega
  rw [yh h8] at h
  cases h;simp
def zgQ (bs:List UInt8) (yq:Bool) (V:Option (List UInt8×List UInt8)) (w:World) (e:Ending) (w':World):Prop :=
 Below w.heap.size w w'/\match V with
 | none=>e=.returned (.tuple #[.slice none 0 0,.int .i64 0,.int .i64 (za5 yq)])
 | some (x,r)=>∃v,e=.returned (.tuple #[v,.int .i64 ((bs.length-r.length:Nat):Int),.int .i64 0])/\w'.ownsRow w.heap.size 5 1 v x.length (x.map u8C)/\r.length<=bs.length
theorem zfQ {bs:List UInt8} {V:Option (List UInt8×List UInt8)} {w:World} (hV:V=none) (he:za5 yq=er) (hb:Below w.heap.size w w'):zgQ bs yq V w (.returned (.tuple #[.slice none 0 0,.int .i64 0,.int .i64 er])) w':=by
 subst hV;subst he;exact ⟨hb,rfl⟩
theorem txtR_some {bs:List UInt8} {V:Option (List UInt8×List UInt8)} {w:World} {v:Value} {o:List UInt8} {n:Int} (hV:V=some (o,bs.drop j)) (hj:j<=bs.length) (hn:n=(j:Int)) (hO:w'.ownsRow w.heap.size 5 1 v o.length (o.map u8C)) (hb:Below w.heap.size w w') :
  zgQ bs yq V w (.returned (.tuple #[v,.int .i64 n,.int .i64 0])) w':=by
 subst hV;subst hn
 refine ⟨hb,v,?_,hO,by simp⟩
 rw [ym,show bs.length-(bs.length-j)=j from by omega]
theorem zcc {w wr w5:World} {v:Value} {o:List UInt8} (c:UInt8) (O:Obj) (hB:Below B w wr) (hBw:B<=wr.heap.size) (hO:wr.ownsRow B 5 1 v o.length (o.map u8C)) {x:Value} (hx:x=u8C c) (hO5:w5.ownsRow B 5 1 v' (o.length+1) (o.map u8C++[x])) (hg5:(wr.alloc O).grownBy w5 v.ownBlock) :
  w5.ownsRow B 5 1 v' (o++[c]).length ((o++[c]).map u8C)/\Below B w w5:=by
 subst hx
 exact ⟨by simpa using hO5,(hB.alloc hBw _).grown hg5 (by rw [zan];omega) (fun q hq=>(hO.lt q hq).1)⟩
theorem rtext_any {w:World} {a:Option Addr} {cap:Nat} {bs:List UInt8} (hr:Row w 1 a bs.length cap (bs.map u8C)) (hn:bs.length<=400000) (k:Nat) (hk:k<=bs.length) (yq:Bool) :
  Calls Tryz.prog 124 #[.slice a bs.length cap,.int .i64 k,.bool yq] w (zgQ bs yq (zbd yq 1 [] (bs.drop k)) w):=by
 obtain ⟨V,hV⟩:∃V,V=zbd yq 1 [] (bs.drop k):=⟨_,rfl⟩
 rw [<-hV]
 have HV:=yb hV
 have HC:=yb (fun (W:World) (h:Below w.heap.size w W) j (hj:j<bs.length)=>(hr.mono h).at 0 j hj)
 have HE:=yb (fun (W:World) (h:Below w.heap.size w W) j=>rescape_any (hr.mono h) hn j yq)
 have HK:=yb hk
 clear hV hr hk
 go_enter Tryz.func124,Tryz.ntmps124
 go_wp2
 go_loopw [1,9,10] (fun i v d wr=>∃(j D:Nat) (o:List UInt8),j<=bs.length/\i=.int .i64 j/\d=.int .i64 D/\1<=D/\D<=j+1/\o.length<=j/\Hid (wr.ownsRow w.heap.size 5 1 v o.length (o.map u8C))/\Hid (Below w.heap.size w wr)/\Hid (V=zbd yq D o (bs.drop j))) (fun i _ _ _=>bs.length-(intOf i).toNat)
 case atStart=>exact ⟨k,1,[],HK.out,rfl,by go_num,by omega,by omega,by simp,yb (World.ownsRow_nil _ _ _ _),yb (Below.refl _ _),HV⟩
 case round =>
  obtain ⟨j,D,o,hj,rfl,rfl,hD,hDj,hoj,HO,HB,HG⟩:=hrel
  have hsz:=HB.out.size
  by_cases hlt:j<bs.length
  ·obtain ⟨b0,off,ha,-,hc⟩:=HC.out wr HB.out j hlt
   unfold u8C at hc
   have hcj:=hc j hlt
   have HCC:=yb hc
   have hji:decide ((j:Int)<bs.length)=true:=yd (by omega)
   have hjl:(j:Int)<bs.length:=by omega
   have hg:=HG.out
   rw [zay hlt] at hg
   have HCE:=yb (HE.out wr HB.out (j+1))
   subst ha
   obtain ⟨c,hcc⟩:∃c,bs.getD j 0=c:=⟨_,rfl⟩
   rw [hcc] at hcj hg
   clear hc hcc
   by_cases h92:c=92
   ·subst h92
    rw [textV_esc] at hg
    obtain ⟨E,hE⟩:∃E,escV yq (bs.drop (j+1))=E:=⟨_,rfl⟩
    rw [hE] at hg HCE
    have hbd:=fun x m h=>escV_bd (yq:=yq) (t:=bs.drop (j+1)) (x:=x) (m:=m) (hE.trans h)
    rw [ym] at hbd
    have HBD:=yb hbd
    clear hE hbd
    unfold zdD at HCE
    cases E with
    | none =>
     have HG2:=yb (show V=none from hg)
     have HCE2:=yb (show Calls Tryz.prog 164 #[.slice (some ⟨b0,off,none⟩) bs.length cap,.int .i64 ((j:Int)+1),.bool yq] wr fun e w'=>e=.returned (.tuple #[.int .u8 0,.int .i64 0,.bool false,.int .i64 (za5 yq)])/\wr=w' from HCE.out)
     have ho1:(za5 yq != 0)=true:=by cases yq<;>rfl
     have HQ:=yb (show za5 yq=za5 yq from rfl)
     clear hg HCE
     generalize hOE:za5 yq=oe at *
     have HOE:=yb hOE
     clear hOE
     go_wp2_with fail
     refine HCE2.out.mono ?_
     rintro e w2 ⟨rfl,rfl⟩
     go_wp2
     go_ret3
     exact zfQ HG2.out HOE.out HB.out
    | some y =>
     obtain ⟨x,m⟩:=y
     obtain ⟨hx1,hm1,hm2⟩:=HBD.out x m rfl
     have hg3:V=zbd yq D (o++x) ((bs.drop (j+1)).drop m):=hg
     rw [List.drop_drop] at hg3
     clear hg
     rcases x with _|⟨z,_|⟨z2,zs⟩⟩
     ·have HCE2:=yb (show Calls Tryz.prog 164 #[.slice (some ⟨b0,off,none⟩) bs.length cap,.int .i64 ((j:Int)+1),.bool yq] wr fun e w'=>e=.returned (.tuple #[.int .u8 0,.int .i64 ((j+1+m:Nat):Int),.bool false,.int .i64 0])/\wr=w' from HCE.out)
      rw [List.append_nil] at hg3
      have HG3:=yb hg3
      clear hg3 HCE
      go_wp2_with fail
      refine HCE2.out.mono ?_
      rintro e w2 ⟨rfl,rfl⟩
      go_wp2
      go_roundw
      case rel=>exact ⟨j+1+m,D,o,by omega,by go_num,rfl,hD,by omega,by omega,HO,HB,HG3⟩
      case measure=>simp [intOf];omega
     ·have HCE2:=yb (show Calls Tryz.prog 164 #[.slice (some ⟨b0,off,none⟩) bs.length cap,.int .i64 ((j:Int)+1),.bool yq] wr fun e w'=>e=.returned (.tuple #[.int .u8 z.toNat,.int .i64 ((j+1+m:Nat):Int),.bool true,.int .i64 0])/\wr=w' from HCE.out)
      have HG3:=yb hg3
      clear hg3 HCE
      go_wp2_with fail
      refine HCE2.out.mono ?_
      rintro e w2 ⟨rfl,rfl⟩
      go_wp2_with (at_builtin;refine zav zcz rfl (.tmp 41) (.tmp 43) rfl w.heap.size _ o.length _ rfl (HO.out.alloc _) _ 1 _ _ rfl (zbq _ _ _) (zbO rfl) (by unfold maxLen;omega) (by omega) (by rw [zan];omega) ?_;intro v' w5 hO5 hg5 hnil5;have HP5:=yb (zcc z _ HB.out hsz HO.out rfl hO5 hg5);clear hO5 hg5 hnil5)
      go_roundw
      case rel=>exact ⟨j+1+m,D,o++[z],by omega,by go_num,rfl,hD,by omega,by simp;omega,yb HP5.out.1,yb HP5.out.2,HG3⟩
      case measure=>simp [intOf];omega
     ·simp at hx1
   ·have e92:=zau h92 92 rfl
    by_cases h13:c=13
    ·subst h13
     rw [textV_nl] at hg
     by_cases hj1:j+1<bs.length
     ·have hc1:=HCC.out (j+1) hj1
      rw [zay hj1] at hg
      have d1:decide ((bs.length:Int)<=(j:Int)+1)=false:=ye (by omega)
      have d2:decide ((j:Int)+1<bs.length)=true:=yd (by omega)
      have hjl1:(j:Int)+1<bs.length:=by omega
      by_cases h10:bs.getD (j+1) 0=10
      ·have hg3:V=zbd yq D (o++[10]) (bs.drop (j+1+1)):=by
        rw [hg,h10]
        simp [zd7]
       rw [h10,show ((10:UInt8).toNat:Int)=10 from rfl] at hc1
       have HG3:=yb hg3
       clear hg hg3 h10 h92
       go_wp2_with (at_builtin;refine zav zcz rfl (.tmp 89) (.tmp 91) rfl w.heap.size _ o.length _ rfl (HO.out.alloc _) _ 1 _ _ rfl (zbq _ _ _) (zbO rfl) (by unfold maxLen;omega) (by omega) (by rw [zan];omega) ?_;intro v' w5 hO5 hg5 hnil5;have HP5:=yb (zcc 10 _ HB.out hsz HO.out rfl hO5 hg5);clear hO5 hg5 hnil5)
       go_roundw
       case rel=>exact ⟨j+1+1,D,o++[10],by omega,by go_num,rfl,hD,by omega,by simp;omega,yb HP5.out.1,yb HP5.out.2,HG3⟩
       case measure=>simp [intOf];omega
      ·have hg3:V=zbd yq D (o++[10]) (bs.drop (j+1)):=by
        rw [hg,zay hj1]
        show zbd yq D (o++[10]) ((bs.getD (j+1) 0::bs.drop (j+1+1)).drop (if bs.getD (j+1) 0=10 then 1 else 0))=_
        rw [yh h10];rfl
       have e10:=zau h10 10 rfl
       have HG3:=yb hg3
       clear hg hg3 h10 h92
       generalize (bs.getD (j+1) 0).toNat=y at *
       go_wp2_with (at_builtin;refine zav zcz rfl (.tmp 89) (.tmp 91) rfl w.heap.size _ o.length _ rfl (HO.out.alloc _) _ 1 _ _ rfl (zbq _ _ _) (zbO rfl) (by unfold maxLen;omega) (by omega) (by rw [zan];omega) ?_;intro v' w5 hO5 hg5 hnil5;have HP5:=yb (zcc 10 _ HB.out hsz HO.out rfl hO5 hg5);clear hO5 hg5 hnil5)
       go_roundw
       case rel=>exact ⟨j+1,D,o++[10],by omega,by go_num,rfl,hD,by omega,by simp;omega,yb HP5.out.1,yb HP5.out.2,HG3⟩
       case measure=>simp [intOf];omega
     ·rw [zbb hj1] at hg
      have d1:decide ((bs.length:Int)<=(j:Int)+1)=true:=yd (by omega)
      have d2:decide ((j:Int)+1<bs.length)=false:=ye (by omega)
      clear h92
      cases yq
      ·have HG3:=yb (show V=none from hg)
       clear hg
       go_wp2
       go_ret3
       exact zfQ HG3.out rfl HB.out
      ·have HG3:=yb (show V=zbd true D (o++[10]) (bs.drop (j+1)) by rw [hg,zbb hj1];rfl)
       clear hg
       go_wp2_with (at_builtin;refine zav zcz rfl (.tmp 89) (.tmp 91) rfl w.heap.size _ o.length _ rfl (HO.out.alloc _) _ 1 _ _ rfl (zbq _ _ _) (zbO rfl) (by unfold maxLen;omega) (by omega) (by rw [zan];omega) ?_;intro v' w5 hO5 hg5 hnil5;have HP5:=yb (zcc 10 _ HB.out hsz HO.out rfl hO5 hg5);clear hO5 hg5 hnil5)
       go_roundw
       case rel=>exact ⟨j+1,D,o++[10],by omega,by go_num,rfl,hD,by omega,by simp;omega,yb HP5.out.1,yb HP5.out.2,HG3⟩
       case measure=>simp [intOf];omega
    ·have e13:=zau h13 13 rfl
     by_cases h40:c=40
     ·subst h40
      rw [textV_in] at hg
      have HG3:=yb hg
      clear hg h92 h13
      go_wp2_with (at_builtin;refine zav zcz rfl (.tmp 89) (.tmp 91) rfl w.heap.size _ o.length _ rfl (HO.out.alloc _) _ 1 _ _ rfl (zbq _ _ _) (zbO rfl) (by unfold maxLen;omega) (by omega) (by rw [zan];omega) ?_;intro v' w5 hO5 hg5 hnil5;have HP5:=yb (zcc 40 _ HB.out hsz HO.out rfl hO5 hg5);clear hO5 hg5 hnil5)
      go_roundw
      case rel=>exact ⟨j+1,D+1,o++[40],by omega,by go_num,by go_num,by omega,by omega,by simp;omega,yb HP5.out.1,yb HP5.out.2,HG3⟩
      case measure=>simp [intOf];omega
     ·have e40:=zau h40 40 rfl
      by_cases h41:c=41
      ·subst h41
       rw [textV_out] at hg
       by_cases hD1:D=1
       ·subst hD1
        rw [yg rfl] at hg
        have HG3:=yb hg
        clear hg h92 h13 h40
        go_wp2
        go_ret3
        exact txtR_some HG3.out hlt rfl HO.out HB.out
       ·rw [yh hD1] at hg
        have dD:(((D:Int)-1)==0)=false:=by rw [yf];omega
        have HG3:=yb hg
        have HD:=yb hD1
        clear hg h92 h13 h40 hD1
        go_wp2_with (at_builtin;refine zav zcz rfl (.tmp 89) (.tmp 91) rfl w.heap.size _ o.length _ rfl (HO.out.alloc _) _ 1 _ _ rfl (zbq _ _ _) (zbO rfl) (by unfold maxLen;omega) (by omega) (by rw [zan];omega) ?_;intro v' w5 hO5 hg5 hnil5;have HP5:=yb (zcc 41 _ HB.out hsz HO.out rfl hO5 hg5);clear hO5 hg5 hnil5)
        go_roundw
        case rel=>exact ⟨j+1,D-1,o++[41],by omega,by go_num,by go_num,by have:=HD.out;omega,by omega,by simp;omega,yb HP5.out.1,yb HP5.out.2,HG3⟩
        case measure=>simp [intOf];omega
      ·have e41:=zau h41 41 rfl
       rw [zgl _ _ _ _ _ h92 h13 h40 h41] at hg
       have HG3:=yb hg
       have dD:((D:Int)==0)=false:=by rw [yf];omega
       clear hg h92 h13 h40 h41
       obtain ⟨x,hx⟩:∃x,c.toNat=x:=⟨_,rfl⟩
       rw [hx] at hcj e92 e13 e40 e41
       have HX:=yb (show Value.int .u8 (x:Int)=u8C c by rw [<-hx];rfl)
       clear hx
       go_wp2_with (at_builtin;refine zav zcz rfl (.tmp 89) (.tmp 91) rfl w.heap.size _ o.length _ rfl (HO.out.alloc _) _ 1 _ _ rfl (zbq _ _ _) (zbO rfl) (by unfold maxLen;omega) (by omega) (by rw [zan];omega) ?_;intro v' w5 hO5 hg5 hnil5;have HP5:=yb (zcc c _ HB.out hsz HO.out HX.out hO5 hg5);clear hO5 hg5 hnil5)
       go_roundw
       case rel=>exact ⟨j+1,D,o++[c],by omega,by go_num,rfl,hD,by omega,by simp;omega,yb HP5.out.1,yb HP5.out.2,HG3⟩
       case measure=>simp [intOf];omega
  ·obtain rfl:j=bs.length:=by omega
   have hg:=HG.out
   rw [List.drop_length,textV_nil] at hg
   have HG2:=yb hg
   have hji:decide ((bs.length:Int)<bs.length)=false:=ye (by omega)
   clear hg
   go_wp2_with (go_at_call 163;refine (zg8 _ _).mono ?_;rintro e w' ⟨rfl,rfl⟩)
   go_ret3
   exact zfQ HG2.out rfl HB.out
def pk:List Int->List UInt8
 | a::b::t=>UInt8.ofNat (16*a+b).toNat::pk t
 | _=>[]
theorem zfy:∀(n:Nat) (l m:List Int),l.length=2*n->pk (l++m)=pk l++pk m
 | 0,l,m,h=>by
  obtain rfl:l=[]:=List.eq_nil_of_length_eq_zero (by omega)
  rfl
 | n+1,l,m,h=>by
  rcases l with _|⟨a,_|⟨b,t⟩⟩
  ·simp at h
  ·simp at h;omega
  ·simp only [List.cons_append,pk]
   rw [zfy n t m (by simp at h;omega)]
structure DgP (ds:List Int) (out:List UInt8) (half:Int):Prop where
 bd:∀d∈ds,0<=d/\d<=15
 form:∃ps:List Int,ps.length=2*out.length/\pk ps=out/\((half=-1/\ds=ps)\/(0<=half/\ds=ps++[half]))
theorem DgP.nil:DgP [] [] (-1):=⟨fun d h=>(by cases h),[],rfl,rfl,.inl ⟨rfl,rfl⟩⟩
theorem DgP.put {out:List UInt8} {half:Int} (h:DgP ds out half) {d:Int} (h0:0<=d) (h1:d<=15):(half<0->DgP (ds++[d]) out d)/\(0<=half->DgP (ds++[d]) (out++[UInt8.ofNat (16*half+d).toNat]) (-1)):=by
 obtain ⟨hb,ps,hl,hp,hf⟩:=h
 have hb2:∀x∈ds++[d],0<=x/\x<=15:=fun x hx=>by
  rcases List.mem_append.1 hx with h|h
  ·exact hb x h
  ·simp at h;subst h;exact ⟨h0,h1⟩
 refine ⟨fun hn=>⟨hb2,ps,hl,hp,.inr ⟨h0,?_⟩⟩,fun hn=>⟨hb2,ds++[d],?_,?_,.inl ⟨rfl,rfl⟩⟩⟩
 ·rcases hf with ⟨_,rfl⟩|⟨h,_⟩
  ·rfl
  ·omega
 ·rcases hf with ⟨h,_⟩|⟨h,rfl⟩
  ·omega
  ·simp;omega
 ·rcases hf with ⟨h,_⟩|⟨h,rfl⟩
  ·omega
  ·rw [List.append_assoc,zfy _ _ _ hl,hp];rfl
theorem DgP.odd {out:List UInt8} {half:Int} (h:DgP ds out half):((ds.length:Int) % 2=1↔0<=half)/\(half<0->pk ds=out/\ds.length=2*out.length)/\(0<=half->pk (ds++[0])=out++[UInt8.ofNat (16*half).toNat]/\(ds++[0]).length=2*(out++[UInt8.ofNat (16*half).toNat]).length):=by
 obtain ⟨hb,ps,hl,hp,hf⟩:=h
 rcases hf with ⟨h,rfl⟩|⟨h,rfl⟩
 ·exact ⟨by omega,fun _=>⟨hp,hl⟩,fun h=>by omega⟩
 ·refine ⟨by simp;omega,fun h=>by omega,fun _=>⟨?_,by simp;omega⟩⟩
  rw [List.append_assoc,zfy _ _ _ hl,hp]
  simp [pk]
theorem pk_get:∀(m:Nat) (ds:List Int),2*m+1<ds.length->(pk ds)[m]?=some (UInt8.ofNat (16*ds.getD (2*m) 0+ds.getD (2*m+1) 0).toNat)
 | 0,ds,h=>by
  rcases ds with _|⟨a,_|⟨b,t⟩⟩
  ·simp at h
  ·simp at h
  ·simp [pk]
 | m+1,ds,h=>by
  rcases ds with _|⟨a,_|⟨b,t⟩⟩
  ·simp at h
  ·simp at h
  ·simp only [pk,List.getElem?_cons_succ]
   rw [pk_get m t (by simp at h;omega)]
   simp [List.getD,show 2*(m+1)=2*m+1+1 from by omega]
theorem take_next {X:List UInt8} (h:X[m]?=some c):X.take (m+1)=X.take m++[c]:=by
 have hm:m<X.length:=(List.getElem?_eq_some_iff.1 h).1
 rw [List.take_succ_eq_append_getElem hm,(List.getElem?_eq_some_iff.1 h).2]
def zc1 (bs:List UInt8) (yq:Bool) (V:Int×List UInt8×List UInt8) (w:World) (e:Ending) (w':World):Prop :=
 Below w.heap.size w w'/\((V.1=1/\e=.returned (.tuple #[.slice none 0 0,.int .i64 0,.int .i64 (za5 yq)]))\/(V.1=11/\e=.returned (.tuple #[.slice none 0 0,.int .i64 0,.int .i64 11])) \/
  (V.1=0/\∃v,e=.returned (.tuple #[v,.int .i64 ((bs.length-V.2.2.length:Nat):Int),.int .i64 0])/\w'.ownsRow w.heap.size 5 1 v V.2.1.length (V.2.1.map u8C)/\V.2.2.length<=bs.length))
theorem hexR_open {bs:List UInt8} {V:Int×List UInt8×List UInt8} {w:World} (hV:V=(1,[],[])) (hb:Below w.heap.size w w'):zc1 bs yq V w (.returned (.tuple #[.slice none 0 0,.int .i64 0,.int .i64 (za5 yq)])) w':=by
 subst hV;exact ⟨hb,.inl ⟨rfl,rfl⟩⟩
theorem hexR_form {bs:List UInt8} {V:Int×List UInt8×List UInt8} {w:World} (hV:V=(11,[],[])) (hb:Below w.heap.size w w'):zc1 bs yq V w (.returned (.tuple #[.slice none 0 0,.int .i64 0,.int .i64 11])) w':=by
 subst hV;exact ⟨hb,.inr (.inl ⟨rfl,rfl⟩)⟩
theorem hexR_some {bs:List UInt8} {V:Int×List UInt8×List UInt8} {w:World} {v:Value} {o:List UInt8} {n:Int} (hV:V=(0,o,bs.drop j)) (hj:j<=bs.length) (hn:n=(j:Int)) (hO:w'.ownsRow w.heap.size 5 1 v o.length (o.map u8C)) (hb:Below w.heap.size w w') :
  zc1 bs yq V w (.returned (.tuple #[v,.int .i64 n,.int .i64 0])) w':=by
 subst hV;subst hn
 refine ⟨hb,.inr (.inr ⟨rfl,v,?_,hO,by simp⟩)⟩
 simp only
 rw [ym,show bs.length-(bs.length-j)=j from by omega]
def i64C (x:Int):Value:=.int .i64 x
theorem EInt:zc9 Tryz.prog 72 3 (.int .i64 0) 1 8:=⟨Tryz.underlying72,by kernel_rfl,rfl,by omega⟩
structure DgM (w:World) (v:Value) (ds:List Int) (wr:World):Prop where
 row:wr.ownsRow w.heap.size 3 1 v ds.length (ds.map i64C)
 bel:Below w.heap.size w wr
theorem DgM.put {w wr w5:World} {v:Value} (h:DgM w v ds wr) (d:Int) (O:Obj) (hO5:w5.ownsRow w.heap.size 3 1 v' (ds.length+1) (ds.map i64C++[.int .i64 d])) (hg5:(wr.alloc O).grownBy w5 v.ownBlock):DgM w v' (ds++[d]) w5 :=
 ⟨by have h:=hO5;simpa [i64C] using h,(h.bel.alloc h.bel.size _).grown hg5 (by rw [zan];have:=h.bel.size;omega) (fun q hq=>(h.row.lt q hq).1)⟩
theorem DgM.len {w wr:World} {v:Value} (h:DgM w v ds wr):∃a cap,v=.slice a ds.length cap/\Row wr 1 a ds.length cap (ds.map i64C):=by
 obtain ⟨a,cap,hv,hr,-⟩:=Row.of_owns h.row
 exact ⟨a,cap,hv,hr⟩
theorem zez {w:World} {a:Option Addr} {cap:Nat} {bs:List UInt8} (hr:Row w 1 a bs.length cap (bs.map u8C)) (hn:bs.length<=400000) (k:Nat) (hk:k<=bs.length) (yq:Bool) :
  Calls Tryz.prog 123 #[.slice a bs.length cap,.int .i64 k,.bool yq] w (zc1 bs yq (hexV [] (-1) (bs.drop k)) w):=by
 obtain ⟨V,hV⟩:∃V,V=hexV [] (-1) (bs.drop k):=⟨_,rfl⟩
 rw [<-hV]
 have HV:=yb hV
 have HC:=yb (fun (W:World) (h:Below w.heap.size w W) j (hj:j<bs.length)=>(hr.mono h).at 0 j hj)
 have HK:=yb hk
 clear hV hr hk
 go_enter Tryz.func123,Tryz.ntmps123
 go_wp2
 go_loopw [1,9] (fun i v wr=>∃(j:Nat) (ds:List Int) (o:List UInt8) (half:Int),j<=bs.length/\i=.int .i64 j/\ds.length<=j/\Hid (DgM w v ds wr)/\Hid (DgP ds o half)/\Hid (V=hexV o half (bs.drop j))) (fun i _ _=>bs.length-(intOf i).toNat)
 case atStart=>exact ⟨k,[],[],-1,HK.out,rfl,by simp,yb ⟨World.ownsRow_nil _ _ _ _,Below.refl _ _⟩,yb DgP.nil,HV⟩
 case round =>
  obtain ⟨j,ds,o,half,hj,rfl,hdj,HD,HP,HG⟩:=hrel
  have hsz:=HD.out.bel.size
  by_cases hlt:j<bs.length
  ·obtain ⟨b0,off,ha,-,hc⟩:=HC.out wr HD.out.bel j hlt
   unfold u8C at hc
   have hcj:=hc j hlt
   have hji:decide ((j:Int)<bs.length)=true:=yd (by omega)
   have hjn:decide (j<bs.length)=true:=yd hlt
   have hjl:(j:Int)<bs.length:=by omega
   have hg:=HG.out
   rw [zay hlt,hexV] at hg
   subst ha
   obtain ⟨c,hcc⟩:∃c,bs.getD j 0=c:=⟨_,rfl⟩
   rw [hcc] at hcj hg
   clear hc hcc
   by_cases h62:c=62
   ·subst h62
    rw [yg rfl] at hg
    obtain ⟨p1,p2,p3⟩:=HP.out.odd
    have HBD:=yb HP.out.bd
    rw [show ((62:UInt8).toNat:Int)=62 from rfl] at hcj
    by_cases hh:0<=half
    ·rw [yg hh] at hg
     have ho:((ds.length:Int) % 2==1)=true:=by rw [beq_iff_eq];exact p1.2 hh
     obtain ⟨q1,q2⟩:=p3 hh
     obtain ⟨va,vcap,hv,-⟩:=HD.out.len
     have HBD2:=yb (show ∀d∈ds++[0],0<=d/\d<=15 from fun d hd=>by
      rcases List.mem_append.1 hd with h|h
      ·exact HBD.out d h
      ·simp at h;subst h;omega)
     have HQ1:=yb q1
     have HQ2:=yb q2
     have HG2:=yb hg
     subst hv
     clear hg p1 p2 p3 q1 q2 hh
     generalize o++[UInt8.ofNat (16*half).toNat]=X at *
     go_wp2_with (at_builtin;refine zav EInt rfl (.tmp 29) (.tmp 30) rfl w.heap.size _ ds.length _ rfl (HD.out.row.alloc _) _ 1 _ _ rfl (zbq _ _ _) (zbO rfl) (by unfold maxLen;omega) (by omega) (by rw [zan];omega) ?_;intro v' w5 hO5 hg5 hnil5;have HD5:=yb (HD.out.put 0 _ hO5 hg5);clear hO5 hg5 hnil5)
     have hl5:(ds++[0]).length<=400001:=by simp;omega
     have HEB:=HBD2
     generalize ds++[0]=es at *
     obtain ⟨ea,ec,hv5,hrow5⟩:=HD5.out.len
     subst hv5
     have HR5:=yb hrow5
     clear hrow5 HBD HBD2 HD HP HG
     go_loopw [11,12] (fun v i wq=>∃(m p:Nat),m<=X.length/\i=.int .i64 p/\Hid (p=2*m)/\Hid (wq.ownsRow w5.heap.size 5 1 v (X.take m).length ((X.take m).map u8C))/\Hid (Below w5.heap.size w5 wq)) (fun _ i _=>es.length-(intOf i).toNat)
     case atStart=>exact ⟨0,0,Nat.zero_le _,by go_num,yb rfl,yb (by simpa using World.ownsRow_nil _ _ _ _),yb (Below.refl _ _)⟩
     case round =>
      obtain ⟨m,p,hm,rfl,HPM,HO,HB⟩:=hrel
      have hq2:=HQ2.out
      have hpm:=HPM.out
      have hsz5:=HB.out.size
      by_cases hmx:m<X.length
      ·have hp1:p+1<es.length:=by omega
       obtain ⟨b1,off1,he,hb15,hce0⟩:=HR5.out.at 0 p (by omega)
       have hce:=fun k hk=>cell?_keep HB.out (hce0 k hk)
       clear hce0
       have c1:=hce p (by omega)
       have c2:=hce (p+1) hp1
       unfold i64C at c1 c2
       have hA:=HEB.out (es.getD p 0) (by rw [List.getD_eq_getElem?_getD,List.getElem?_eq_getElem (by omega)];exact List.getElem_mem _)
       have hB:=HEB.out (es.getD (p+1) 0) (by rw [List.getD_eq_getElem?_getD,List.getElem?_eq_getElem (by omega)];exact List.getElem_mem _)
       have HPK:=yb (take_next (X:=X) (m:=m) (by rw [<-HQ1.out,pk_get m es (by omega),<-hpm]))
       have hpn:decide (p<es.length)=true:=yd (by omega)
       have hpi:(p:Int)<es.length:=by omega
       have hpi1:(p:Int)+1<es.length:=by omega
       have hmo:(X.take m).length<=400000:=by rw [List.length_take];omega
       have HM:=yb (show es.length-(p+2)<es.length-p by omega)
       have HP2:=yb (show p+2=2*(m+1) by omega)
       have HMX:=yb hmx
       have hpl:p<=400001:=by omega
       subst he
       obtain ⟨hA0,hA1⟩:=hA
       obtain ⟨hB0,hB1⟩:=hB
       generalize es.getD p 0=A at *
       generalize es.getD (p+1) 0=B at *
       have HBY:=yb (ze0 (16*A+B) (by omega) (by omega))
       clear hce hq2 hpm hm hmx
       go_wp2
       have ak:u11.ownBlock≠some b1:=fun e=>by have h1:=(HO.out.lt b1 e).1;omega
       have hb1w:b1<wr.heap.size:=by omega
       have i1:IntKind.i64.wrap ((p:Int)+1)=(p:Int)+1:=IntWalk.i64_in _ (by omega)
       have i2:IntKind.i64.wrap (16*A)=16*A:=IntWalk.i64_in _ (by omega)
       have i3:IntKind.i64.wrap (16*A+B)=16*A+B:=IntWalk.i64_in _ (by omega)
       have i4:IntKind.u8.wrap (16*A+B)=16*A+B:=by rw [IntKind.wrap_u8];omega
       have i5:((p:Int)+1).toNat=p+1:=by omega
       have i6:(0:Int)<=(p:Int)+1:=by omega
       have hBw:w5.heap.size<=wr.heap.size:=hsz5
       go_region_held3 (fun w'=>w'.cell? ⟨b1,off1+p,none⟩=some (.int .i64 A)/\w'.cell? ⟨b1,off1+(p+1),none⟩=some (.int .i64 B))
        (first
         | go_keep
         |(go_split_ands
           refine ⟨?_,?_⟩
           ·(rw [hgrow.cell_far _ (by simp;omega) (Ne.symm ak)];assumption)
           ·(rw [hgrow.cell_far _ (by simp;omega) (Ne.symm ak)];assumption)))
        ((obtain ⟨iB,hiB,hzB,hsB,hbB⟩:=info_parts zcz.info;refine step_append_lies _ (by rfl) _ _ _ (by rfl) w5.heap.size 5 iB _ 1 1 zcz.und hiB hzB hsB hbB rfl (by omega) u11 (X.take m).length _ (by rfl) ((HO.out.alloc _).drew) ⟨wr.heap.size,0,none⟩ 1 1 [.int .u8 (16*A+B)] (by rfl) (by rfl) (World.news_of_block (cs:=#[.int .u8 (16*A+B)]) (t:=5) (fr:=(0,0)) (heap_alloc_new wr _)) (by simp [Value.oneCell']) (by omega) (by unfold maxLen;omega) (by omega) (by simp;omega) (wr.heap.size+1) (by simp) ?_;intro g cap7 w7 hO7 hgrow hat hlt))
       have HP7:=yb (show w7.ownsRow w5.heap.size 5 1 (.slice (some ⟨g,0,none⟩) ((X.take m).length+1) cap7) (X.take m++[UInt8.ofNat (16*A+B).toNat]).length ((X.take m++[UInt8.ofNat (16*A+B).toNat]).map u8C)/\Below w5.heap.size w5 w7 from
        zcc (UInt8.ofNat (16*A+B).toNat) (.cells #[.int .u8 (16*A+B)] 5) (zah HB.out 1) hBw (zaO HO.out (zah (Below.refl _ _) 1)) (show Value.int .u8 (16*A+B)=u8C (UInt8.ofNat (16*A+B).toNat) from congrArg (Value.int .u8) HBY.out) hO7 hgrow)
       clear hgrow hO7 hat hlt ak i1 i2 i3 i4 i5 i6
       go_wp2
       go_roundw
       case rel=>exact ⟨m+1,p+2,HMX.out,by go_num,HP2,yb (by rw [HPK.out];have h:=HP7.out.1;simpa using h),yb HP7.out.2⟩
       case measure=>have:=HM.out;simp only [intOf];omega
      ·have hpn:decide (p<es.length)=false:=ye (by omega)
       have hX:X.take m=X:=List.take_of_length_le (by omega)
       have HO2:=yb (by have h:=HO.out;rw [hX] at h;exact h)
       have HBB:=yb (HD5.out.bel.trans (HB.out.mono HD5.out.bel.size))
       have hoo:=zbf HO2.out HD5.out.bel.size
       have HOO:=yb hoo
       clear hX hoo hq2 hpm hmx
       go_wp2
       go_ret3
       exact hexR_some HG2.out hlt rfl HOO.out HBB.out
    ·have hh2:half<0:=by omega
     rw [yh hh] at hg
     have ho:((ds.length:Int) % 2==1)=false:=by rw [yf];exact fun e=>hh (p1.1 e)
     obtain ⟨q1,q2⟩:=p2 hh2
     obtain ⟨ea,ec,hv5,hrow5⟩:=HD.out.len
     have HQ1:=yb q1
     have HQ2:=yb q2
     have HG2:=yb hg
     have HEB:=HBD
     have HD5:=HD
     have HR5:=yb hrow5
     have hl5:ds.length<=400001:=by omega
     subst hv5
     clear hg p1 p2 p3 q1 q2 hh hh2 hrow5 HBD HD HP HG
     obtain ⟨X,hX⟩:∃X,X=o:=⟨_,rfl⟩
     subst hX
     obtain ⟨es,hes⟩:∃es,es=ds:=⟨_,rfl⟩
     subst hes
     go_wp2
     obtain ⟨w5,hw5⟩:∃w5:World,w5=wr:=⟨_,rfl⟩
     subst hw5
     go_loopw [11,12] (fun v i wq=>∃(m p:Nat),m<=X.length/\i=.int .i64 p/\Hid (p=2*m)/\Hid (wq.ownsRow w5.heap.size 5 1 v (X.take m).length ((X.take m).map u8C))/\Hid (Below w5.heap.size w5 wq)) (fun _ i _=>es.length-(intOf i).toNat)
     case atStart=>exact ⟨0,0,Nat.zero_le _,by go_num,yb rfl,yb (by simpa using World.ownsRow_nil _ _ _ _),yb (Below.refl _ _)⟩
     case round =>
      obtain ⟨m,p,hm,rfl,HPM,HO,HB⟩:=hrel
      have hq2:=HQ2.out
      have hpm:=HPM.out
      have hsz5:=HB.out.size
      by_cases hmx:m<X.length
      ·have hp1:p+1<es.length:=by omega
       obtain ⟨b1,off1,he,hb15,hce0⟩:=HR5.out.at 0 p (by omega)
       have hce:=fun k hk=>cell?_keep HB.out (hce0 k hk)
       clear hce0
       have c1:=hce p (by omega)
       have c2:=hce (p+1) hp1
       unfold i64C at c1 c2
       have hA:=HEB.out (es.getD p 0) (by rw [List.getD_eq_getElem?_getD,List.getElem?_eq_getElem (by omega)];exact List.getElem_mem _)
       have hB:=HEB.out (es.getD (p+1) 0) (by rw [List.getD_eq_getElem?_getD,List.getElem?_eq_getElem (by omega)];exact List.getElem_mem _)
       have HPK:=yb (take_next (X:=X) (m:=m) (by rw [<-HQ1.out,pk_get m es (by omega),<-hpm]))
       have hpn:decide (p<es.length)=true:=yd (by omega)
       have hpi:(p:Int)<es.length:=by omega
       have hpi1:(p:Int)+1<es.length:=by omega
       have hmo:(X.take m).length<=400000:=by rw [List.length_take];omega
       have HM:=yb (show es.length-(p+2)<es.length-p by omega)
       have HP2:=yb (show p+2=2*(m+1) by omega)
       have HMX:=yb hmx
       have hpl:p<=400001:=by omega
       subst he
       obtain ⟨hA0,hA1⟩:=hA
       obtain ⟨hB0,hB1⟩:=hB
       generalize es.getD p 0=A at *
       generalize es.getD (p+1) 0=B at *
       have HBY:=yb (ze0 (16*A+B) (by omega) (by omega))
       clear hce hq2 hpm hm hmx
       go_wp2
       have ak:u11.ownBlock≠some b1:=fun e=>by have h1:=(HO.out.lt b1 e).1;omega
       have hb1w:b1<wr.heap.size:=by omega
       have i1:IntKind.i64.wrap ((p:Int)+1)=(p:Int)+1:=IntWalk.i64_in _ (by omega)
       have i2:IntKind.i64.wrap (16*A)=16*A:=IntWalk.i64_in _ (by omega)
       have i3:IntKind.i64.wrap (16*A+B)=16*A+B:=IntWalk.i64_in _ (by omega)
       have i4:IntKind.u8.wrap (16*A+B)=16*A+B:=by rw [IntKind.wrap_u8];omega
       have i5:((p:Int)+1).toNat=p+1:=by omega
       have i6:(0:Int)<=(p:Int)+1:=by omega
       have hBw:w5.heap.size<=wr.heap.size:=hsz5
       go_region_held3 (fun w'=>w'.cell? ⟨b1,off1+p,none⟩=some (.int .i64 A)/\w'.cell? ⟨b1,off1+(p+1),none⟩=some (.int .i64 B))
        (first
         | go_keep
         |(go_split_ands
           refine ⟨?_,?_⟩
           ·(rw [hgrow.cell_far _ (by simp;omega) (Ne.symm ak)];assumption)
           ·(rw [hgrow.cell_far _ (by simp;omega) (Ne.symm ak)];assumption)))
        ((obtain ⟨iB,hiB,hzB,hsB,hbB⟩:=info_parts zcz.info;refine step_append_lies _ (by rfl) _ _ _ (by rfl) w5.heap.size 5 iB _ 1 1 zcz.und hiB hzB hsB hbB rfl (by omega) u11 (X.take m).length _ (by rfl) ((HO.out.alloc _).drew) ⟨wr.heap.size,0,none⟩ 1 1 [.int .u8 (16*A+B)] (by rfl) (by rfl) (World.news_of_block (cs:=#[.int .u8 (16*A+B)]) (t:=5) (fr:=(0,0)) (heap_alloc_new wr _)) (by simp [Value.oneCell']) (by omega) (by unfold maxLen;omega) (by omega) (by simp;omega) (wr.heap.size+1) (by simp) ?_;intro g cap7 w7 hO7 hgrow hat hlt))
       have HP7:=yb (show w7.ownsRow w5.heap.size 5 1 (.slice (some ⟨g,0,none⟩) ((X.take m).length+1) cap7) (X.take m++[UInt8.ofNat (16*A+B).toNat]).length ((X.take m++[UInt8.ofNat (16*A+B).toNat]).map u8C)/\Below w5.heap.size w5 w7 from
        zcc (UInt8.ofNat (16*A+B).toNat) (.cells #[.int .u8 (16*A+B)] 5) (zah HB.out 1) hBw (zaO HO.out (zah (Below.refl _ _) 1)) (show Value.int .u8 (16*A+B)=u8C (UInt8.ofNat (16*A+B).toNat) from congrArg (Value.int .u8) HBY.out) hO7 hgrow)
       clear hgrow hO7 hat hlt ak i1 i2 i3 i4 i5 i6
       go_wp2
       go_roundw
       case rel=>exact ⟨m+1,p+2,HMX.out,by go_num,HP2,yb (by rw [HPK.out];have h:=HP7.out.1;simpa using h),yb HP7.out.2⟩
       case measure=>have:=HM.out;simp only [intOf];omega
      ·have hpn:decide (p<es.length)=false:=ye (by omega)
       have hX:X.take m=X:=List.take_of_length_le (by omega)
       have HO2:=yb (by have h:=HO.out;rw [hX] at h;exact h)
       have HBB:=yb (HD5.out.bel.trans (HB.out.mono HD5.out.bel.size))
       have hoo:=zbf HO2.out HD5.out.bel.size
       have HOO:=yb hoo
       clear hX hoo hq2 hpm hmx
       go_wp2
       go_ret3
       exact hexR_some HG2.out hlt rfl HOO.out HBB.out
   ·have e62:=zau h62 62 rfl
    rw [yh h62] at hg
    have HSP:=yb (fun W=>zdl c.toNat W)
    rw [<-zeI] at HSP
    have HHX:=yb (fun W=>zgX c W)
    have hbd:=zgW c
    generalize c.toNat=x at *
    obtain ⟨sp,hsp⟩:∃sp,isSp c=sp:=⟨_,rfl⟩
    rw [hsp] at HSP hg
    clear hsp h62
    generalize hexD c=d at *
    cases sp
    ·rw [yh (by decide)] at hg
     by_cases hd:d<0
     ·rw [yg hd] at hg
      have hdd:decide (d<0)=true:=yd hd
      have HG2:=yb hg
      clear hg hd
      go_wp2_with (first
       |(go_at_call 85;refine (HSP.out _).mono ?_;rintro e w' ⟨rfl,rfl⟩)
       |(go_at_call 162;refine (HHX.out _).mono ?_;rintro e w' ⟨rfl,rfl⟩))
      go_ret3
      exact hexR_form HG2.out HD.out.bel
     ·rw [yh hd] at hg
      have hdd:decide (d<0)=false:=ye hd
      obtain ⟨q1,q2⟩:=HP.out.put (show 0<=d by omega) hbd.2
      have HQ:Hid (∃o2 h2,DgP (ds++[d]) o2 h2/\V=hexV o2 h2 (bs.drop (j+1))):=by
       by_cases hh:half<0
       ·rw [yg hh] at hg;exact yb ⟨_,_,q1 hh,hg⟩
       ·rw [yh hh] at hg;exact yb ⟨_,_,q2 (by omega),hg⟩
      obtain ⟨va,vcap,hv,-⟩:=HD.out.len
      subst hv
      clear hg q1 q2 hd
      go_wp2_with (first
       |(go_at_call 85;refine (HSP.out _).mono ?_;rintro e w' ⟨rfl,rfl⟩)
       |(go_at_call 162;refine (HHX.out _).mono ?_;rintro e w' ⟨rfl,rfl⟩)
       |(at_builtin;refine zav EInt rfl (.tmp 60) (.tmp 63) rfl w.heap.size _ ds.length _ rfl (HD.out.row.alloc _) _ 1 _ _ rfl (zbq _ _ _) (zbO rfl) (by unfold maxLen;omega) (by omega) (by rw [zan];omega) ?_;intro v' w5 hO5 hg5 hnil5;have HD5:=yb (HD.out.put d _ hO5 hg5);clear hO5 hg5 hnil5))
      go_roundw
      case rel =>
       obtain ⟨o2,h2,q1,q2⟩:=HQ.out
       exact ⟨j+1,ds++[d],o2,h2,by omega,by go_num,by simp;omega,HD5,yb q1,yb q2⟩
      case measure=>simp [intOf];omega
    ·rw [yg rfl] at hg
     have HG2:=yb hg
     clear hg
     go_wp2_with (go_at_call 85;refine (HSP.out _).mono ?_;rintro e w' ⟨rfl,rfl⟩)
     go_roundw
     case rel=>exact ⟨j+1,ds,o,half,by omega,by go_num,by omega,HD,HP,HG2⟩
     case measure=>simp [intOf];omega
  ·obtain rfl:j=bs.length:=by omega
   have hg:=HG.out
   rw [List.drop_length,hexV] at hg
   have HG2:=yb hg
   have hji:decide ((bs.length:Int)<bs.length)=false:=ye (by omega)
   clear hg
   go_wp2_with (go_at_call 163;refine (zg8 _ _).mono ?_;rintro e w' ⟨rfl,rfl⟩)
   go_ret3
   exact hexR_open HG2.out HD.out.bel
theorem zdR {w:World} {a:Option Addr} {cap:Nat} {bs:List UInt8} (hr:Row w 1 a bs.length cap (bs.map u8C)) (hn:bs.length<=400000) (k:Nat) (hk:k<=bs.length) :
  Calls Tryz.prog 122 #[.slice a bs.length cap,.int .i64 k] w fun e w'=>e=.returned (.int .i64 ((k+runN (bs.drop k):Nat):Int))/\w=w':=by
 obtain ⟨R,hR⟩:∃R,R=k+runN (bs.drop k):=⟨_,rfl⟩
 rw [<-hR]
 have HR:=yb hR
 have HC:=yb (fun j (hj:j<bs.length)=>hr.at 0 j hj)
 have HK:=yb hk
 clear hR hr hk
 go_enter Tryz.func122,Tryz.ntmps122
 go_wp2
 go_loop [1] (fun i=>∃j:Nat,j<=bs.length/\i=.int .i64 j/\Hid (R=j+runN (bs.drop j))) (fun i=>bs.length-(intOf i).toNat)
 case atStart=>exact ⟨k,HK.out,rfl,HR⟩
 case round =>
  obtain ⟨j,hj,rfl,HJ⟩:=hrel
  by_cases hlt:j<bs.length
  ·obtain ⟨b,off,ha,-,hc⟩:=HC.out j hlt
   unfold u8C at hc
   have hcj:=hc j hlt
   have hg:=HJ.out
   rw [zay hlt] at hg
   have hji:decide ((j:Int)<bs.length)=true:=yd (by omega)
   have hjn:decide (j<bs.length)=true:=yd hlt
   have hjl:(j:Int)<bs.length:=by omega
   have HM:=yb (show bs.length-(j+1)<bs.length-j by omega)
   have HJL:=yb (show j+1<=bs.length from hlt)
   subst ha
   generalize bs.getD j 0=c at *
   have HSP:=yb (fun W=>zdl c.toNat W)
   have HDL:=yb (fun W=>zaT c.toNat W)
   rw [<-zeI] at HSP
   rw [<-zbY] at HDL
   have hreg:isRg c=(!isSp c&&!isDl c):=rfl
   generalize c.toNat=x at *
   generalize isSp c=sp at *
   generalize isDl c=dl at *
   clear hc HC
   cases sp
   ·cases dl
    ·have HG:=yb (show R=(j+1)+runN (bs.drop (j+1)) by rw [hg,zeZ _ hreg];omega)
     clear hg hreg hlt
     go_wp2_with (first
      |(go_at_call 85;refine (HSP.out _).mono ?_;rintro e w' ⟨rfl,rfl⟩)
      |(go_at_call 126;refine (HDL.out _).mono ?_;rintro e w' ⟨rfl,rfl⟩))
     go_round
     case rel=>exact ⟨j+1,HJL.out,by go_num,HG⟩
     case measure=>have:=HM.out;simp only [intOf];omega
    ·have HG:=yb (show R=j by rw [hg,runN_no _ hreg];omega)
     clear hg hreg hlt
     go_wp2_with (first
      |(go_at_call 85;refine (HSP.out _).mono ?_;rintro e w' ⟨rfl,rfl⟩)
      |(go_at_call 126;refine (HDL.out _).mono ?_;rintro e w' ⟨rfl,rfl⟩))
     go_ret
     exact ⟨by rw [HG.out];rfl,rfl⟩
   ·have HG:=yb (show R=j by rw [hg,runN_no _ hreg];omega)
    clear hg hreg hlt
    go_wp2_with (first
     |(go_at_call 85;refine (HSP.out _).mono ?_;rintro e w' ⟨rfl,rfl⟩)
     |(go_at_call 126;refine (HDL.out _).mono ?_;rintro e w' ⟨rfl,rfl⟩))
    go_ret
    exact ⟨by rw [HG.out];rfl,rfl⟩
  ·obtain rfl:j=bs.length:=by omega
   have hg:=HJ.out
   rw [List.drop_length] at hg
   have HG:=yb (show R=bs.length from hg)
   clear hg
   go_wp2
   go_ret
   exact ⟨by rw [HG.out];rfl,rfl⟩
theorem zfz {w:World} {a:Option Addr} {cap:Nat} {bs:List UInt8} (hr:Row w 1 a bs.length cap (bs.map u8C)) (hn:bs.length<=400000) :
  Calls Tryz.prog 125 #[.slice a bs.length cap] w (zdC w (zdu bs)):=by
 obtain ⟨V,hV⟩:∃V,V=zdu bs:=⟨_,rfl⟩
 rw [<-hV]
 rw [nameV_fin] at hV
 have HV:=yb hV
 obtain ⟨r,hrr⟩:∃r,r=w.heap.size:=⟨_,rfl⟩
 have HBX:=yb (show (w.alloc (.cells #[.int .i64 0,.int .i64 0,.string ⟨#[]⟩,.slice none 0 0] 27)).heap[r]?=some (.cells #[.int .i64 0,.int .i64 0,.string ⟨#[]⟩,.slice none 0 0] 27 (0,0)) from zac _ hrr)
 have HB0:=yb (zam w (.cells #[.int .i64 0,.int .i64 0,.string ⟨#[]⟩,.slice none 0 0] 27))
 have HRR:=yb hrr
 have HC:=yb (fun (W:World) (h:Below w.heap.size w W) j (hj:j<bs.length)=>(hr.mono h).at 0 j hj)
 have HCB:=yb (fun j (hj:j<bs.length)=>hr.at 0 j hj)
 clear hV hrr hr
 go_enter Tryz.func125,Tryz.ntmps125
 go_wp2
 rw [<-HRR.out]
 generalize w.alloc (.cells #[.int .i64 0,.int .i64 0,.string ⟨#[]⟩,.slice none 0 0] 27)=W0 at *
 have hr0:=(Array.getElem?_eq_some_iff.1 HBX.out).1
 go_loopw [4,5] (fun v i wr=>∃(k:Nat) (o:List UInt8),k<=bs.length/\i=.int .i64 k/\o.length<=k/\Hid (wr.ownsRow W0.heap.size 5 1 v o.length (o.map u8C))/\Hid (Below W0.heap.size W0 wr)/\Hid (V=finN (zcd o (bs.drop k)))) (fun _ i _=>bs.length-(intOf i).toNat)
 case atStart=>exact ⟨0,[],by omega,by go_num,by simp,yb (World.ownsRow_nil _ _ _ _),yb (Below.refl _ _),HV⟩
 case round =>
  obtain ⟨k,o,hk,rfl,hok,HO,HB,HG⟩:=hrel
  have HBR:=yb (zab HB.out HBX.out)
  have HBW:=yb (HB0.out.trans (HB.out.mono HB0.out.size))
  have hsz:=HB.out.size
  by_cases hlt:k<bs.length
  ·have hg:=HG.out
   rw [zay hlt] at hg
   obtain ⟨b,off,ha,-,hc⟩:=HC.out wr HBW.out k hlt
   have hbW:b<w.heap.size:=by
    obtain ⟨b',off',ha',hb',-⟩:=HCB.out k hlt
    rw [ha] at ha';cases ha';exact hb'
   unfold u8C at hc
   have hcj:=hc k hlt
   have hki:decide ((k:Int)<bs.length)=true:=yd (by omega)
   have hkn:decide (k<bs.length)=true:=yd hlt
   have hkl:(k:Int)<bs.length:=by omega
   subst ha
   obtain ⟨c,hcc⟩:∃c,bs.getD k 0=c:=⟨_,rfl⟩
   rw [hcc] at hcj hg
   clear hcc
   by_cases h35:c=35
   ·subst h35
    rw [show ((35:UInt8).toNat:Int)=35 from rfl] at hcj
    by_cases h2:bs.length<=k+2
    ·have HNONE:=yb (show V=none by rw [hg,zeF _ _ (by rw [ym];omega)];rfl)
     have h2d:decide ((bs.length:Int)<=(k:Int)+2)=true:=yd (by omega)
     clear hg hc
     obtain ⟨⟨k0,k1,k2,k3⟩,f0,f1,f2,f3⟩:=zaf HBR.out
     go_wp2
     refine yi (zaa rfl _ _ r 27 _ (0,0) _ rfl (set4 HBR.out _ _ _ _) Tryz.underlying27 rfl zao _ rfl) rfl ?_
     exact zbx HNONE.out (zad HBW.out (by have:=HRR.out;omega) _ _ _ _)
    ·have h2d:decide ((bs.length:Int)<=(k:Int)+2)=false:=ye (by omega)
     have h1':k+1<bs.length:=by omega
     have h2':k+1+1<bs.length:=by omega
     rw [zay h1',zay h2',zgz] at hg
     have c1:=hc (k+1) h1'
     have c2:=hc (k+2) h2'
     have l1:(k:Int)+1<bs.length:=by omega
     have l2:(k:Int)+2<bs.length:=by omega
     have hA:=zgW (bs.getD (k+1) 0)
     have hB:=zgW (bs.getD (k+1+1) 0)
     have HHA:=yb (fun W=>zgX (bs.getD (k+1) 0) W)
     have HHB:=yb (fun W=>zgX (bs.getD (k+1+1) 0) W)
     rw [show k+2=k+1+1 from rfl] at c2
     generalize hexD (bs.getD (k+1) 0)=A at *
     generalize hexD (bs.getD (k+1+1) 0)=B at *
     generalize (bs.getD (k+1) 0).toNat=x at *
     generalize (bs.getD (k+1+1) 0).toNat=y at *
     rw [show k+1+1=k+2 from rfl] at c2
     clear hc
     by_cases hAn:A<0
     ·have HNONE:=yb (show V=none by rw [hg,yg (.inl hAn)];rfl)
      have hAd:decide (A<0)=true:=yd hAn
      clear hg
      obtain ⟨⟨k0,k1,k2,k3⟩,f0,f1,f2,f3⟩:=zaf HBR.out
      go_wp2_with fail
      refine (HHA.out _).mono ?_
      rintro e w9 ⟨rfl,rfl⟩
      go_wp2
      refine yi (zaa rfl _ _ r 27 _ (0,0) _ rfl (set4 HBR.out _ _ _ _) Tryz.underlying27 rfl zao _ rfl) rfl ?_
      exact zbx HNONE.out (zad HBW.out (by have:=HRR.out;omega) _ _ _ _)
     ·have hAd:decide (A<0)=false:=ye hAn
      by_cases hBn:B<0
      ·have HNONE:=yb (show V=none by rw [hg,yg (.inr hBn)];rfl)
       have hBd:decide (B<0)=true:=yd hBn
       clear hg hAn
       obtain ⟨⟨k0,k1,k2,k3⟩,f0,f1,f2,f3⟩:=zaf HBR.out
       go_wp2_with fail
       refine (HHA.out _).mono ?_
       rintro e w9 ⟨rfl,rfl⟩
       go_wp2_with fail
       refine (HHB.out _).mono ?_
       rintro e w9 ⟨rfl,rfl⟩
       go_wp2
       refine yi (zaa rfl _ _ r 27 _ (0,0) _ rfl (set4 HBR.out _ _ _ _) Tryz.underlying27 rfl zao _ rfl) rfl ?_
       exact zbx HNONE.out (zad HBW.out (by have:=HRR.out;omega) _ _ _ _)
      ·have hBd:decide (B<0)=false:=ye hBn
       rw [yh (by rintro (h|h)<;>contradiction)] at hg
       have HG2:=yb hg
       have HBY:=yb (ze0 (16*A+B) (by omega) (by omega))
       have hA0:0<=A:=by omega
       have hB0:0<=B:=by omega
       obtain ⟨hA1,hA2⟩:=hA
       obtain ⟨hB1,hB2⟩:=hB
       have ak:u4.ownBlock≠some b:=fun e=>by have h1:=(HO.out.lt b e).1;have:=HB0.out.size;omega
       have hb1w:b<wr.heap.size:=by have:=HBW.out.size;omega
       have HKK:=yb (show k+3<=bs.length/\bs.length-(k+3)<bs.length-k by omega)
       have i1:IntKind.i64.wrap ((k:Int)+1)=(k:Int)+1:=IntWalk.i64_in _ (by omega)
       have i2:IntKind.i64.wrap ((k:Int)+2)=(k:Int)+2:=IntWalk.i64_in _ (by omega)
       have i3:IntKind.i64.wrap (16*A)=16*A:=IntWalk.i64_in _ (by omega)
       have i4:IntKind.i64.wrap (16*A+B)=16*A+B:=IntWalk.i64_in _ (by omega)
       have i5:IntKind.u8.wrap (16*A+B)=16*A+B:=by rw [IntKind.wrap_u8];omega
       have i6:((k:Int)+1).toNat=k+1:=by omega
       have i7:((k:Int)+2).toNat=k+2:=by omega
       have i8:(0:Int)<=(k:Int)+1:=by omega
       have i9:(0:Int)<=(k:Int)+2:=by omega
       clear hg hAn hBn
       go_wp2_with fail
       refine (HHA.out _).mono ?_
       rintro e w9 ⟨rfl,rfl⟩
       go_wp2_with fail
       refine (HHB.out _).mono ?_
       rintro e w9 ⟨rfl,rfl⟩
       go_wp2
       go_region_held3 (fun w'=>w'.cell? ⟨b,off+(k+1),none⟩=some (.int .u8 x)/\w'.cell? ⟨b,off+(k+2),none⟩=some (.int .u8 y))
        (first
         | go_keep
         |(go_split_ands
           refine ⟨?_,?_⟩
           ·(rw [hgrow.cell_far _ (by simp;omega) (Ne.symm ak)];assumption)
           ·(rw [hgrow.cell_far _ (by simp;omega) (Ne.symm ak)];assumption)))
        (first
         |(go_at_call 162;with_reducible refine (HHA.out _).mono ?_;rintro e w9 ⟨rfl,rfl⟩)
         |(go_at_call 162;with_reducible refine (HHB.out _).mono ?_;rintro e w9 ⟨rfl,rfl⟩)
         |(obtain ⟨iB,hiB,hzB,hsB,hbB⟩:=info_parts zcz.info;refine step_append_lies _ (by rfl) _ _ _ (by rfl) W0.heap.size 5 iB _ 1 1 zcz.und hiB hzB hsB hbB rfl (by omega) u4 o.length _ (by rfl) ((HO.out.alloc _).drew) ⟨wr.heap.size,0,none⟩ 1 1 [.int .u8 (16*A+B)] (by rfl) (by rfl) (World.news_of_block (cs:=#[.int .u8 (16*A+B)]) (t:=5) (fr:=(0,0)) (heap_alloc_new wr _)) (by simp [Value.oneCell']) (by omega) (by unfold maxLen;omega) (by omega) (by simp;omega) (wr.heap.size+1) (by simp) ?_;intro g cap7 w7 hO7 hgrow hat hlt))
       have HP7:=yb (show w7.ownsRow W0.heap.size 5 1 (.slice (some ⟨g,0,none⟩) (o.length+1) cap7) (o++[UInt8.ofNat (16*A+B).toNat]).length ((o++[UInt8.ofNat (16*A+B).toNat]).map u8C)/\Below W0.heap.size W0 w7 from
        zcc (UInt8.ofNat (16*A+B).toNat) (.cells #[.int .u8 (16*A+B)] 5) (zah HB.out 1) hsz (zaO HO.out (zah (Below.refl _ _) 1)) (show Value.int .u8 (16*A+B)=u8C (UInt8.ofNat (16*A+B).toNat) from congrArg (Value.int .u8) HBY.out) hO7 hgrow)
       clear hgrow hO7 hat hlt ak i1 i2 i3 i4 i5 i6 i7 i8 i9
       go_wp2
       go_roundw
       case rel=>exact ⟨k+3,o++[UInt8.ofNat (16*A+B).toNat],HKK.out.1,by go_num,by simp;omega,yb HP7.out.1,yb HP7.out.2,yb HG2.out⟩
       case measure=>have:=HKK.out.2;simp only [intOf];omega
   ·rw [zfj _ _ _ h35] at hg
    have HG2:=yb hg
    have e35:=zau h35 35 rfl
    have e36:((c.toNat:Int) != 35)=true:=by simp only [bne,e35,yj]
    clear hg h35 hc
    obtain ⟨x,hx⟩:∃x,c.toNat=x:=⟨_,rfl⟩
    rw [hx] at hcj e35 e36
    have HX:=yb (show Value.int .u8 (x:Int)=u8C c by rw [<-hx];rfl)
    clear hx
    go_wp2_with (at_builtin;refine zav zcz rfl (.tmp 18) (.tmp 23) rfl W0.heap.size _ o.length _ rfl (HO.out.alloc _) _ 1 _ _ rfl (zbq _ _ _) (zbO rfl) (by unfold maxLen;omega) (by omega) (by rw [zan];omega) ?_;intro v' w5 hO5 hg5 hnil5;have HP5:=yb (zcc c _ HB.out hsz HO.out HX.out hO5 hg5);clear hO5 hg5 hnil5)
    go_roundw
    case rel=>exact ⟨k+1,o++[c],by omega,by go_num,by simp;omega,yb HP5.out.1,yb HP5.out.2,HG2⟩
    case measure=>simp [intOf];omega
  ·obtain rfl:k=bs.length:=by omega
   have hg:=HG.out
   rw [List.drop_length] at hg
   have hg2:V=if 127<o.length\/(0:UInt8)∈o then none else some o:=hg
   have HG2:=yb hg2
   have HCV:=yb (zdT HO.out)
   obtain ⟨a1,cap1,hv1,hrow,-⟩:=Row.of_owns HO.out
   have HROW:=yb hrow
   have hol:o.length<=400000:=by omega
   have hki:decide ((bs.length:Int)<bs.length)=false:=ye (by omega)
   subst hv1
   clear hg hg2 hrow
   go_wp2
   go_loop [6] (fun i=>∃m:Nat,m<=o.length/\i=.int .i64 m/\Hid (∀j,j<m->o.getD j 0≠0)) (fun i=>o.length-(intOf i).toNat)
   case atStart=>exact ⟨0,by omega,by go_num,yb (fun j hj=>by omega)⟩
   case round =>
    obtain ⟨m,hm,rfl,HZ⟩:=hrel
    by_cases hmo:m<o.length
    ·obtain ⟨b1,off1,he,-,hce⟩:=HROW.out.at 0 m hmo
     have cm:=hce m hmo
     unfold u8C at cm
     subst he
     have hmn:decide (m<o.length)=true:=yd hmo
     have hmi:(m:Int)<o.length:=by omega
     clear hce
     by_cases hz:o.getD m 0=0
     ·have hmem:(0:UInt8)∈o:=by
       rw [<-hz,List.getD_eq_getElem?_getD,List.getElem?_eq_getElem hmo];exact List.getElem_mem _
      have HNONE:=yb (show V=none by rw [HG2.out,yg (.inr hmem)])
      clear hmem
      rw [hz,show ((0:UInt8).toNat:Int)=0 from rfl] at cm
      clear hz
      obtain ⟨⟨k0,k1,k2,k3⟩,f0,f1,f2,f3⟩:=zaf HBR.out
      go_wp2
      refine yi (zaa rfl _ _ r 27 _ (0,0) _ rfl (set4 HBR.out _ _ _ _) Tryz.underlying27 rfl zao _ rfl) rfl ?_
      exact zbx HNONE.out (zad HBW.out (by have:=HRR.out;omega) _ _ _ _)
     ·have e0:=zau hz 0 rfl
      have HZ2:=yb (show ∀j,j<m+1->o.getD j 0≠0 from fun j hj=>by
       by_cases e:j=m
       ·subst e;exact hz
       ·exact HZ.out j (by omega))
      generalize (o.getD m 0).toNat=x at *
      clear hz
      go_wp2
      go_round
      case rel=>exact ⟨m+1,hmo,by go_num,HZ2⟩
      case measure=>simp [intOf];omega
    ·obtain rfl:m=o.length:=by omega
     have hn0:¬(0:UInt8)∈o:=fun hm=>by
      obtain ⟨j,hj,hje⟩:=List.getElem_of_mem hm
      refine HZ.out j hj ?_
      rw [List.getD_eq_getElem?_getD,List.getElem?_eq_getElem hj];exact hje
     by_cases h127:127<o.length
     ·have HNONE:=yb (show V=none by rw [HG2.out,yg (.inl h127)])
      have h127d:decide ((127:Int)<o.length)=true:=yd (by omega)
      have h127e:decide (127<o.length)=true:=yd h127
      clear hn0
      obtain ⟨⟨k0,k1,k2,k3⟩,f0,f1,f2,f3⟩:=zaf HBR.out
      go_wp2
      refine yi (zaa rfl _ _ r 27 _ (0,0) _ rfl (set4 HBR.out _ _ _ _) Tryz.underlying27 rfl zao _ rfl) rfl ?_
      exact zbx HNONE.out (zad HBW.out (by have:=HRR.out;omega) _ _ _ _)
     ·have HS:=yb (show V=some o by rw [HG2.out,yh (by rintro (h|h)<;>contradiction)])
      have h127d:decide ((127:Int)<o.length)=false:=ye (by omega)
      have h127e:decide (127<o.length)=false:=ye h127
      clear hn0 h127
      have hcv:=HCV.out
      obtain ⟨⟨k0,k1,k2,k3⟩,f0,f1,f2,f3⟩:=zaf HBR.out
      go_wp2
      refine yi (zaa rfl _ _ r 27 _ (0,0) _ rfl (set4 HBR.out _ _ _ _) Tryz.underlying27 rfl zao _ rfl) rfl ?_
      exact name_some HS.out (zad HBW.out (by have:=HRR.out;omega) _ _ _ _)
theorem zaq:(Tryz.prog.info? 111).map (·.size)=some 8:=by kernel_rfl
structure PA (p:List UInt8) (N:Int) (ov:Bool):Prop where
 dg:p.all isDg=true
 ov_:ov=decide (2147483647<valD p)
 n:ov=false->N=(valD p:Nat)
def PB (p:List UInt8) (i:Nat) (N P:Int) (ov:Bool):Prop:=∃w r,p=w++46::r/\w.length=i/\PA w N ov/\r.all isDg=true/\P=(mil r:Nat)
theorem PA.nil:PA [] 0 false:=⟨rfl,rfl,fun _=>rfl⟩
theorem PA.over {p:List UInt8} {N:Int} (h:PA p N true) (hc:isDg c=true):PA (p++[c]) N true :=
 ⟨zdo _ _ h.dg hc,by have:=h.ov_;rw [eq_comm,decide_eq_true_iff] at this;rw [eq_comm,decide_eq_true_iff,zcj];omega,fun h=>by cases h⟩
theorem PA.more {p:List UInt8} {N:Int} (h:PA p N false) (hc:isDg c=true) (M:Int) (hM:M=10*N+(dgV c:Nat)) (o:Bool) (ho:o=decide (2147483647<M)):PA (p++[c]) M o:=by
 have h1:=h.n rfl
 have hv:M=(valD (p++[c]):Nat):=by rw [zcj,hM,h1];omega
 refine ⟨zdo _ _ h.dg hc,?_,fun _=>hv⟩
 rw [ho,Bool.eq_iff_iff,decide_eq_true_iff,decide_eq_true_iff];omega
theorem PA.point {p:List UInt8} {N:Int} (h:PA p N ov):PB (p++[46]) p.length N 0 ov:=⟨p,[],rfl,rfl,h,rfl,rfl⟩
theorem mil_by (r:List UInt8) (c:UInt8) (b:Nat) (hb:b=100000 / 10 ^ (min (r.length+1) 7-1)):mil (r++[c])=mil r+b*dgV c:=by
 by_cases h:r.length<6
 ·rw [mil_snoc_lt r c h,hb,Nat.min_eq_left (by omega)]
  congr 2
  have:r.length=0\/r.length=1\/r.length=2\/r.length=3\/r.length=4\/r.length=5:=by omega
  rcases this with h|h|h|h|h|h<;>rw [h]
 ·rw [mil_snoc_ge r c (by omega),hb,Nat.min_eq_right (by omega)]
  simp
theorem PB.more {p:List UInt8} {N:Int} (h:PB p i N P ov) (hc:isDg c=true) (b:Nat) (hb:b=100000 / 10 ^ (min (p.length-i) 7-1)) (Q:Int) (hQ:Q=P+(b:Int)*((c.toNat:Int)-48)):PB (p++[c]) i N Q ov:=by
 obtain ⟨w,r,e,hl,hA,hr,hP⟩:=h
 have hlen:=congrArg List.length e
 simp only [List.length_append,List.length_cons] at hlen
 refine ⟨w,r++[c],by rw [e];simp,hl,hA,zdo _ _ hr hc,?_⟩
 rw [mil_by r c b (by rw [hb];congr 3;omega),hQ,hP,<-zdc hc]
 push_cast
 rfl
theorem PB.bad {p:List UInt8} {N:Int} (h:PB p i N P ov) (sg:Int) (c:UInt8) (t:List UInt8) (hc:isDg c=false):za9 sg (p++c::t)=(0,0,11):=by
 obtain ⟨w,r,e,hl,hA,hr,hP⟩:=h
 rw [e]
 have:w++46::r++c::t=w++46::(r++c::t):=by simp
 rw [this]
 exact parseB_bad2 sg w r t c hA.dg hc
theorem PB.bd {p:List UInt8} {N:Int} (h:PB p i N P ov):0<=P/\P<=999999:=by
 obtain ⟨w,r,e,hl,hA,hr,rfl⟩:=h
 have:=zgr r hr
 omega
theorem PA.fin {p:List UInt8} {N:Int} (h:PA p N ov) (sg:Int):za9 sg p=if p.length=0 then (0,0,11) else if ov=true then (0,0,5) else (2,sg*N,0):=by
 rw [parseB_int sg p h.dg]
 by_cases h0:p.length=0
 ·rw [yg h0,yg h0]
 ·rw [yh h0,yh h0]
  have h1:=h.ov_
  cases ov
  ·rw [eq_comm,decide_eq_false_iff_not] at h1
   rw [yh h1,yh (by decide),h.n rfl]
  ·rw [eq_comm,decide_eq_true_iff] at h1
   rw [yg h1,yg rfl]
theorem PB.fin {p:List UInt8} {N:Int} (h:PB p i N P ov) (sg:Int):za9 sg p=if p.length=1 then (0,0,11) else if ov=true\/(N=2147483647/\0<P) then (0,0,5) else (3,sg*(1000000*N+P),0):=by
 obtain ⟨w,r,e,hl,hA,hr,rfl⟩:=h
 have hlen:=congrArg List.length e
 simp only [List.length_append,List.length_cons] at hlen
 rw [e,parseB_real sg w r hA.dg hr,<-e]
 by_cases h0:p.length=1
 ·rw [yg h0,yg (by omega)]
 ·rw [yh h0,yh (by omega)]
  have h1:=hA.ov_
  cases ov
  ·rw [eq_comm,decide_eq_false_iff_not] at h1
   have h2:=hA.n rfl
   by_cases h3:N=2147483647/\0<((mil r:Nat):Int)
   ·rw [yg (.inr (by omega)),yg (.inr h3)]
   ·rw [yh (by rintro (h|h);exact h1 h;exact h3 (by omega)),yh (by rintro (h|h);cases h;exact h3 h),h2]
    rw [Int.natCast_add,Int.natCast_mul,Int.mul_comm 1000000];rfl
  ·rw [eq_comm,decide_eq_true_iff] at h1
   rw [yg (.inl h1),yg (.inl rfl)]
def St (b:List UInt8) (a K:Nat) (N P D T:Int) (ov:Bool):Prop :=
 (T=-1/\P=0/\D=(K:Int)-(a:Int)/\PA (b.take (K-a)) N ov)\/(∃i:Nat,T=(a:Int)+(i:Int)/\i<K-a/\D=(K:Int)-(a:Int)-1/\PB (b.take (K-a)) i N P ov)
theorem at_take (s:ByteArray) (a k:Nat) (h:k<s.size) (ha:a<=k):((bl s).drop a).take (k+1-a)=((bl s).drop a).take (k-a)++[s[k]]:=by
 rw [show k+1-a=(k-a)+1 from by omega,List.take_succ_eq_append_getElem (by rw [ym,zaG];omega),List.getElem_drop]
 congr 2
 rw [<-bl_get s k h]
 congr 1
 omega
theorem zg1 (s:ByteArray) (a k:Nat) (h:k<s.size) (ha:a<=k):(bl s).drop a=((bl s).drop a).take (k-a)++s[k]::(bl s).drop (k+1):=by
 have h1:=List.take_append_drop (k-a) ((bl s).drop a)
 rw [List.drop_drop,show a+(k-a)=k from by omega,zeh s k h] at h1
 exact h1.symm
end Go.Proofs.YtfafdeemfeaedaaGreat
