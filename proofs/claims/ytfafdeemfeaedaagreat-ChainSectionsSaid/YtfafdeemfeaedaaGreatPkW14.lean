/-
  Our texts Src5 to Xd3, in one.
-/
import Derived.Test.YtfafdeemfeaedaaGreatPkW13
import Derived.StillTailTactics
import Derived.Deep.RegionHeld3
import Derived.Great.BuildSlice
set_option maxRecDepth 8000
set_option maxHeartbeats 8000000
namespace Go.Proofs.YtfafdeemfeaedaaGreat
open Go.RowKit Go.Maps Go.Sort
structure zfm (W:World) (mb n:Nat) (f:Int->Option Nat) (C':Nat->UInt8) (c:Nat) (D:List (Int×Int)) (wr:World) (n':Nat) (f':Int->Option Nat):Prop where
 mem:Mem wr mb n' f' C'
 keep:zai (MemS mb f) W wr
 old:∀(k g:Nat),f k=some g->f' k=some g
 new:∀(k g:Nat),f' k=some g->f k=some g\/W.heap.size<=g
 num:n'<=n+c
 had:∀z∈D,∀i:Nat,z.1<=i->(i:Int)<z.2->f' ((i / 4096:Nat):Int)≠none
theorem zfm.memS {W:World} {mb n:Nat} {f:Int->Option Nat} {C':Nat->UInt8} {c:Nat} {D:List (Int×Int)} {wr:World} {n':Nat} {f':Int->Option Nat} (h:zfm W mb n f C' c D wr n' f') :
  ∀b,MemS mb f' b->MemS mb f b\/W.heap.size<=b:=by
 rintro b (rfl|⟨k,hk⟩)
 ·exact .inl (.inl rfl)
 ·rcases h.new k b hk with h1|h1
  ·exact .inl (.inr ⟨k,h1⟩)
  ·exact .inr h1
theorem zfm.start {W:World} {mb n:Nat} {f:Int->Option Nat} {C:Nat->UInt8} (h:Mem W mb n f C):zfm W mb n f C 0 [] W n f :=
 ⟨h,zai.refl _ _,fun _ _ h=>h,fun _ _ h=>.inl h,yp _,fun z hz=>by cases hz⟩
theorem zfm.step {W:World} {mb n:Nat} {f:Int->Option Nat} {C':Nat->UInt8} {c:Nat} {D:List (Int×Int)} {wr w1 w2:World} {n':Nat} {f':Int->Option Nat} (h:zfm W mb n f C' c D wr n' f') (hk1:zai (fun b=>wr.heap.size<=b) wr w1)
  {z:Int×Int} {A:Nat} {l:List UInt8} {e:Ending} (hA:z.1=A) (hz:z.2=A+l.length) {m:Nat} (hl:l.length<=m) (hw:WrEnd w1 mb n' f' C' A l e w2) :
  ∃n2 f2,zfm W mb n f (putC C' A l) (c+m) (D++[z]) w2 n2 f2:=by
 obtain ⟨-,n2,f2,hm,hn,hk,ho,hnw,hh⟩:=hw
 have s0:=h.keep.size
 have s1:=hk1.size
 refine ⟨n2,f2,hm,(h.keep.trans hk1 (fun b hb=>.inr (by omega))).trans hk (fun b hb=>h.memS b hb),fun k g e=>ho k g (h.old k g e),fun k g e=>?_,by have:=h.num;omega,fun y hy i h1 h2=>?_⟩
 ·rcases hnw k g e with h1|h1
  ·exact h.new k g h1
  ·exact .inr (by omega)
 ·rcases List.mem_append.1 hy with hy|hy
  ·have h3:=h.had y hy i h1 h2
   cases hf:f' ((i / 4096:Nat):Int) with
   | none=>exact absurd hf h3
   | some g=>rw [ho _ g hf];simp
  ·simp only [List.mem_singleton] at hy
   subst hy
   exact hh i (by omega) (by omega)
def SPutEnd (w:World) (U:Nat->Prop) (p tot N:Nat) (T:List (Int×Int)) (C:Nat->UInt8) (at_:Nat) (bs:List UInt8) (e:Ending) (w':World):Prop :=
 e=.returned (.int .i64 0)/\∃U' T' C',SrcQ w' U' p tot N T' C'/\PutS T ((at_:Int),(at_:Int)+bs.length) T'/\newC T C at_ bs C'/\zai U w w'/\∀b,U' b->U b\/w.heap.size<=b
theorem sput_fin {w w3 wr wd w':World} {S U:Nat->Prop} {p tot N:Nat} {T M:List (Int×Int)} {v0:Value} {mb n c n':Nat} {f f':Int->Option Nat} {C:Nat->UInt8} {at_:Nat} {bs:List UInt8} {e:Ending} (hs:IsSrc w S p tot T v0 mb n f C) (hU:∀b,U b↔(S b\/MemS mb f b))
  (hB:Below w.heap.size w w3) (hT:zfm w3 mb n f (putM bs at_ C M) c M wr n' f') (hd:zai (fun b=>wr.heap.size<=b) wr wd) (hM:M=zcS T ((at_:Int),(at_:Int)+bs.length)) (hA:at_+bs.length<=tot) (hN:n+c<=N)
  (hp:zgX wd S p 2 (srcC tot v0 mb) 146 T ((at_:Int),(at_:Int)+bs.length) e w'):SPutEnd w U p tot N T C at_ bs (.returned (.int .i64 0)) w':=by
 obtain ⟨-,T',hP,S',v',hset,hk,hS'⟩:=hp
 obtain ⟨hF,hcov⟩:=zdT hP
 have hBk:zai (fun b=>w.heap.size<=b) w w3:=zai.of_below hB (fun _ h=>h)
 have s1:=hB.size
 have s2:=hT.keep.size
 have s3:=hd.size
 have hm:=hT.memS
 have hml:=hT.mem.lt
 have hsm:∀b,MemS mb f' b->¬S b:=fun b hb hSb=>by
  rcases hm b hb with h1|h1
  ·exact hs.ap b h1 hSb
  ·have:=hs.set.lt b hSb;omega
 refine ⟨rfl,fun b=>S' b\/MemS mb f' b,T',putM bs at_ C M,⟨S',v',mb,n',f',⟨?_,?_,?_,hF,?_,?_,hs.totb⟩,by have:=hT.num;omega,fun b=>Iff.rfl⟩,hP,by rw [hM];exact putM_new hs.form C at_ bs,?_,?_⟩
 ·have:(srcC tot v0 mb).setIfInBounds 2 v'=srcC tot v' mb:=by simp [srcC]
  rw [<-this];exact hset
 ·exact (hT.mem.keeps hd (fun b hb hn=>by have:=hml b hb;omega)).keeps hk hsm
 ·intro b hb hSb
  rcases hS' b hSb with h1|h1
  ·exact hsm b hb h1
  ·have:=hml b hb;omega
 ·intro z hz
  have hz1:=hF.full z hz
  have hc:cov T' (z.2-1):=⟨z,hz,hz1.1,by omega,by omega⟩
  rcases (hcov _).1 hc with h1|h1
  ·obtain ⟨y,hy,_,_,h2⟩:=h1
   have:=hs.in_ y hy;omega
  ·obtain ⟨y,hy,_,_,h2⟩:=h1
   simp only [List.mem_singleton] at hy
   subst hy
   simp only at h2;omega
 ·intro i hi
  by_cases h0:cov T i
  ·have h1:=hs.known i h0
   cases hf:f ((i / 4096:Nat):Int) with
   | none=>exact absurd hf h1
   | some g=>rw [hT.old _ g hf];simp
  ·rcases (hcov _).1 hi with h1|h1
   ·exact absurd h1 h0
   ·obtain ⟨y,hy,h2,h3,h4⟩:=h1
    simp only [List.mem_singleton] at hy
    subst hy
    simp only at h2 h3 h4
    have h5:cov M i:=by rw [hM];exact ((miss_in hs.form at_ bs).2 i).2 ⟨by omega,by omega,h0⟩
    obtain ⟨z,hz,_,h6,h7⟩:=h5
    exact hT.had z hz i h6 h7
 ·have k1:zai U w wr:=((zai.refl U w).trans hBk (fun b hb=>.inr hb)).trans hT.keep (fun b hb=>.inl ((hU b).2 (.inr hb)))
  exact (k1.trans hd (fun b hb=>.inr (by omega))).trans hk (fun b hb=>.inl ((hU b).2 (.inl hb)))
 ·rintro b (hb|hb)
  ·rcases hS' b hb with h1|h1
   ·exact .inl ((hU b).2 (.inl h1))
   ·exact .inr (by omega)
  ·rcases hm b hb with h1|h1
   ·exact .inl ((hU b).2 (.inr h1))
   ·exact .inr (by omega)
theorem row_sub {w:World} {b0 o0 cap:Nat} {bs:List UInt8} (h:Row w 1 (some ⟨b0,o0,none⟩) bs.length cap (bs.map u8C)) (u v:Nat) (huv:u<v) (hv:v<=bs.length) :
  Row w 1 (some ⟨b0,o0+u,none⟩) ((bs.drop u).take (v-u)).length (cap-u) (((bs.drop u).take (v-u)).map u8C):=by
 obtain ⟨b1,o1,hab,hbw,hcell⟩:=h.at 0 0 (by omega)
 cases hab
 have hc:=h.2.1
 refine ⟨by simp,by simp;omega,by have:=h.2.2.1;omega,fun h=>(by cases h),fun _=>⟨b0,o0+u,rfl,hbw,fun j x hj=>?_⟩⟩
 rw [List.getElem?_map] at hj
 obtain ⟨y,hy,rfl⟩:=Option.map_eq_some_iff.1 hj
 rw [List.getElem?_take] at hy
 split at hy
 ·rw [List.getElem?_drop] at hy
  have hlt:=(List.getElem?_eq_some_iff.1 hy).1
  have h2:=hcell (u+j) hlt
  rw [<-Nat.add_assoc] at h2
  rw [h2]
  simp [List.getD,hy]
 ·cases hy
theorem sput_any {w:World} {U:Nat->Prop} {p tot N:Nat} {T:List (Int×Int)} {C:Nat->UInt8} (h:SrcQ w U p tot N T C) (hT:T.length<=1000) (at_:Nat) {a:Option Addr} {cap:Nat} {bs:List UInt8} (hr:Row w 1 a bs.length cap (bs.map u8C)) (ha:0<bs.length->∀x,a=some x->¬U x.block)
  (hA:at_+bs.length<=tot) {N':Nat} (hN:N+(T.length+1)*bs.length<=N') (hN':N'<=1000000000) :
  Calls Tryz.prog 59 #[.pointer (some ⟨p,0,none⟩),.int .i64 at_,.slice a bs.length cap] w (SPutEnd w U p tot N' T C at_ bs):=by
 have HI:=yb (is_any h)
 have HQ:=yb h
 obtain ⟨S,v0,mb,n,f,hs,hnN,hU⟩:=h
 have HS:=yb hs
 have HU:=yb hU
 have HR:=yb hr
 have HAL:=yb ha
 obtain ⟨-,c1,c2,c3⟩:=hs.cells
 have htb:=hs.totb
 have hp:=hs.set.lt p hs.set.own
 obtain ⟨x,hx⟩:∃x:Int,x=(at_:Int)+bs.length:=⟨_,rfl⟩
 have HX:=yb hx
 have hd1:decide ((at_:Int)<0)=false:=ye (by omega)
 have hd2:decide ((tot:Int)<at_)=false:=ye (by omega)
 have hd3:decide ((tot:Int)-at_<bs.length)=false:=ye (by omega)
 have hd2n:decide (tot<at_)=false:=ye (by omega)
 have hcap:=hr.2.1
 have hmx:=hr.i64
 have HTL:=yb hT
 have HNN:=yb hN
 have HN1:=yb hN'
 have HnN:=yb hnN
 clear hs hU hr ha hT hN hN' hnN
 go_enter Tryz.func59,Tryz.ntmps59
 go_wp2_with (go_at_call 70;refine HI.out.mono ?_;rintro e w' ⟨rfl,rfl⟩)
 rw [<-hx]
 obtain ⟨W,hW⟩:∃W,W=w.alloc (.cells #[.int .i64 at_,.int .i64 x] 129):=⟨_,rfl⟩
 have hbx:W.heap[w.heap.size]?=some (.cells #[.int .i64 at_,.int .i64 x] 129 (0,0)):=by rw [hW];exact zac _ rfl
 have hB:Below w.heap.size w W:=by rw [hW];exact zam _ _
 have hsz:W.heap.size=w.heap.size+1:=by rw [hW,zan]
 rw [<-hW]
 clear hW
 have HSW:=yb (HS.out.mono hB)
 have HMI:=yb (fun W' (hb:Below W.heap.size W W')=>missing_any (some ⟨p,2,none⟩) T at_ x W' ((HSW.out.mono hb).set.toV) (by have:=HTL.out;omega))
 have hml:=zev x T at_
 obtain ⟨M,hM⟩:∃M,M=zcS T ((at_:Int),x):=⟨_,rfl⟩
 have hMl:M.length<=T.length+1:=by
  rw [hM];unfold zcS
  split
  ·simp
  ·exact hml
 have hMl2:M.length<=1001:=by have:=HTL.out;omega
 rw [<-hM] at HMI
 have HML:=yb hMl
 have HM:=yb hM
 clear hM hml hMl
 have q0:W.cell? ⟨w.heap.size,0,none⟩=some (.int .i64 at_):=by rw [cell_of_row W _ 0 _ _ _ hbx];rfl
 have q1:W.cell? ⟨w.heap.size,1,none⟩=some (.int .i64 x):=by rw [cell_of_row W _ 1 _ _ _ hbx];rfl
 have HBX:=yb hbx
 have HB:=yb hB
 clear hbx hB c1 c2 c3
 clear hd1 hd2 hd3 hd2n hmx hx
 go_region_held3 (fun w'=>w'.cell? ⟨w.heap.size,0,none⟩=some (.int .i64 at_)/\w'.cell? ⟨w.heap.size,1,none⟩=some (.int .i64 x)) (first|assumption|exact ⟨q0,q1⟩|exact ⟨cell?_keep (by assumption) q0,cell?_keep (by assumption) q1⟩)
  ((go_at_call 96;refine (HMI.out _ ((Below.refl _ _).drew)).mono ?_;rintro e w3 ⟨v3,rfl,hO3,hb3⟩;obtain ⟨a3,cap3,hv3,-⟩:=Row.of_owns hO3;subst hv3;have hb4:Below W.heap.size W w3:=(Below.refl _ _).drew.trans hb3))
 have HO3:=yb (show w3.ownsRow W.heap.size 129 2 (Value.slice a3 M.length cap3) M.length (spV M) from hO3)
 have HB3:=yb hb4
 have HS3:=yb (HSW.out.mono hb4)
 have HBX3:=yb (zab hb4 HBX.out)
 have hs3:=hb4.size
 clear hO3 hb3 hb4 q0 q1
 obtain ⟨_,_,hz3,hr3,hbl3⟩:=Row.of_owns HO3.out
 cases hz3
 have HR3:=yb (show SRow w3 a3 M.length cap3 M from hr3)
 have HNEQ:=yb (show ∀z,a3=some z->¬MemS mb f z.block from fun z hz hm=>by
  have h1:=hbl3 z hz
  have h2:=HS.out.mem.lt _ hm
  omega)
 have HIN:=yb (show ∀k,k<M.length->∃F G:Nat,M.getD k (0,0)=((F:Int),(G:Int))/\at_<=F/\F<G/\G<=at_+bs.length from fun k hk=>by
  have h1:=(miss_in HS.out.form at_ bs).1 (M.getD k (0,0)) (by rw [<-HX.out,<-HM.out];exact getD_mem2 hk)
  exact ⟨(M.getD k (0,0)).1.toNat,(M.getD k (0,0)).2.toNat,Prod.ext (by simp only;omega) (by simp only;omega),by omega,by omega,by omega⟩)
 have hUS:∀b,MemS mb f b->U b:=fun b hb=>(HU.out b).2 (.inr hb)
 have HCL3:=yb (show w3.cell? ⟨p,3,none⟩=some (.map (some mb)) from HS3.out.cells.2.2.2)
 have hpm:¬MemS mb f p:=fun hm=>HS.out.ap p hm HS.out.set.own
 have HPM:=yb hpm
 have HUS:=yb hUS
 have HRW:=yb (HR.out.mono (HB.out.trans (HB3.out.mono (by omega))))
 clear hr3 hbl3 hpm hUS
 go_wp2
 go_loopw [47] (fun vi wr=>∃(k:Nat) (n':Nat) (f':Int->Option Nat),vi=.int .i64 k/\k<=M.length/\Hid (zfm w3 mb n f (putM bs at_ C (M.take k)) (k*bs.length) (M.take k) wr n' f')) (fun vi _=>M.length-(intOf vi).toNat)
 case atStart=>exact ⟨0,n,f,rfl,Nat.zero_le _,yb (by rw [Nat.zero_mul];exact zfm.start HS3.out.mem)⟩
 case round =>
  obtain ⟨k,n',f',rfl,hk,HT⟩:=hrel
  by_cases hlt:k<M.length
  ·obtain ⟨F,G,hz,hF,hFG,hG⟩:=HIN.out k hlt
   obtain ⟨b,off,rfl,_,hc⟩:=SRow.at (HR3.out.keeps HT.out.keep HNEQ.out) k hlt
   obtain ⟨hc0,hc1⟩:=hc k hlt
   rw [hz] at hc0 hc1
   simp only at hc0 hc1
   have HZ:=yb hz
   clear hc hz
   obtain ⟨b0,o0,rfl,_,_⟩:=HRW.out.at 0 0 (by omega)
   obtain ⟨u,hu⟩:∃u:Nat,u=F-at_:=⟨_,rfl⟩
   obtain ⟨v,hv⟩:∃v:Nat,v=G-at_:=⟨_,rfl⟩
   have hui:(F:Int)-at_=(u:Int):=by omega
   have hvi:(G:Int)-at_=(v:Int):=by omega
   have huv:u<v:=by omega
   have hvl:v<=bs.length:=by omega
   have hucap:u<cap:=by omega
   have hvcap:v<=cap:=by omega
   have hcmx:cap<=maxLen:=HR.out.2.2.1
   have hblk1:(wr.alloc (.cells #[.int .i64 F,.int .i64 G] 129)).heap[wr.heap.size]?=some (.cells #[.int .i64 F,.int .i64 G] 129 (0,0)):=zac _ rfl
   have hk1:zai (fun b=>wr.heap.size<=b) wr (wr.alloc (.cells #[.int .i64 F,.int .i64 G] 129)):=(zai.refl _ _).alloc _
   go_wp2_with fail
   generalize wr.alloc (.cells #[.int .i64 F,.int .i64 G] 129)=W1 at *
   have e0:W1.cell? ⟨wr.heap.size,0,none⟩=some (.int .i64 F):=by rw [cell_of_row W1 _ 0 _ _ _ hblk1];rfl
   have e1:W1.cell? ⟨wr.heap.size,1,none⟩=some (.int .i64 G):=by rw [cell_of_row W1 _ 1 _ _ _ hblk1];rfl
   have HK1:=yb hk1
   have HBL1:=yb hblk1
   have HUU:=yb (And.intro hu hv)
   clear hk1 hblk1 hu hv
   have iu:IntKind.i64.wrap (u:Int)=(u:Int):=IntWalk.i64_in _ (by unfold maxLen at hcmx;omega)
   have iv:IntKind.i64.wrap (v:Int)=(v:Int):=IntWalk.i64_in _ (by unfold maxLen at hcmx;omega)
   have hmx0:max (v:Int) 0=(v:Int):=by omega
   have hcne:¬cap=u:=by omega
   have huv':u<=v:=by omega
   have HTM:=yb (HT.out.memS)
   have hlen:((bs.drop u).take (v-u)).length=v-u:=by simp;omega
   have hW1s:=HK1.out.size
   have hws3:w3.heap.size<=wr.heap.size:=HT.out.keep.size
   have hpw:p<wr.heap.size:=by omega
   have hb0:b0<w3.heap.size:=by
    obtain ⟨b1,o1,hb1,hb2,_⟩:=HRW.out.at 0 0 (by omega)
    cases hb1;exact hb2
   have K1d:zai (fun b=>wr.heap.size<=b) wr W1.drew:=HK1.out.drewN 1
   have hb0U:¬MemS mb f b0:=fun e=>HAL.out (by omega) _ rfl (HUS.out b0 e)
   have HW5:=yb (write_any (p:=p) (HT.out.mem.keeps K1d (fun b hb hn=>by have:=HT.out.mem.lt b hb;omega)) (K1d.cell (HT.out.keep.cell HCL3.out HPM.out) (by omega))
    (fun e=>by
     rcases HTM.out p e with h1|h1
     ·exact HPM.out h1
     ·have:=hs3;omega) F (cap:=cap-u) (bs:=(bs.drop u).take (v-u))
    (row_sub ((HRW.out.keeps HT.out.keep (fun y hy=>by cases hy;exact hb0U)).keeps K1d (fun y hy=>by cases hy;show ¬wr.heap.size<=b0;omega)) u v huv hvl)
    (fun y hy e=>by
     cases hy
     rcases HTM.out b0 e with h1|h1
     ·exact hb0U h1
     ·omega)
    (by rw [hlen];have:=HUU.out;omega)
    (by
     rw [hlen]
     have h1:=HT.out.num
     have h2:(k+1)*bs.length<=(T.length+1)*bs.length:=Nat.mul_le_mul_right _ (by have:=HML.out;omega)
     rw [Nat.add_mul,Nat.one_mul] at h2
     have h3:=HNN.out
     have h4:=HN1.out
     have h5:=HnN.out
     omega))
   rw [hlen] at HW5
   have HLEN:=yb hlen
   have HKD:=yb K1d
   clear hlen K1d hb0U
   go_still_tail 13,(by kernel_rfl)
   go_wp2_with fail
   refine HW5.out.mono ?_
   intro e w5 hw5
   obtain ⟨n2,f2,hT2⟩:=HT.out.step HKD.out (z:=((F:Int),(G:Int))) (m:=bs.length) rfl (by rw [HLEN.out];have:=HUU.out;simp only;omega) (by rw [HLEN.out];omega) hw5
   obtain ⟨rfl,-⟩:=hw5
   have hT3:zfm w3 mb n f (putM bs at_ C (M.take (k+1))) ((k+1)*bs.length) (M.take (k+1)) w5 n2 f2:=by
    rw [zby M k hlt,HZ.out,putM_snoc,Nat.add_mul,Nat.one_mul]
    have e1:zeT bs at_ ((F:Int),(G:Int))=(bs.drop u).take (v-u):=by
     have:=HUU.out
     unfold zeT
     simp only [Int.toNat_natCast]
     rw [this.1,this.2,show G-at_-(F-at_)=G-F by omega]
    rw [e1]
    exact hT2
   have HT3:=yb hT3
   clear hT2 hT3 iu iv hmx0 hcne hui hvi
   go_wp2
   go_roundw
   case rel=>exact ⟨k+1,n2,f2,by go_num,by omega,HT3⟩
   case measure=>simp [intOf];omega
  ·obtain rfl:k=M.length:=by omega
   have hbw:¬MemS mb f w.heap.size:=fun e=>by have:=HS.out.mem.lt _ e;omega
   have hbx:=HT.out.keep.obj HBX3.out hbw
   have q0:wr.cell? ⟨w.heap.size,0,none⟩=some (.int .i64 at_):=by rw [cell_of_row wr _ 0 _ _ _ hbx];rfl
   have q1:wr.cell? ⟨w.heap.size,1,none⟩=some (.int .i64 x):=by rw [cell_of_row wr _ 1 _ _ _ hbx];rfl
   have hset:=HS3.out.set.keeps HT.out.keep (fun b hb e=>HS.out.ap b e hb)
   have HP:=yb (put_anyG p 2 S _ _ v0 T at_ x wr.drew (hset.mono (Below.refl _ _).drew) (fun z hz=>by
    rcases List.mem_append.1 hz with hz|hz
    ·have h1:=HS.out.form.full z hz
     have h2:=HS.out.in_ z hz
     omega
    ·simp only [List.mem_singleton] at hz
     subst hz
     have:=HX.out
     simp only
     omega) (by have:=HTL.out;omega))
   have HFIN:=yb (show ∀e w',zgX wr.drew S p 2 (srcC tot v0 mb) 146 T ((at_:Int),x) e w'->SPutEnd w U p tot N' T C at_ bs (.returned (.int .i64 0)) w' from fun e w' he=>by
    have h0:=HT.out
    rw [List.take_length] at h0
    rw [HX.out] at he
    refine sput_fin HS.out HU.out (HB.out.trans (HB3.out.mono (by omega))) h0 ((zai.refl _ wr).drewN 1) (by rw [HM.out,HX.out]) hA ?_ he
    have h2:M.length*bs.length<=(T.length+1)*bs.length:=Nat.mul_le_mul_right _ HML.out
    have h3:=HNN.out
    have h5:=HnN.out
    omega)
   clear hbw hbx hset
   go_wp2_with fail
   go_still_tail 4,(by kernel_rfl)
   go_wp2_with fail
   refine HP.out.mono ?_
   intro e w5 hw5
   have HF:=yb (HFIN.out _ _ hw5)
   obtain ⟨rfl,-⟩:=hw5
   go_wp2
   go_ret
   exact HF.out
theorem row_block {w:World} {sz:Nat} {a:Option Addr} {n cap:Nat} {xs:List Value} (h:Row w sz a n cap xs) (hn:0<n):∀x,a=some x->x.block<w.heap.size:=by
 obtain ⟨b,o,rfl,hb,-⟩:=h.2.2.2.2 hn
 intro x hx
 cases hx
 exact hb
def zgK (bs:List UInt8) (w:World) (e:Ending) (w':World):Prop :=
 ∃p U T C,e=.returned (.pointer (some ⟨p,0,none⟩))/\SrcQ w' U p bs.length bs.length T C/\T.length<=1/\Form T/\(∀i:Nat,cov T i↔i<bs.length)/\(∀i:Nat,i<bs.length->C i=bs.getD i 0)/\Below w.heap.size w w'
theorem whole_any {w:World} {a:Option Addr} {cap:Nat} {bs:List UInt8} (hr:Row w 1 a bs.length cap (bs.map u8C)) (hl:bs.length<=10000) :
  Calls Tryz.prog 39 #[.slice a bs.length cap] w (zgK bs w):=by
 have HN:=yb (new_any bs.length w (by omega))
 have HR:=yb hr
 have hmx:=hr.i64
 clear hr
 go_enter Tryz.func39,Tryz.ntmps39
 go_wp2_with (go_at_call 58;refine HN.out.mono ?_;rintro e w1 ⟨p,U,rfl,hQ,hB,hU,hp⟩)
 have HQ:=yb hQ
 have HB:=yb hB
 have HU:=yb hU
 have HP:=yb (sput_any hQ (by simp) 0 (HR.out.mono hB) (fun hn x hx hUx=>by
  have h1:=row_block HR.out hn x hx
  have h2:=hU _ hUx
  omega) (by omega) (N':=bs.length) (by simp) (by omega))
 clear hQ hB hU hp
 go_wp2_with fail
 refine HP.out.mono ?_
 rintro e w2 ⟨rfl,U',T',C',hQ',hPS,hC,hK,hU'⟩
 obtain ⟨hF,hcov⟩:=zdT hPS
 have hc:∀i:Nat,cov T' i↔i<bs.length:=fun i=>by
  rw [hcov]
  constructor
  ·rintro (h1|⟨y,hy,-,-,h2⟩)
   ·exact absurd h1 (zbG _)
   ·simp only [List.mem_singleton] at hy
    subst hy
    simp only at h2
    omega
  ·intro hi
   exact .inr ⟨_,List.mem_singleton.2 rfl,by simp,by simp,by simp only;omega⟩
 have HFIN:=yb (show zgK bs w (.returned (.pointer (some ⟨p,0,none⟩))) w2 from
  ⟨p,U',T',C',rfl,hQ',by have:=zgL hPS;simpa using this,hF,hc,fun i hi=>by
   have:=(hC i).2 (zbG _) (by omega) (by omega)
   simpa using this,HB.out.trans (hK.below HB.out.size HU.out)⟩)
 clear hQ' hPS hC hK hU' hF hcov hc
 go_wp2
 go_ret
 exact HFIN.out
theorem cov_one (a b:Nat) (i:Nat):cov [((a:Int),(b:Int))] i↔a<=i/\i<b:=by
 rw [za2]
 constructor
 ·rintro (h|h)
  ·simp only at h;omega
  ·exact absurd h (zbG _)
 ·intro h
  exact .inl ⟨by simp only;omega,by simp only;omega,by simp only;omega⟩
theorem SrcQ.form {w:World} {U:Nat->Prop} {p tot N:Nat} {T:List (Int×Int)} {C:Nat->UInt8} (h:SrcQ w U p tot N T C):Form T/\(∀x∈T,x.2<=(tot:Int))/\tot<=2147483647:=by
 obtain ⟨S,v,mb,n,f,h,-,hU⟩:=h
 exact ⟨h.form,h.in_,h.totb⟩
theorem SrcQ.keeps {w w':World} {U V:Nat->Prop} {p tot N:Nat} {T:List (Int×Int)} {C:Nat->UInt8} (h:SrcQ w U p tot N T C) (hk:zai V w w') (hV:∀b,U b->¬V b):SrcQ w' U p tot N T C:=by
 obtain ⟨S,v,mb,n,f,h,hn,hU⟩:=h
 exact ⟨S,v,mb,n,f,⟨h.set.keeps hk (fun b hb=>hV b ((hU b).2 (.inl hb))),h.mem.keeps hk (fun b hb=>hV b ((hU b).2 (.inr hb))),h.ap,h.form,h.in_,h.known,h.totb⟩,hn,hU⟩
def okS (n:Nat) (z:Int×Int):Prop:=0<=z.1/\z.1<=z.2/\z.2<=(n:Int)
def cvS (n:Nat) (L:List (Int×Int)) (i:Int):Prop:=∃z∈L,okS n z/\z.1<=i/\i<z.2
theorem cvS_snoc (n:Nat) (L:List (Int×Int)) (z:Int×Int) (i:Int):cvS n (L++[z]) i↔cvS n L i\/(okS n z/\z.1<=i/\i<z.2):=by
 constructor
 ·rintro ⟨x,hx,h⟩
  rcases List.mem_append.1 hx with hx|hx
  ·exact .inl ⟨x,hx,h⟩
  ·simp only [List.mem_singleton] at hx
   subst hx
   exact .inr h
 ·rintro (⟨x,hx,h⟩|h)
  ·exact ⟨x,List.mem_append.2 (.inl hx),h⟩
  ·exact ⟨z,List.mem_append.2 (.inr (by simp)),h⟩
structure OrdS (w0 w:World) (U:Nat->Prop) (p:Nat) (bs:List UInt8) (k:Nat) (L:List (Int×Int)):Prop where
 src:∃N T C,SrcQ w U p bs.length N T C/\(∀i:Nat,cov T i↔cvS bs.length L i)/\(∀i:Nat,cov T i->C i=bs.getD i 0)/\T.length<=k/\N<=24800*k
 lo:∀b,U b->w0.heap.size<=b
theorem OrdS.mono {w0 w w':World} {U:Nat->Prop} {p k:Nat} {bs:List UInt8} {L:List (Int×Int)} (h:OrdS w0 w U p bs k L) (hb:Below w.heap.size w w'):OrdS w0 w' U p bs k L:=by
 obtain ⟨⟨N,T,C,h1,h2⟩,h3⟩:=h
 exact ⟨⟨N,T,C,h1.mono hb,h2⟩,h3⟩
theorem OrdS.keeps {w0 w w':World} {U V:Nat->Prop} {p k:Nat} {bs:List UInt8} {L:List (Int×Int)} (h:OrdS w0 w U p bs k L) (hk:zai V w w') (hV:∀b,U b->¬V b):OrdS w0 w' U p bs k L:=by
 obtain ⟨⟨N,T,C,h1,h2⟩,h3⟩:=h
 exact ⟨⟨N,T,C,h1.keeps hk hV,h2⟩,h3⟩
theorem OrdS.lt {w0 w:World} {U:Nat->Prop} {p k:Nat} {bs:List UInt8} {L:List (Int×Int)} (h:OrdS w0 w U p bs k L):∀b,U b->b<w.heap.size:=by
 obtain ⟨⟨N,T,C,h1,h2⟩,h3⟩:=h
 exact h1.lt
theorem OrdS.skip {w0 w:World} {U:Nat->Prop} {p k:Nat} {bs:List UInt8} {L:List (Int×Int)} {z:Int×Int} (h:OrdS w0 w U p bs k L) (hz:¬okS bs.length z):OrdS w0 w U p bs (k+1) (L++[z]):=by
 obtain ⟨⟨N,T,C,h1,h2,h3,h4,h5⟩,h6⟩:=h
 refine ⟨⟨N,T,C,h1,fun i=>?_,h3,by omega,by omega⟩,h6⟩
 rw [h2 i,cvS_snoc]
 exact ⟨.inl,fun h=>h.elim id fun h=>absurd h.1 hz⟩
def chB (bs:List UInt8) (u v:Nat):List UInt8:=(bs.drop u).take (v-u)
theorem chB_len {bs:List UInt8} {u v:Nat} (hv:v<=bs.length):(chB bs u v).length=v-u:=by simp [chB];omega
theorem chB_get {bs:List UInt8} {u v i:Nat} (h1:u<=i) (h2:i<v):(chB bs u v).getD (i-u) 0=bs.getD i 0:=by
 unfold chB
 rw [List.getD_eq_getElem?_getD,List.getD_eq_getElem?_getD,List.getElem?_take,yg (by omega),List.getElem?_drop,show u+(i-u)=i by omega]
theorem ord_put {w0 w:World} {U:Nat->Prop} {p k:Nat} {bs:List UInt8} {L:List (Int×Int)} (h:OrdS w0 w U p bs k L) (hk:k<=30) (hl:bs.length<=800) (hbel:Below w0.heap.size w0 w) {u v:Nat} (huv:u<=v) (hv:v<=bs.length) {a:Option Addr} {cap:Nat}
  (hr:Row w0 1 a (v-u) cap ((chB bs u v).map u8C)) :
  Calls Tryz.prog 59 #[.pointer (some ⟨p,0,none⟩),.int .i64 u,.slice a (v-u) cap] w fun e w'=>e=.returned (.int .i64 0)/\∃U',OrdS w0 w' U' p bs (k+1) (L++[((u:Int),(v:Int))])/\zai U w w'/\∀b,U' b->U b\/w.heap.size<=b:=by
 obtain ⟨⟨N,T,C,h1,h2,h3,h4,h5⟩,h6⟩:=h
 have hcl:=chB_len (bs:=bs) (u:=u) (v:=v) hv
 have hm:(T.length+1)*(chB bs u v).length<=31*800:=Nat.mul_le_mul (by omega) (by omega)
 rw [<-hcl] at hr |-
 refine (sput_any h1 (by omega) u (hr.mono hbel) (fun hn x hx hUx=>?_) (by omega) (N':=24800*(k+1)) (by omega) (by omega)).mono ?_
 ·have g1:=row_block hr hn x hx
  have g2:=h6 _ hUx
  omega
 ·rintro e w' ⟨rfl,U',T',C',g1,g2,g3,g4,g5⟩
  obtain ⟨hF,hcov⟩:=zdT g2
  have hs:=hbel.size
  have hone:∀i:Nat,cov [((u:Int),(u:Int)+((chB bs u v).length:Int))] i↔u<=i/\i<v:=fun i=>by
   have:=cov_one u v i
   rwa [show (u:Int)+((chB bs u v).length:Int)=(v:Int) by omega]
  refine ⟨rfl,U',⟨⟨24800*(k+1),T',C',g1,fun i=>?_,fun i hi=>?_,by have:=zgL g2;omega,yp _⟩,fun b hb=>(g5 b hb).elim (h6 b) (fun e=>by omega)⟩,g4,g5⟩
  ·rw [hcov i,h2 i,cvS_snoc,hone i]
   refine or_congr Iff.rfl ⟨fun h=>⟨⟨by omega,by omega,by omega⟩,by omega,by omega⟩,fun h=>by omega⟩
  ·obtain ⟨c1,c2⟩:=g3 i
   by_cases hc:cov T i
   ·rw [c1 hc];exact h3 i hc
   ·have:=(hone i).1 (((hcov i).1 hi).resolve_left hc)
    rw [c2 hc (by omega) (by omega),chB_get (by omega) (by omega)]
def knL (n:Nat) (L:List (Int×Int)):List Bool:=(List.range n).map fun (i:Nat)=>L.any fun z=>decide (0<=z.1)&&decide (z.1<=z.2)&&decide (z.2<=(n:Int))&&decide (z.1<=(i:Int))&&decide ((i:Int)<z.2)
theorem knL_len (n:Nat) (L:List (Int×Int)):(knL n L).length=n:=by simp [knL]
theorem knL_get {n:Nat} {L:List (Int×Int)} {i:Nat} (hi:i<n):(knL n L).getD i false=true↔cvS n L i:=by
 have:(knL n L).getD i false=L.any fun z=>decide (0<=z.1)&&decide (z.1<=z.2)&&decide (z.2<=(n:Int))&&decide (z.1<=(i:Int))&&decide ((i:Int)<z.2):=by
  simp [knL,List.getD_eq_getElem?_getD,hi]
 rw [this,List.any_eq_true]
 constructor
 ·rintro ⟨z,hz,h⟩
  simp only [Bool.and_eq_true,decide_eq_true_eq] at h
  exact ⟨z,hz,⟨h.1.1.1.1,h.1.1.1.2,h.1.1.2⟩,h.1.2,h.2⟩
 ·rintro ⟨z,hz,⟨h1,h2,h3⟩,h4,h5⟩
  refine ⟨z,hz,?_⟩
  simp only [Bool.and_eq_true,decide_eq_true_eq]
  exact ⟨⟨⟨⟨h1,h2⟩,h3⟩,h4⟩,h5⟩
structure KnS (w:World) (U:Nat->Prop) (p:Nat) (bs:List UInt8) (kn:List Bool):Prop where
 src:∃N T C,SrcQ w U p bs.length N T C/\(∀i:Nat,i<bs.length->(cov T i↔kn.getD i false=true))/\(∀i:Nat,cov T i->C i=bs.getD i 0)/\T.length<=100
 len:kn.length=bs.length
theorem KnS.mono {w w':World} {U:Nat->Prop} {p:Nat} {bs:List UInt8} {kn:List Bool} (h:KnS w U p bs kn) (hb:Below w.heap.size w w'):KnS w' U p bs kn:=by
 obtain ⟨⟨N,T,C,h1,h2⟩,h3⟩:=h
 exact ⟨⟨N,T,C,h1.mono hb,h2⟩,h3⟩
theorem OrdS.kn {w0 w:World} {U:Nat->Prop} {p:Nat} {bs:List UInt8} {k:Nat} {L:List (Int×Int)} (h:OrdS w0 w U p bs k L) (hk:k<=100):KnS w U p bs (knL bs.length L):=by
 obtain ⟨⟨N,T,C,h1,h2,h3,h4,h5⟩,h6⟩:=h
 exact ⟨⟨N,T,C,h1,fun i hi=>by rw [h2 i,knL_get hi],h3,by omega⟩,knL_len _ _⟩
theorem whole_kn {w w':World} {bs:List UInt8} {e:Ending} (h:zgK bs w e w'):∃p U,e=.returned (.pointer (some ⟨p,0,none⟩))/\KnS w' U p bs (List.replicate bs.length true)/\Below w.heap.size w w':=by
 obtain ⟨p,U,T,C,rfl,h1,h2,h3,h4,h5,h6⟩:=h
 refine ⟨p,U,rfl,⟨⟨_,T,C,h1,fun i hi=>?_,fun i hi=>h5 i ((h4 i).1 hi),by omega⟩,by simp⟩,h6⟩
 rw [h4 i]
 simp [List.getD_eq_getElem?_getD,hi]
theorem upto_is2 {T:List (Int×Int)} {n a b:Nat} (hF:Form T) (hin:∀x∈T,x.2<=(n:Int)) (h1:a<=b) (h2:b<=n) (h3:∀i:Nat,a<=i->i<b->cov T i) (h4:b<n->¬cov T b):zbW T a=b:=by
 obtain ⟨g1,g2,g3⟩:=zeZ n T a (fun x hx=>(hF.full x hx).1)
 have g4:=g3 hin (by omega)
 obtain ⟨u,hu⟩:∃u:Nat,zbW T a=(u:Int):=⟨(zbW T a).toNat,by omega⟩
 have hn:¬cov T (zbW T a):=by
  obtain ⟨h1,h2⟩:=zgD hF (a:Int)
  by_cases h0:cov T a
  ·exact (h1 h0).2.2
  ·rw [h2 h0];exact h0
 rw [hu] at g1 g2 g4 hn |-
 have e1:¬u<b:=fun e=>hn (h3 u (by omega) e)
 have e2:¬b<u:=fun e=>h4 (by omega) (g2 (b:Int) (by omega) (by omega))
 omega
theorem upto_next {T:List (Int×Int)} {n:Nat} {kn:List Bool} (hF:Form T) (hin:∀x∈T,x.2<=(n:Int)) (hl:kn.length=n) (hc:∀i:Nat,i<n->(cov T i↔kn.getD i false=true)) {a:Nat} (ha:a<=n):zbW T a=(zaU kn a:Nat):=by
 obtain ⟨b1,b2⟩:=zeb (kn:=kn) (a:=a) (by omega)
 have hw:∀(l:List Bool) (i:Nat),i<(l.takeWhile id).length->l.getD i false=true:=by
  intro l
  induction l with
  | nil=>intro i hi;simp at hi
  | cons x l ih =>
   intro i hi
   cases x
   ·simp at hi
   ·cases i with
    | zero=>rfl
    | succ i=>simp at hi;simpa using ih i (by omega)
 have hs:∀(l:List Bool),(l.takeWhile id).length<l.length->l.getD (l.takeWhile id).length false=false:=by
  intro l
  induction l with
  | nil=>intro h;simp at h
  | cons x l ih =>
   intro h
   cases x
   ·rfl
   ·simp at h;simpa using ih (by omega)
 refine upto_is2 hF hin b1 (by omega) (fun i h1 h2=>?_) (fun h=>?_)
 ·refine (hc i (by omega)).2 ?_
  have:=hw (kn.drop a) (i-a) (by unfold zaU at h2;omega)
  rw [List.getD_eq_getElem?_getD,List.getElem?_drop,show a+(i-a)=i by omega] at this
  rwa [List.getD_eq_getElem?_getD]
 ·intro hcv
  have h4:=(hc (zaU kn a) h).1 hcv
  have h5:=hs (kn.drop a) (by rw [ym];unfold zaU at h;omega)
  rw [List.getD_eq_getElem?_getD,List.getElem?_drop] at h5
  rw [List.getD_eq_getElem?_getD] at h4
  unfold zaU at h4
  rw [h4] at h5
  cases h5
theorem ktotal {w:World} {U:Nat->Prop} {p:Nat} {bs:List UInt8} {kn:List Bool} (h:KnS w U p bs kn):Calls Tryz.prog 54 #[.pointer (some ⟨p,0,none⟩)] w fun e w'=>e=.returned (.int .i64 (bs.length:Nat))/\w=w':=by
 obtain ⟨⟨N,T,C,h1,-⟩,-⟩:=h
 exact total_any h1
theorem kfirst {w:World} {U:Nat->Prop} {p:Nat} {bs:List UInt8} {kn:List Bool} (h:KnS w U p bs kn) {a:Nat} (ha:a<=bs.length) :
  Calls Tryz.prog 38 #[.pointer (some ⟨p,0,none⟩),.int .i64 a] w fun e w'=>e=.returned (.int .i64 (zaU kn a:Nat))/\Below w.heap.size w w':=by
 obtain ⟨⟨N,T,C,h1,h2,h3,h4⟩,h5⟩:=h
 obtain ⟨hF,hin,htb⟩:=h1.form
 have hu:=upto_next hF hin h5 h2 ha
 obtain ⟨b1,b2⟩:=zeb (kn:=kn) (a:=a) (by omega)
 have:=first_any h1 (by omega) (a:Int)
 rw [show max (0:Int) (a:Int)=(a:Int) by omega,hu,show min (bs.length:Int) (zaU kn a:Nat)=(zaU kn a:Nat) by omega] at this
 exact this
theorem kread {w:World} {U:Nat->Prop} {p:Nat} {bs:List UInt8} {kn:List Bool} (h:KnS w U p bs kn) {a:Nat} (ha:a<=bs.length) {most:Int} (hm:(bs.length:Int)-a<=most) (h64:most<=9223372036854775807) :
  Calls Tryz.prog 55 #[.pointer (some ⟨p,0,none⟩),.int .i64 a,.int .i64 most] w fun e w'=>∃v,e=.returned (.tuple #[v,.bool (zaU kn a==bs.length)]) /\
   w'.ownsRow w.heap.size 5 1 v ((bs.drop a).take (zaU kn a-a)).length (((bs.drop a).take (zaU kn a-a)).map u8C)/\Below w.heap.size w w':=by
 obtain ⟨⟨N,T,C,h1,h2,h3,h4⟩,h5⟩:=h
 obtain ⟨hF,hin,htb⟩:=h1.form
 have hu:=upto_next hF hin h5 h2 ha
 obtain ⟨b1,b2⟩:=zeb (kn:=kn) (a:=a) (by omega)
 obtain ⟨m,hm2⟩:∃m,m=zaU kn a-a:=⟨_,rfl⟩
 have hlen:((bs.drop a).take m).length=m:=by rw [List.length_take,ym];omega
 have hcv:∀j:Nat,a<=j->j<a+m->cov T j:=by
  obtain ⟨g1,g2,g3⟩:=zeZ bs.length T a (fun x hx=>(hF.full x hx).1)
  intro j hj hj2
  exact g2 j (by omega) (by rw [hu];omega)
 have hby:zb0 C a m=(bs.drop a).take m:=by
  unfold zb0
  apply List.ext_getElem?
  intro j
  by_cases hj:j<m
  ·have e1:((List.range m).map fun i=>C (a+i))[j]?=some (C (a+j)):=by simp [hj]
   have hjl:a+j<bs.length:=by omega
   rw [e1,h3 _ (hcv _ (by omega) (by omega))]
   simp [hj,hjl,List.getD]
  ·rw [List.getElem?_eq_none (by simp;omega),List.getElem?_eq_none (by rw [hlen];omega)]
 rw [<-hm2,hlen,<-hby]
 refine (read_any h1 (by omega) a (by omega) most (by omega) h64 (n:=m) (by rw [hu];omega)).mono ?_
 rintro e w' ⟨v,rfl,hO,hB⟩
 refine ⟨v,?_,hO,hB⟩
 rw [show decide (a+m=bs.length)=(zaU kn a==bs.length) by rw [show a+m=zaU kn a by omega];by_cases h:zaU kn a=bs.length<;>simp [h]]
end Go.Proofs.YtfafdeemfeaedaaGreat
namespace Go.Proofs.YtfafdeemfeaedaaGreat
open Go.RowKit Go.Sort
theorem KnS.srcI {w:World} {U:Nat->Prop} {p:Nat} {bs:List UInt8} {kn:List Bool} (h:KnS w U p bs kn):SrcI w p bs kn :=
 ⟨h.len,fun W hW=>ktotal (h.mono hW),fun W hW a ha=>kfirst (h.mono hW) ha,fun W hW a most ha hm h64=>(kread (h.mono hW) ha hm h64).mono fun e w' ⟨v,he,hO,hB⟩=>by
  obtain ⟨x,c,rfl,-,-⟩:=zas hO
  exact ⟨x,c,he,(Row.of_own hO).2,hB⟩⟩
theorem slice_mid {W:World} {a:Option Addr} {cap:Nat} {bs:List UInt8} (hr:Row W 1 a bs.length cap (bs.map u8C)) {u v:Nat} (huv:u<=v) (hv:v<=bs.length) :
  ∃a' c',(∀W':World,(Instr.slice 22 (.slice a bs.length cap) (some (.int .i64 (u:Int))) (some (.int .i64 (v:Int))) none).run Tryz.prog W'=.ok (.slice a' (v-u) c') W')/\Row W 1 a' (v-u) c' ((chB bs u v).map u8C):=by
 have hcp:=hr.2.1
 have hcm:=hr.2.2.1
 have ht':Tryz.prog.underlying 22=some (.slice (Tryz.prog.elem 22)):=by simp [Program.elem,Tryz.underlying22]
 have he:Tryz.prog.elem 22=5:=by simp [Program.elem,Tryz.underlying22]
 refine ⟨if cap=u then a else a.map fun x=>x.add (u*1),cap-u,fun W'=>?_,?_⟩
 ·rw [run_slice_lh W' 22 _ _ _ ht' .i64 .i64 _ _ (by omega) (by omega) (by omega),he,szByte]
  cases a with
  | none=>simp [Result.andThen,sliced]
  | some x=>by_cases hc:cap=u<;>simp [Result.andThen,sliced,hc]
 ·refine ⟨by rw [List.length_map,chB_len hv];omega,by omega,by omega,fun h=>?_,fun h0=>?_⟩
  ·split at h
   ·omega
   ·cases a with
    | none=>have:=hr.2.2.2.1 rfl;omega
    | some x=>cases h
  ·obtain ⟨b,o,rfl,hb,hc⟩:=hr.2.2.2.2 (by omega)
   rw [yh (by omega)]
   refine ⟨b,o+u,by simp [Addr.add],hb,fun j x hj=>?_⟩
   have hx:(bs.map u8C)[u+j]?=some x:=by
    rw [List.getElem?_map] at hj |-
    obtain ⟨y,hy,hyx⟩:=Option.map_eq_some_iff.1 hj
    unfold chB at hy
    rw [List.getElem?_take] at hy
    split at hy
    ·rw [List.getElem?_drop] at hy;rw [hy];exact congrArg some hyx
    ·cases hy
   rw [Nat.add_assoc]
   exact hc _ _ hx
theorem sparse_any {w:World} {a sa:Option Addr} {cap n sc:Nat} {bs:List UInt8} {L:List (Int×Int)} (hr:Row w 1 a bs.length cap (bs.map u8C)) (hl:bs.length<=800) (hs:SRow w sa n sc L) (hn:n<=30) :
  Calls Tryz.prog 21 #[.slice a bs.length cap,.slice sa n sc] w fun e w'=>∃p U,e=.returned (.pointer (some ⟨p,0,none⟩))/\KnS w' U p bs (knL bs.length L)/\Below w.heap.size w w':=by
 have HN:=yb (new_any bs.length w (by omega))
 have HR:=yb hr
 have HS:=yb hs
 have HLN:=yb hs.len
 have hcapb:=hr.i64c
 clear hr hs
 go_enter Tryz.func21,Tryz.ntmps21
 go_wp2_with fail
 refine HN.out.mono ?_
 rintro e w1 ⟨p,U0,rfl,hQ,hb1,hU,hUp⟩
 have HO1:=yb (show OrdS w w1 U0 p bs 0 [] from ⟨⟨0,[],fun _=>0,hQ,fun i=>⟨fun h=>absurd h (zbG _),fun ⟨z,hz,_⟩=>(by cases hz)⟩,fun i h=>absurd h (zbG _),yp _,Nat.zero_le _⟩,hU⟩)
 have HB1:=yb hb1
 clear hQ hb1 hU hUp HN
 go_wp2_with fail
 go_loopw [7] (fun v7 wr=>∃(k:Nat) (U:Nat->Prop),v7=.int .i64 k/\k<=n/\Hid (OrdS w wr U p bs k (L.take k))/\Hid (Below w.heap.size w wr)) (fun v _=>n-(intOf v).toNat)
 case atStart=>exact ⟨0,U0,rfl,Nat.zero_le _,HO1,HB1⟩
 case round =>
  obtain ⟨k,U,rfl,hk,HO,HB⟩:=hrel
  by_cases hlt:k<n
  ·have hcd:decide ((k:Int)<(n:Int))=true:=yd (by omega)
   have hcd2:decide (k<n)=true:=yd hlt
   obtain ⟨b,off,rfl,-,hc⟩:=SRow.at (HS.out.mono HB.out) k hlt
   obtain ⟨c0,c1⟩:=hc k hlt
   have HTK:=yb (show L.take (k+1)=L.take k++[L.getD k (0,0)] from zby L k (by have:=HLN.out;omega))
   obtain ⟨⟨x,y⟩,hxy⟩:∃z,z=L.getD k (0,0):=⟨_,rfl⟩
   rw [<-hxy] at c0 c1 HTK
   clear hxy hc
   simp only at c0 c1
   have HT1:=yb (zac (w:=wr) (b:=wr.heap.size) (.cells #[.int .i64 x,.int .i64 y] 129) rfl)
   have HO2:=yb (HO.out.mono (zam wr (.cells #[.int .i64 x,.int .i64 y] 129)))
   have HB2:=yb (HB.out.alloc HB.out.size (.cells #[.int .i64 x,.int .i64 y] 129))
   have HUT:=yb (show ¬U wr.heap.size from fun h=>by have:=HO.out.lt _ h;omega)
   clear HO HB
   go_upto_region 6 with fail
   generalize wr.heap.size=T at *
   generalize World.alloc _ _=W1 at *
   clear c0 c1
   obtain ⟨⟨t0,t1⟩,-⟩:=zaR HT1.out
   by_cases hok:okS bs.length (x,y)
   ·obtain ⟨h1,h2,h3⟩:=hok
    simp only at h1 h2 h3
    obtain ⟨u,rfl⟩:=Int.eq_ofNat_of_zero_le h1
    obtain ⟨v,rfl⟩:=Int.eq_ofNat_of_zero_le (show 0<=y by omega)
    have huv:u<=v:=by omega
    have hvl:v<=bs.length:=by omega
    have d2:decide (u<=v)=true:=yd huv
    have d2i:decide ((u:Int)<=v)=true:=yd (by omega)
    have d3:decide (v<=bs.length)=true:=yd hvl
    have d3i:decide ((v:Int)<=bs.length)=true:=yd (by omega)
    obtain ⟨a',c',hsl,hrow⟩:=slice_mid HR.out huv hvl
    have HPUT:=yb (ord_put (HO2.out.mono (Below.refl _ W1).drew) (by omega) hl HB2.out.drew huv hvl hrow)
    have e0:=cell?_keep (Below.refl _ W1).drew t0
    have e1:=cell?_keep (Below.refl _ W1).drew t1
    clear hrow h1 h2 h3
    go_wp2_with fail
    go_region_held3 (fun w'=>w'.cell? ⟨T,0,none⟩=some (.int .i64 (u:Nat))/\w'.cell? ⟨T,1,none⟩=some (.int .i64 (v:Nat))) (first|assumption|exact ⟨e0,e1⟩|exact ⟨hk5.cell e0 HUT.out,hk5.cell e1 HUT.out⟩)
     ((go_at_call 59;refine HPUT.out.mono ?_;rintro e w5 ⟨rfl,U',hT5,hk5,hU5⟩))
    all_goals (try go_wp2_with fail)
    all_goals go_roundw
    case rel=>exact ⟨k+1,U',by go_num,hlt,yb (by rw [HTK.out];exact hT5),yb (HB2.out.drew.trans (hk5.below HB2.out.drew.size (fun b hb=>HO2.out.lo b hb)))⟩
    case measure=>simp [intOf];omega
   ·have HSK:=yb (HO2.out.skip hok)
    by_cases h1:0<=x
    ·have d1:decide (0<=x)=true:=yd h1
     by_cases h2:x<=y
     ·have d2:decide (x<=y)=true:=yd h2
      have d3:decide (y<=(bs.length:Int))=false:=ye (fun h=>hok ⟨h1,h2,h⟩)
      clear hok
      go_wp2_with fail
      go_roundw
      case rel=>exact ⟨k+1,U,by go_num,hlt,yb (by rw [HTK.out];exact HSK.out),HB2⟩
      case measure=>simp [intOf];omega
     ·have d2:decide (x<=y)=false:=ye h2
      clear hok
      go_wp2_with fail
      go_roundw
      case rel=>exact ⟨k+1,U,by go_num,hlt,yb (by rw [HTK.out];exact HSK.out),HB2⟩
      case measure=>simp [intOf];omega
    ·have d1:decide (0<=x)=false:=ye h1
     clear hok
     go_wp2_with fail
     go_roundw
     case rel=>exact ⟨k+1,U,by go_num,hlt,yb (by rw [HTK.out];exact HSK.out),HB2⟩
     case measure=>simp [intOf];omega
  ·have hcd:decide ((k:Int)<(n:Int))=false:=ye (by omega)
   have hcd2:decide (k<n)=false:=ye hlt
   have HE:=yb (show KnS wr U p bs (knL bs.length L) by
    have h:=HO.out.kn (by omega)
    rwa [List.take_of_length_le (by have:=HLN.out;omega)] at h)
   go_wp2_with fail
   go_ret
   exact ⟨p,U,rfl,HE.out,HB.out⟩
end Go.Proofs.YtfafdeemfeaedaaGreat
namespace Go.Proofs.YtfafdeemfeaedaaGreat
open Go.RowKit
theorem tabF_neg {t:Tab} {n:Int} (h:n<1\/(t.ps.length:Int)<n\/t.ps.getD (n-1).toNat 0<0):tabF t n=(0,false):=by unfold tabF;rw [yg h]
theorem tabF_pos {t:Tab} {n:Int} (h:¬(n<1\/(t.ps.length:Int)<n\/t.ps.getD (n-1).toNat 0<0)):tabF t n=(t.ps.getD (n-1).toNat 0,true):=by unfold tabF;rw [yh h]
def FndEnd (w:World) (V:Int×Bool) (e:Ending) (w':World):Prop:=e=.returned (.tuple #[.int .i64 V.1,.bool V.2])/\Below w.heap.size w w'
theorem tfind_any {w:World} {a:Option Addr} {c:Nat} {ps:List Int} (h:Row w 1 a ps.length c (ps.map (Value.int .i64))) (r0 n:Int) (hn:n<=9223372036854775807) :
  Calls Tryz.prog 32 #[.agg #[.slice a ps.length c,.int .i64 r0],.int .i64 n] w (FndEnd w (tabF ⟨ps,r0⟩ n)):=by
 have hi:=h.i64
 have HB1:=yb (zam w (.cells #[.slice a ps.length c,.int .i64 r0] 74))
 have HA:=yb (h.mono HB1.out)
 obtain ⟨B,hB⟩:∃B,B=w.heap.size:=⟨_,rfl⟩
 have HX1:=yb (zac (w:=w) (b:=B) (.cells #[.slice a ps.length c,.int .i64 r0] 74) hB)
 have HN:=yb (fun h=>tabF_neg (t:=⟨ps,r0⟩) (n:=n) h)
 have HP:=yb (fun h=>tabF_pos (t:=⟨ps,r0⟩) (n:=n) h)
 generalize tabF ⟨ps,r0⟩ n=V at *
 simp only at HN HP
 clear h
 go_enter Tryz.func32,Tryz.ntmps32
 go_upto_region 1 with fail
 try rw [<-hB]
 generalize World.alloc _ _=W1 at *
 clear hB
 obtain ⟨⟨p0,p1⟩,-⟩:=zaR HX1.out
 by_cases h1:n<1
 ·have d1:decide (n<1)=true:=yd h1
  have HE:=yb (HN.out (.inl h1))
  clear HN HP h1
  go_wp2_with fail
  go_ret2
  rw [HE.out]
  exact ⟨rfl,HB1.out⟩
 have d1:decide (n<1)=false:=ye h1
 by_cases h2:(ps.length:Int)<n
 ·have d2:decide ((ps.length:Int)<n)=true:=yd h2
  have HE:=yb (HN.out (.inr (.inl h2)))
  clear HN HP h1 h2
  go_wp2_with fail
  go_ret2
  rw [HE.out]
  exact ⟨rfl,HB1.out⟩
 have d2:decide ((ps.length:Int)<n)=false:=ye h2
 obtain ⟨k,rfl⟩:∃k:Nat,n=(k:Int)+1:=⟨(n-1).toNat,by omega⟩
 have hk:k<ps.length:=by omega
 rw [show ((k:Int)+1-1).toNat=k by omega] at HN HP
 have hkk:(k:Int)+1-1=(k:Int):=by omega
 obtain ⟨b,o,rfl,-,hc⟩:=HA.out.at 0 k hk
 have c0:=hc k hk
 have hki:(k:Int)<(ps.length:Int):=by omega
 clear hc
 generalize ps.getD k 0=x at *
 by_cases h3:x<0
 ·have d3:decide (x<0)=true:=yd h3
  have HE:=yb (HN.out (.inr (.inr h3)))
  clear HN HP h1 h2 h3
  go_wp2_with fail
  go_ret2
  rw [HE.out]
  exact ⟨rfl,HB1.out⟩
 ·have d3:decide (x<0)=false:=ye h3
  have HE:=yb (HP.out (by rintro (h|h|h);exact h1 h;exact h2 h;exact h3 h))
  clear HN HP h1 h2 h3
  go_wp2_with fail
  go_ret2
  rw [HE.out]
  exact ⟨rfl,HB1.out⟩
def wk17:List UInt8:=[120,114,101,102,10,48,32,50,10,48,48,48,48,48,48,48,48,48,48,32,54,53,53,51,53,32,102,32,10,48,48,48,48,48,48,48,48,48,55,32,48,48,48,48,48,32,110,32,10,
 116,114,97,105,108,101,114,60,60,47,82,111,111,116,32,49,32,48,32,82,47,83,105,122,101,32,50,62,62,10,115,116,97,114,116,120,114,101,102,10,48,10,37,37,69,79,70,10]
def kn17:List Bool:=List.replicate wk17.length true
theorem wk17_load:loadV wk17 kn17=(⟨[7],1⟩,0,0):=by kernel_rfl
theorem wk17_start:zbv wk17 kn17=(0,0,0):=by kernel_rfl
theorem wk17_secs:(zbY wk17 kn17 33 [] [] 0).1.length=1/\(zbY wk17 kn17 33 [] [] 0).2=(0,0):=⟨by kernel_rfl,by kernel_rfl⟩
theorem wk17_find:tabF ⟨[7],1⟩ 1=(7,true):=by kernel_rfl
theorem works17 (w:World):Calls Tryz.prog 19 #[] w fun e w'=>e=.returned (.bool true)/\Below w.heap.size w w':=by
 have HWH:=yb (whole_any (row_bsX (w:=w) wk17 5 (by decide)) (by decide))
 have hcv:=fun (W:World) (C:Array Value) (n c:Nat)=>Lib.run_convert_bytes_const (P:=Tryz.prog) W 22 5 C n c Tryz.underlying22 Tryz.underlying5
 obtain ⟨zs,hzs⟩:∃zs,zs=wk17.map fun c=>(c.toNat:Int):=⟨_,rfl⟩
 have HZ:=yb hzs
 have HL97:=yb (show 97=zs.length by rw [hzs];rfl)
 have HZM:=yb (show zs.map (Value.int .u8)=wk17.map u8C by rw [hzs,List.map_map];rfl)
 clear hzs
 rw [show wk17.length=97 from rfl] at HWH
 go_enter Tryz.func19,Tryz.ntmps19
 go_upto_region 2 with (refine Go.wpList_buildFlat rfl 22 5 97 _ rfl .u8 zs Tryz.underlying22 (by kernel_rfl) (by kernel_rfl) HL97.out (by decide) (by decide) (by rw [HZ.out];kernel_rfl) ?_)
 rw [HZM.out,<-HL97.out]
 clear HZ HL97 HZM
 go_wp2_with fail
 refine HWH.out.mono ?_
 rintro e w1 h1
 obtain ⟨p,U,rfl,hK,hb1⟩:=whole_kn h1
 have HI:=yb hK.srcI
 have HB1:=yb ((zam w _).trans (hb1.mono (by rw [zan];omega)))
 have HL:=yb (load_any HI.out (by decide))
 rw [show List.replicate wk17.length true=kn17 from rfl] at HI HL
 rw [wk17_load] at HL
 clear h1 hK hb1 hcv HWH
 go_wp2_with fail
 refine HL.out.mono ?_
 rintro e w2 ⟨pa,pc,rfl,hrow,-,hb2⟩
 have hb2a:=hb2.alloc hb2.size (.cells #[.slice pa 1 pc,.int .i64 1] 74)
 have HX2:=yb hb2a
 have HT2:=yb (zac (w:=w2) (b:=w2.heap.size) (.cells #[.slice pa 1 pc,.int .i64 1] 74) rfl)
 have HB2:=yo HB1 hb2a
 have HF:=yb (tfind_any (ps:=[7]) (hrow.mono (zam w2 (.cells #[.slice pa 1 pc,.int .i64 1] 74))) 1 1 (by omega))
 rw [wk17_find] at HF
 unfold FndEnd at HF
 simp only [List.length_singleton] at HF |-
 clear hb2 hb2a hrow HL HB1
 go_upto_region 4 with fail
 generalize w2.heap.size=T at *
 generalize World.alloc _ _=W2 at *
 obtain ⟨⟨t0,t1⟩,-⟩:=zaR HT2.out
 go_wp2_with fail
 refine HF.out.mono ?_
 rintro e w3 ⟨rfl,hb3⟩
 have HX3:=yo HX2 hb3
 have HT3:=yb (zab hb3 HT2.out)
 have HB3:=yo HB2 hb3
 have HS:=yb (zda (HI.out.mono HX3.out) (by decide) 0)
 clear hb3 HX2 HT2 HB2 HF t0 t1
 go_wp2_with fail
 refine HS.out.mono ?_
 rintro e w4 ⟨lv,rfl,hlv,hb4⟩
 obtain ⟨la,lc,rfl,-,-,-⟩:=hlv.len
 rw [wk17_secs.1,wk17_secs.2]
 have HX4:=yo HX3 hb4
 have HT4:=yb (zab hb4 HT3.out)
 have HB4:=yo HB3 hb4
 have HST:=yb (start_any (HI.out.mono HX4.out) (by decide))
 rw [wk17_start] at HST
 clear hb4 HX3 HT3 HB3 HS hlv
 go_wp2_with fail
 refine HST.out.mono ?_
 rintro e w5 ⟨rfl,hb5⟩
 have HT5:=yb (zab hb5 HT4.out)
 have HB5:=yo HB4 hb5
 clear hb5 HX4 HT4 HB4 HST
 obtain ⟨⟨t0,t1⟩,-⟩:=zaR HT5.out
 go_wp2_with fail
 go_ret
 exact ⟨rfl,HB5.out⟩
end Go.Proofs.YtfafdeemfeaedaaGreat
namespace Go.Proofs.YtfafdeemfeaedaaGreat
open Go.RowKit Go.Sort
theorem made_flJ (z:Value) (n:Nat):(madeCells #[z] (n*1)).toList=fl n (fun _=>z):=by
 rw [Nat.mul_one,toList_madeCells_one,zeG]
theorem own_cellJ {w:World} {base e g n cap:Nat} {enc:Nat->Value} (h:w.ownsRow base e 1 (.slice (some ⟨g,0,none⟩) n cap) n (fl n enc)) (i:Nat) (hi:i<n):w.cell? ⟨g,i,none⟩=some (enc i):=by
 rw [h.cellAt i (by omega),zfb enc hi]
theorem own_setJ {w:World} {base e g n cap:Nat} {enc:Nat->Value} (h:w.ownsRow base e 1 (.slice (some ⟨g,0,none⟩) n cap) n (fl n enc)) (i:Nat) (v:Value) :
  (w.setCell ⟨g,i,none⟩ v).ownsRow base e 1 (.slice (some ⟨g,0,none⟩) n cap) n (fl n (fun j=>if j=i then v else enc j)):=by
 rw [<-fl_set];exact (h.stored i v).1
theorem zeA {w:World} {base e sz:Nat} {v:Value} {n:Nat} {xs ys:List Value} (h:w.ownsRow base e sz v n xs) (hx:xs=ys):w.ownsRow base e sz v n ys:=hx▸h
theorem ETBlJ:zcU Tryz.prog 57 4 (.bool false) 1 1:=⟨Tryz.underlying57,by kernel_rfl,rfl,by omega⟩
def anyS (n:Nat) (L:List (Int×Int)) (i:Nat):Bool:=L.any fun z=>decide (0<=z.1)&&decide (z.1<=z.2)&&decide (z.2<=(n:Int))&&decide (z.1<=(i:Int))&&decide ((i:Int)<z.2)
theorem knL_fl (n:Nat) (L:List (Int×Int)):(knL n L).map Value.bool=fl n (fun i=>.bool (anyS n L i)):=by simp [knL,fl,anyS,Function.comp_def]
theorem zd9 (n:Nat) (L:List (Int×Int)) (z:Int×Int) (i:Nat):anyS n (L++[z]) i=(anyS n L i||(decide (0<=z.1)&&decide (z.1<=z.2)&&decide (z.2<=(n:Int))&&decide (z.1<=(i:Int))&&decide ((i:Int)<z.2))):=by
 simp [anyS,List.any_append]
theorem infoFile:(Tryz.prog.info? 59).map (·.size)=some 2:=by kernel_rfl
section
variable {w : World} {a : Option Addr} {cap : Nat} {bs : List UInt8} {r mb fb : Nat}
structure SpM (w:World) (a:Option Addr) (cap:Nat) (bs:List UInt8) (r mb fb:Nat) (wr:World) (M:Nat->Bool):Prop where
 res:wr.heap[r]?=some (.cells #[.slice none 0 0,.slice none 0 0] 59 (0,0))
 fil:wr.heap[fb]?=some (.cells #[.slice a bs.length cap,.slice (some ⟨mb,0,none⟩) bs.length bs.length] 59 (0,0))
 own:wr.ownsRow (w.heap.size+1) 4 1 (.slice (some ⟨mb,0,none⟩) bs.length bs.length) bs.length (fl bs.length fun i=>.bool (M i))
 bel:Below w.heap.size w wr
 ne:r≠mb/\fb≠mb/\w.heap.size<=r
theorem SpM.on {wr wr':World} {M:Nat->Bool} (h:SpM w a cap bs r mb fb wr M) (hb:Below wr.heap.size wr wr'):SpM w a cap bs r mb fb wr' M :=
 ⟨zab hb h.res,zab hb h.fil,zaE h.own fun b hb2=>hb.block b (h.own.lt b hb2).2,h.bel.trans (hb.mono h.bel.size),h.ne⟩
theorem SpM.set {wr:World} {M M':Nat->Bool} (h:SpM w a cap bs r mb fb wr M) (i:Nat) (hM:∀j,j<bs.length->M' j=if j=i then true else M j):SpM w a cap bs r mb fb (wr.setCell ⟨mb,i,none⟩ (.bool true)) M' :=
 ⟨by rw [heap_setCell_other _ _ _ _ h.ne.1];exact h.res,by rw [heap_setCell_other _ _ _ _ h.ne.2.1];exact h.fil,
  zeA (own_setJ h.own i (.bool true)) (zdG fun j hj=>by rw [hM j hj];split<;>rfl),
  h.bel.setCell (show w.heap.size<=mb by have:=(h.own.lt mb rfl).1;omega) _,h.ne⟩
end
theorem rsparse_any {w:World} {a sa:Option Addr} {cap n sc:Nat} {bs:List UInt8} {L:List (Int×Int)} (hr:Row w 1 a bs.length cap (bs.map u8C)) (hl:bs.length<=800) (hs:SRow w sa n sc L) (hn:n<=30) :
  Calls Tryz.prog 23 #[.slice a bs.length cap,.slice sa n sc] w fun e w'=>∃ka kc,e=.returned (.agg #[.slice a bs.length cap,.slice ka bs.length kc])/\FlM w' a cap bs ka kc (knL bs.length L)/\Below w.heap.size w w':=by
 have HR:=yb hr
 have HS:=yb hs
 have HLN:=yb hs.len
 clear hr hs
 obtain ⟨r,hrr⟩:∃r,r=w.heap.size:=⟨_,rfl⟩
 have HZ1:=yb (zac (w:=w) (b:=r) (.cells #[.slice none 0 0,.slice none 0 0] 59) hrr)
 have HB1:=yb (zam w (.cells #[.slice none 0 0,.slice none 0 0] 59))
 have HSZ:=yb (zan w (.cells #[.slice none 0 0,.slice none 0 0] 59))
 have HRW:=yb hrr
 go_enter Tryz.func23,Tryz.ntmps23
 go_upto_region 1 with fail
 try rw [<-hrr]
 clear hrr
 generalize w.alloc _=W1 at *
 go_upto_region 2 with (at_make;refine make_full ETBlJ rfl _ _ rfl .i64 .i64 _ _ bs.length rfl rfl rfl rfl (by omega) (by unfold maxLen;omega) ?_;intro w1 hown hb1;have HO1:=yb (zeA hown (made_flJ _ bs.length));have HB2:=yb hb1;clear hown hb1)
 obtain ⟨mb,hmb⟩:∃mb,mb=W1.heap.size:=⟨_,rfl⟩
 rw [<-hmb] at HO1 |-
 have HSP:=yb (show SpM w a cap bs r mb w1.heap.size (w1.alloc (.cells #[.slice a bs.length cap,.slice (some ⟨mb,0,none⟩) bs.length bs.length] 59)) (anyS bs.length []) from
  ⟨zak _ (zab HB2.out HZ1.out),zac _ rfl,by
   have h:=HO1.out
   have e:mb=w.heap.size+1:=by have:=HSZ.out;omega
   rw [e] at h |-
   exact zeA (h.alloc _) (zdG fun j _=>by simp [anyS]),
   (HB1.out.trans (HB2.out.mono HB1.out.size)).alloc ((HB1.out.trans (HB2.out.mono HB1.out.size)).size) _,by have:=HSZ.out;have:=HRW.out;omega,by have:=(HO1.out.lt mb rfl).2;omega,by have:=HRW.out;omega⟩)
 clear hmb HO1 HB2 HZ1 HB1
 generalize w1.heap.size=fb at *
 generalize World.alloc _ _=W2 at *
 go_wp2_with fail
 go_loopw [6] (fun v6 wr=>∃k:Nat,v6=.int .i64 k/\k<=n/\Hid (SpM w a cap bs r mb fb wr (anyS bs.length (L.take k)))) (fun v _=>n-(intOf v).toNat)
 case atStart=>exact ⟨0,rfl,Nat.zero_le _,HSP⟩
 case round =>
  obtain ⟨k,rfl,hk,HM⟩:=hrel
  by_cases hlt:k<n
  ·have hcd:decide ((k:Int)<(n:Int))=true:=yd (by omega)
   have hcd2:decide (k<n)=true:=yd hlt
   obtain ⟨b,off,rfl,-,hc⟩:=SRow.at (HS.out.mono HM.out.bel) k hlt
   obtain ⟨c0,c1⟩:=hc k hlt
   have HTK:=yb (show L.take (k+1)=L.take k++[L.getD k (0,0)] from zby L k (by have:=HLN.out;omega))
   obtain ⟨⟨x,y⟩,hxy⟩:∃z,z=L.getD k (0,0):=⟨_,rfl⟩
   rw [<-hxy] at c0 c1 HTK
   clear hxy hc
   simp only at c0 c1
   have HT1:=yb (zac (w:=wr) (b:=wr.heap.size) (.cells #[.int .i64 x,.int .i64 y] 129) rfl)
   have HM2:=yb (HM.out.on (zam wr (.cells #[.int .i64 x,.int .i64 y] 129)))
   have HTN:=yb (show wr.heap.size≠mb by have:=(HM.out.own.lt mb rfl).2;omega)
   clear HM
   go_upto_region 6 with fail
   generalize wr.heap.size=T at *
   generalize World.alloc _ _=W3 at *
   clear c0 c1
   obtain ⟨⟨t0,t1⟩,-⟩:=zaR HT1.out
   by_cases h1:x<0
   ·have d1:decide (x<0)=true:=yd h1
    have HSK:=yb (show anyS bs.length (L.take (k+1))=anyS bs.length (L.take k) by funext i;rw [HTK.out,zd9];simp [show ¬(0<=x) by omega])
    go_wp2_with fail
    go_roundw
    case rel=>exact ⟨k+1,by go_num,hlt,yb (by rw [HSK.out];exact HM2.out)⟩
    case measure=>simp [intOf];omega
   have d1:decide (x<0)=false:=ye h1
   by_cases h2:y<x
   ·have d2:decide (y<x)=true:=yd h2
    have HSK:=yb (show anyS bs.length (L.take (k+1))=anyS bs.length (L.take k) by funext i;rw [HTK.out,zd9];simp [show ¬(x<=y) by omega])
    go_wp2_with fail
    go_roundw
    case rel=>exact ⟨k+1,by go_num,hlt,yb (by rw [HSK.out];exact HM2.out)⟩
    case measure=>simp [intOf];omega
   have d2:decide (y<x)=false:=ye h2
   by_cases h3:(bs.length:Int)<y
   ·have d3:decide ((bs.length:Int)<y)=true:=yd h3
    have HSK:=yb (show anyS bs.length (L.take (k+1))=anyS bs.length (L.take k) by funext i;rw [HTK.out,zd9];simp [show ¬(y<=(bs.length:Int)) by omega])
    go_wp2_with fail
    go_roundw
    case rel=>exact ⟨k+1,by go_num,hlt,yb (by rw [HSK.out];exact HM2.out)⟩
    case measure=>simp [intOf];omega
   have d3:decide ((bs.length:Int)<y)=false:=ye h3
   obtain ⟨u,rfl⟩:∃u:Nat,x=(u:Int):=⟨x.toNat,by omega⟩
   obtain ⟨v,rfl⟩:∃v:Nat,y=(v:Int):=⟨y.toNat,by omega⟩
   have huv:u<=v:=by omega
   have hvl:v<=bs.length:=by omega
   have d2n:decide (v<u)=false:=ye (by omega)
   have d3n:decide (bs.length<v)=false:=ye (by omega)
   have HNX:=yb (show anyS bs.length (L.take (k+1))=fun i=>anyS bs.length (L.take k) i||(decide (u<=i)&&decide (i<v)) by
    funext i
    rw [HTK.out,zd9]
    congr 1
    simp [huv,hvl])
   clear h1 h2 h3
   go_wp2_with fail
   go_loopw [8] (fun v8 wq=>∃j:Nat,v8=.int .i64 j/\u<=j/\j<=v/\Hid (wq.heap[T]?=some (.cells #[.int .i64 (u:Nat),.int .i64 (v:Nat)] 129 (0,0)))/\Hid (SpM w a cap bs r mb fb wq (fun i=>anyS bs.length (L.take k) i||(decide (u<=i)&&decide (i<j))))) (fun v8 _=>v-(intOf v8).toNat)
   case atStart=>exact ⟨u,rfl,yp _,huv,HT1,yb (by
    have e:(fun i=>anyS bs.length (L.take k) i||(decide (u<=i)&&decide (i<u)))=anyS bs.length (L.take k):=by
     funext i
     rcases Nat.lt_or_ge i u with h|h
     ·simp [show ¬u<=i by omega]
     ·simp [show ¬i<u by omega]
    rw [e];exact HM2.out)⟩
   case round =>
    obtain ⟨j,rfl,huj,hjv,HT2,HM3⟩:=hrel
    clear t0 t1
    obtain ⟨⟨t0,t1⟩,-⟩:=zaR HT2.out
    obtain ⟨⟨f0,f1⟩,-⟩:=zaR HM3.out.fil
    by_cases hjl:j<v
    ·have e1:decide ((j:Int)<(v:Int))=true:=yd (by omega)
     have e2:decide (j<v)=true:=yd hjl
     have hj8:j<bs.length:=by omega
     have hcj:=own_cellJ HM3.out.own j hj8
     have hfr:=HM3.out.own.frozenAt j
     have HM4:=yb (HM3.out.set (M':=fun i=>anyS bs.length (L.take k) i||(decide (u<=i)&&decide (i<j+1))) j (fun i _=>by
      by_cases e:i=j
      ·subst e;simp [huj]
      ·rw [yh e]
       rcases Nat.lt_or_ge i j with h|h
       ·simp [h,show i<j+1 by omega]
       ·simp [show ¬i<j by omega,show ¬i<j+1 by omega]))
     have HT4:=yb ((heap_setCell_other wr ⟨mb,j,none⟩ T (.bool true) HTN.out).trans HT2.out)
     go_wp2_with fail
     go_roundw
     case rel=>exact ⟨j+1,by go_num,by omega,by omega,HT4,HM4⟩
     case measure=>simp [intOf];omega
    ·obtain rfl:j=v:=by omega
     have e1:decide ((j:Int)<(j:Int))=false:=ye (by omega)
     have e2:decide (j<j)=false:=ye (by omega)
     go_wp2_with fail
     go_roundw
     case rel=>exact ⟨k+1,by go_num,hlt,yb (by rw [HNX.out];exact HM3.out)⟩
     case measure=>simp [intOf];omega
  ·have hcd:decide ((k:Int)<(n:Int))=false:=ye (by omega)
   have hcd2:decide (k<n)=false:=ye hlt
   have HLT:=yb (show L.take k=L from List.take_of_length_le (by have:=HLN.out;omega))
   obtain ⟨⟨f0,f1⟩,-⟩:=zaR HM.out.fil
   obtain ⟨⟨z0,z1⟩,y0,y1⟩:=zaR HM.out.res
   go_wp2_with fail
   refine yi (results_cell_row rfl _ _ r 59 _ (0,0) _ rfl (by exact zdr HM.out.res _ _) Tryz.underlying59 rfl (by exact infoFile)) rfl ?_
   have hb2:=(HM.out.bel.setCell (p:=⟨r,0,none⟩) HM.out.ne.2.2 (.slice a bs.length cap)).setCell (p:=⟨r,1,none⟩) HM.out.ne.2.2 (.slice (some ⟨mb,0,none⟩) bs.length bs.length)
   refine ⟨_,_,rfl,⟨HR.out.mono hb2,?_,knL_len _ _⟩,hb2⟩
   have hown:=zaE (w':=(wr.setCell ⟨r,0,none⟩ (.slice a bs.length cap)).setCell ⟨r,1,none⟩ (.slice (some ⟨mb,0,none⟩) bs.length bs.length)) HM.out.own (fun b hb=>by
    have e:b=mb:=by simpa [Value.ownBlock] using hb.symm
    rw [heap_setCell_other _ _ _ _ (show b≠r by rw [e];exact fun h=>HM.out.ne.1 h.symm),heap_setCell_other _ _ _ _ (show b≠r by rw [e];exact fun h=>HM.out.ne.1 h.symm)])
   rw [HLT.out,<-knL_fl] at hown
   rw [knL_len]
   exact (Row.of_own hown).2
end Go.Proofs.YtfafdeemfeaedaaGreat
namespace Go.Proofs.YtfafdeemfeaedaaGreat
open Go.RowKit
theorem rfind_any {w:World} {F:Nat->Prop} {v:PV} {sl:Value} (h:IsV w F v sl) (hev:v.kind=7->v.l.length % 2=0) (key:List UInt8):Calls Tryz.prog 101 #[pvA v sl,.string (mkB key)] w (zgZ w (zes v key)):=by
 obtain ⟨a,cap,rfl,g1,g2,g3⟩:=h.len
 have hl63:(v.l.length:Int)<=9223372036854775807:=by unfold maxLen at g2;omega
 have HV:=yb h
 have HNO:=yb (fun h=>findN_no (v:=v) (key:=key) h)
 have HYE:=yb (fun h=>findN_yes (v:=v) (key:=key) h)
 obtain ⟨R,hR⟩:∃R,R=zes v key:=⟨_,rfl⟩
 rw [<-hR] at HNO HYE |-
 clear hR h g2 g3
 unfold pvA
 obtain ⟨l,hl⟩:∃l,l=v.l:=⟨_,rfl⟩
 rw [<-hl] at HV HYE hl63 g1 hev |-
 have HL:=yb hl
 clear hl
 obtain ⟨B,hB⟩:∃B,B=w.heap.size:=⟨_,rfl⟩
 have HB1:=yb (zam w (.cells #[.int .i64 v.kind,.int .i64 v.n,.string (mkB v.s),.slice a l.length cap] 27))
 have HZ1:=yb (zac (w:=w) (b:=B) (.cells #[.int .i64 v.kind,.int .i64 v.n,.string (mkB v.s),.slice a l.length cap] 27) hB)
 have HV1:=yb (HV.out.below HB1.out)
 generalize v.kind=vk at *
 generalize v.n=vn at *
 generalize mkB v.s=vb at *
 go_enter Tryz.func101,Tryz.ntmps101
 go_upto_region 1 with fail
 rw [<-hB]
 clear hB HV
 generalize w.alloc _=W1 at *
 obtain ⟨⟨z0,z1,z2,z3⟩,-⟩:=zaf HZ1.out
 by_cases h7:vk=7
 case neg =>
  have HR:=yb (HNO.out h7)
  have e0:(vk==7)=false:=by rw [yf];exact h7
  have e1:(vk != 7)=true:=by simp only [bne,e0,yj]
  clear h7 HYE HNO hev
  go_wp2_with fail
  go_loop [5] (fun v5=>v5=.int .i64 0) (fun _=>0)
  case atStart=>rfl
  case round =>
  subst hrel
  go_wp2_with fail
  go_ret
  exact ⟨by rw [HR.out];rfl,HB1.out⟩
 have HR:=yb (HYE.out h7)
 have hl2:=hev h7
 clear hev
 subst h7
 clear HNO HYE
 go_wp2_with fail
 go_loop [5] (fun v5=>∃k:Nat,v5=.int .i64 k/\k<=l.length/\k % 2=0/\Hid (R=(fN key (l.drop k)).map (· + k))) (fun v5=>l.length+2-(intOf v5).toNat)
 case atStart=>exact ⟨0,rfl,by omega,rfl,yb (by rw [HR.out,List.drop_zero];cases fN key l<;>rfl)⟩
 case round =>
  obtain ⟨k,rfl,hk,hk2,HQ⟩:=hrel
  by_cases hlt:k<l.length
  ·have hcd:decide ((k:Int)<(l.length:Int))=true:=yd (by omega)
   have hcd2:decide (k<l.length)=true:=yd hlt
   have hkb:(k:Int)+2<=9223372036854775807:=by omega
   have hkc:k+2<=l.length:=by omega
   have hv1:=HV1.out
   obtain ⟨-,-,-,b,off,rfl,-,-,hc⟩:=hv1.at (by omega)
   obtain ⟨x,hx⟩:∃x,l[k]?=some x:=⟨_,List.getElem?_eq_getElem hlt⟩
   obtain ⟨slx,-,c0,-,c2,-⟩:=hc k x (by rw [<-HL.out];exact hx)
   have HST:=yb (fN_step (key:=key) hx)
   have hq:((mkB x.s).toList==(mkB key).toList)=decide (x.s=key):=by rw [zaH key];exact zbP x.s key
   clear hv1 hc hx
   by_cases h5:x.kind=5
   case neg =>
    have e0:(x.kind==5)=false:=by rw [yf];exact h5
    have HQ2:=yb (show R=(fN key (l.drop (k+2))).map (· + (k+2)) by rw [HQ.out,HST.out,yh (fun h=>h5 h.1),Option.map_map];congr 1;funext q;show q+2+k=q+(k+2);omega)
    clear h5 HST HQ hq
    generalize x.kind=xk at *
    go_wp2_with fail
    go_round
    case rel=>exact ⟨k+2,by go_num,hkc,by omega,HQ2⟩
    case measure=>simp [intOf];omega
   have e0:(x.kind==5)=true:=by rw [beq_iff_eq];exact h5
   by_cases hs:x.s=key
   ·have HQ2:=yb (show R=some k by rw [HQ.out,HST.out,yg ⟨h5,hs⟩];show some (0+k)=_;rw [Nat.zero_add])
    rw [yd hs] at hq
    clear h5 HST HQ hs
    generalize x.kind=xk at *
    generalize mkB x.s=xb at *
    go_wp2_with fail
    go_ret
    exact ⟨by rw [HQ2.out];rfl,HB1.out⟩
   ·have HQ2:=yb (show R=(fN key (l.drop (k+2))).map (· + (k+2)) by rw [HQ.out,HST.out,yh (fun h=>hs h.2),Option.map_map];congr 1;funext q;show q+2+k=q+(k+2);omega)
    rw [ye hs] at hq
    clear h5 HST HQ hs
    generalize x.kind=xk at *
    generalize mkB x.s=xb at *
    go_wp2_with fail
    go_round
    case rel=>exact ⟨k+2,by go_num,hkc,by omega,HQ2⟩
    case measure=>simp [intOf];omega
  ·have hcd:decide ((k:Int)<(l.length:Int))=false:=ye (by omega)
   have hcd2:decide (k<l.length)=false:=ye hlt
   have HQ2:=yb (show R=none by rw [HQ.out,fN_end (by omega)];rfl)
   clear HQ
   go_wp2_with fail
   go_ret
   exact ⟨by rw [HQ2.out];rfl,HB1.out⟩
theorem rget_any {w:World} {F:Nat->Prop} {v:PV} {sl:Value} (h:IsV w F v sl) (hev:v.kind=7->v.l.length % 2=0) (key:List UInt8):Calls Tryz.prog 65 #[pvA v sl,.string (mkB key)] w (GetEnd w F (getP (getV v key))):=by
 obtain ⟨a,cap,rfl,g1,g2,g3⟩:=h.len
 have hl63:(v.l.length:Int)<=9223372036854775807:=by unfold maxLen at g2;omega
 have HV:=yb (IsV.lt _ h)
 have HF:=yb (fun (W:World) (hb:Below w.heap.size w W)=>rfind_any (h.below hb) hev key)
 obtain ⟨R,hR⟩:∃R,R=zes v key:=⟨_,rfl⟩
 have HLT:=yb (show ∀k,R=some k->k<v.l.length from fun k hk=>by
  rw [hR] at hk
  unfold zes at hk
  split at hk
  ·exact fN_lt hk
  ·cases hk)
 obtain ⟨V,hV⟩:∃V,V=getP (getV v key):=⟨_,rfl⟩
 have HVN:=yb (show R=none->V=(PV.none,false) from fun h=>by rw [hV];unfold getV;rw [<-hR,h];rfl)
 have HVS:=yb (show ∀k,R=some k->V=(v.l.getD (k+1) PV.none,true) from fun k h=>by rw [hV];unfold getV;rw [<-hR,h];rfl)
 rw [<-hR] at HF
 rw [<-hV]
 clear hR hV h g2 g3
 unfold zgZ pvA at HF
 unfold pvA
 obtain ⟨l,hl⟩:∃l,l=v.l:=⟨_,rfl⟩
 clear hev
 rw [<-hl] at HV HF HLT HVS hl63 g1 |-
 have HL:=yb hl
 clear hl
 obtain ⟨B,hB⟩:∃B,B=w.heap.size:=⟨_,rfl⟩
 have HB1:=yb (za0 w (.cells #[.int .i64 v.kind,.int .i64 v.n,.string (mkB v.s),.slice a l.length cap] 27) (.cells #[.int .i64 0,.int .i64 0,.string ⟨#[]⟩,.slice none 0 0] 27))
 have HZ1:=yb (zak (w:=w.alloc (.cells #[.int .i64 v.kind,.int .i64 v.n,.string (mkB v.s),.slice a l.length cap] 27)) (.cells #[.int .i64 0,.int .i64 0,.string ⟨#[]⟩,.slice none 0 0] 27) (zac (w:=w) (b:=B) (.cells #[.int .i64 v.kind,.int .i64 v.n,.string (mkB v.s),.slice a l.length cap] 27) hB))
 have HY1:=yb (zac (w:=w.alloc (.cells #[.int .i64 v.kind,.int .i64 v.n,.string (mkB v.s),.slice a l.length cap] 27)) (b:=B+1) (.cells #[.int .i64 0,.int .i64 0,.string ⟨#[]⟩,.slice none 0 0] 27) (by rw [zan,hB]))
 have HW:=yb (show w.heap.size<=B+1 by omega)
 generalize v.kind=vk at *
 generalize v.n=vn at *
 generalize mkB v.s=vb at *
 go_enter Tryz.func65,Tryz.ntmps65
 go_upto_region 1 with fail
 try rw [<-hB]
 generalize World.alloc _ _=W1 at *
 clear hB
 generalize B+1=r at *
 obtain ⟨⟨z0,z1,z2,z3⟩,-⟩:=zaf HZ1.out
 go_wp2_with fail
 refine (HF.out _ HB1.out).mono ?_
 rintro e w2 ⟨rfl,hb2⟩
 have HZ2:=yb (zab hb2 HZ1.out)
 have HY2:=yb (zab hb2 HY1.out)
 have HB2:=yo HB1 hb2
 have HV2:=yb (HV.out.below HB2.out)
 clear hb2 HZ1 HY1 HB1 HV HF z0 z1 z2 z3
 obtain ⟨⟨z0,z1,z2,z3⟩,-⟩:=zaf HZ2.out
 obtain ⟨⟨y0,y1,y2,y3⟩,f0,f1,f2,f3⟩:=zaf HY2.out
 cases R with
 | none =>
  have HE:=yb (HVN.out rfl)
  clear HVN HVS HLT
  unfold zdI
  go_wp2
  refine yi (zaa rfl _ _ r 27 _ (0,0) _ rfl (by exact set4 HY2.out _ _ _ _) Tryz.underlying27 rfl (by exact zar) _ rfl) rfl ?_
  rw [HE.out]
  exact ⟨_,rfl,IsV.leaf _ _ _ rfl,zad HB2.out HW.out _ _ _ _⟩
 | some k =>
  have hkl:=HLT.out k rfl
  have HE:=yb (HVS.out k rfl)
  have hd0:decide ((k:Int)<0)=false:=ye (by omega)
  clear HVN HVS HLT
  unfold zdI
  simp only
  by_cases hle:k+1=l.length
  ·have hq:((k:Int)+1==(l.length:Int))=true:=by rw [beq_iff_eq];omega
   have hq2:((k:Int)==(l.length:Int)-1)=true:=by rw [beq_iff_eq];omega
   have hg:l.getD (k+1) PV.none=PV.none:=by rw [List.getD_eq_getElem?_getD,List.getElem?_eq_none (by omega)];rfl
   have HE2:=yb (HE.out.trans (by rw [hg]))
   clear hg HE hle
   go_wp2
   refine yi (zaa rfl _ _ r 27 _ (0,0) _ rfl (by exact set4 HY2.out _ _ _ _) Tryz.underlying27 rfl (by exact zar) _ rfl) rfl ?_
   rw [HE2.out]
   exact ⟨_,rfl,IsV.leaf _ _ _ rfl,zad HB2.out HW.out _ _ _ _⟩
  ·have hq:((k:Int)+1==(l.length:Int))=false:=by rw [yf];omega
   have hq2:((k:Int)==(l.length:Int)-1)=false:=by rw [yf];omega
   have hk1:k+1<l.length:=by omega
   have hv2:=HV2.out
   obtain ⟨-,-,-,b,off,rfl,-,-,hc⟩:=hv2.at (by omega)
   obtain ⟨x,hx⟩:∃x,l[k+1]?=some x:=⟨_,List.getElem?_eq_getElem hk1⟩
   obtain ⟨slx,hsx,c0,c1,c2,c3⟩:=hc (k+1) x (by rw [<-HL.out];exact hx)
   have hg:l.getD (k+1) PV.none=x:=by rw [List.getD_eq_getElem?_getD,hx];rfl
   have HE2:=yb (HE.out.trans (by rw [hg]))
   obtain ⟨xa,xc,rfl,-,-,-⟩:=hsx.len
   have HSX:=yb hsx
   have HPA:=yb (show pvA x (.slice xa x.l.length xc)=.agg #[.int .i64 x.kind,.int .i64 x.n,.string (mkB x.s),.slice xa x.l.length xc] from rfl)
   have HRW:=yb (zaj HY2.out)
   obtain ⟨j,hj⟩:∃j,j=k+1:=⟨_,rfl⟩
   have hji:(k:Int)+1=(j:Int):=by omega
   rw [<-hj] at c0 c1 c2 c3 hk1
   have HJ:=yb hj
   clear hj hv2 hc hx hg HE hle hsx
   generalize x.kind=xk at *
   generalize x.n=xn at *
   generalize mkB x.s=xb at *
   go_wp2
   refine yi (zaa rfl _ _ r 27 _ (0,0) _ rfl (by exact set4 HY2.out _ _ _ _) Tryz.underlying27 rfl (by exact zar) _ rfl) rfl ?_
   rw [HE2.out]
   refine ⟨.slice xa x.l.length xc,by rw [HPA.out];rfl,?_,zad HB2.out HW.out _ _ _ _⟩
   exact IsV.keep ⟨by rw [zaT];exact yp _,fun b _ hb=>za4 (by have:=HW.out;have:=hb.2;omega) _ _ _ _⟩ (fun b hb=>hb.1) _ HSX.out
def NxtEnd (w:World) (V:Tk×Int×Int×Int) (e:Ending) (w':World):Prop:=e=.returned (.tuple #[.agg (tokN V.1 V.2.1 V.2.2.1),.int .i64 V.2.2.2])/\Below w.heap.size w w'
theorem dnext_any {w:World} {a:Option Addr} {cap:Nat} {bs:List UInt8} (hr:Row w 1 a bs.length cap (bs.map u8C)) (hn:bs.length<=400000) (k:Int) (yq:Bool) :
  Calls Tryz.prog 47 #[.slice a bs.length cap,.int .i64 k,.bool yq] w (NxtEnd w (nxtV bs yq k)):=by
 have HN:=yb (fun (W:World) (h:Below w.heap.size w W)=>zcb (hr.mono h) hn k yq)
 unfold NxtEnd
 rw [nxt_1,nxt_2,nxt_3,nxt_4]
 generalize zal bs k yq=V at *
 obtain ⟨x,f,t,er⟩:=V
 unfold zaB tokN at HN
 unfold tokN nxE
 simp only at HN |-
 clear hr
 generalize x.kind=a0 at *
 generalize x.vk=a1 at *
 generalize x.vn=a2 at *
 generalize mkB x.vs=s1 at *
 generalize mkB x.s=s2 at *
 obtain ⟨E,hE⟩:∃E,E=(if er=0/\a0=0 then (10:Int) else er):=⟨_,rfl⟩
 rw [<-hE]
 have HE:=yb hE
 clear hE
 obtain ⟨B,hB⟩:∃B,B=w.heap.size:=⟨_,rfl⟩
 have HB1:=yb (zam w (.cells #[.int .i64 0,.int .i64 0,.int .i64 0,.int .i64 0,.int .i64 0,.string ⟨#[]⟩,.slice none 0 0,.string ⟨#[]⟩] 111))
 have HZ1:=yb (zac (w:=w) (b:=B) (.cells #[.int .i64 0,.int .i64 0,.int .i64 0,.int .i64 0,.int .i64 0,.string ⟨#[]⟩,.slice none 0 0,.string ⟨#[]⟩] 111) hB)
 have HBB:=yb (Nat.le_of_eq hB.symm)
 go_enter Tryz.func47,Tryz.ntmps47
 go_upto_region 1 with fail
 rw [<-hB]
 clear hB
 generalize w.alloc _=W1 at *
 go_wp2_with fail
 refine (HN.out _ HB1.out).mono ?_
 rintro e w2 ⟨rfl,hb2⟩
 have hb2a:=hb2.alloc hb2.size (.cells #[.int .i64 a0,.int .i64 f,.int .i64 t,.int .i64 a1,.int .i64 a2,.string s1,.slice none 0 0,.string s2] 111)
 have HT2:=yb (zac (w:=w2) (b:=w2.heap.size) (.cells #[.int .i64 a0,.int .i64 f,.int .i64 t,.int .i64 a1,.int .i64 a2,.string s1,.slice none 0 0,.string s2] 111) rfl)
 have HZ2:=yb (zab hb2a HZ1.out)
 have HB2:=yo HB1 hb2a
 clear hb2 hb2a HN HZ1
 go_upto_region 2 with fail
 obtain ⟨r2,hr2⟩:∃r2,r2=w2.heap.size:=⟨_,rfl⟩
 rw [<-hr2] at HT2 |-
 clear hr2
 generalize w2.alloc _=W2 at *
 obtain ⟨⟨t0,t1,t2,t3,t4,t5,t6,t7⟩,-⟩:=zag HT2.out
 obtain ⟨⟨r0,r1,r2',r3,r4,r5,r6,r7⟩,rf0,rf1,rf2,rf3,rf4,rf5,rf6,rf7⟩:=zag HZ2.out
 by_cases her:er=0
 ·subst her
  by_cases hk0:a0=0
  ·subst hk0
   obtain rfl:E=10:=by rw [HE.out,yg ⟨rfl,rfl⟩]
   go_wp2
   refine yi (zaa rfl _ _ B 111 _ (0,0) _ rfl (by exact set8 HZ2.out _ _ _ _ _ _ _ _) Tryz.underlying111 rfl (by exact zaq) _ rfl) rfl ?_
   exact ⟨rfl,za1 HB2.out HBB.out _ _ _ _ _ _ _ _⟩
  ·have hk1:(a0==0)=false:=by rw [yf];exact hk0
   obtain rfl:E=0:=by rw [HE.out,yh (fun h=>hk0 h.2)]
   go_wp2
   refine yi (zaa rfl _ _ B 111 _ (0,0) _ rfl (by exact set8 HZ2.out _ _ _ _ _ _ _ _) Tryz.underlying111 rfl (by exact zaq) _ rfl) rfl ?_
   exact ⟨rfl,za1 HB2.out HBB.out _ _ _ _ _ _ _ _⟩
 ·have e1:(er==0)=false:=by rw [yf];exact her
  obtain rfl:er=E:=by rw [HE.out,yh (fun h=>her h.1)]
  go_wp2
  refine yi (zaa rfl _ _ B 111 _ (0,0) _ rfl (by exact set8 HZ2.out _ _ _ _ _ _ _ _) Tryz.underlying111 rfl (by exact zaq) _ rfl) rfl ?_
  exact ⟨rfl,za1 HB2.out HBB.out _ _ _ _ _ _ _ _⟩
def DEntEnd (w:World) (V:Ent×Nat×Int) (e:Ending) (w':World):Prop:=e=.returned (.tuple #[entA V.1,.int .i64 V.2.1,.int .i64 V.2.2])/\Below w.heap.size w w'
theorem zcG {s:List UInt8} (h:(zaA (s.take 10)).2≠0\/(zaA ((s.drop 11).take 5)).2≠0\/65535<(zaA ((s.drop 11).take 5)).1\/s.getD 10 0≠32\/s.getD 16 0≠32\/(s.getD 17 0≠110/\s.getD 17 0≠102) \/
  (s.getD 18 0≠32/\s.getD 18 0≠10/\s.getD 18 0≠13)):entS s=none:=by unfold entS;rw [yg h]
theorem entR_ok {s:List UInt8} (h:¬((zaA (s.take 10)).2≠0\/(zaA ((s.drop 11).take 5)).2≠0\/65535<(zaA ((s.drop 11).take 5)).1\/s.getD 10 0≠32\/s.getD 16 0≠32\/(s.getD 17 0≠110/\s.getD 17 0≠102) \/
  (s.getD 18 0≠32/\s.getD 18 0≠10/\s.getD 18 0≠13))):(entS s).isNone=false:=by unfold entS;rw [yh h];rfl
theorem entR_some {s:List UInt8} (h:false=(entS s).isNone):entS s=some { at_:=(zaA (s.take 10)).1,gen:=(zaA ((s.drop 11).take 5)).1,used:=s.getD 17 0==110 }:=by
 unfold entS at h |-
 split at h
 ·cases h
 ·rename_i hn;rw [yh hn]
theorem bt_mkB {s:List UInt8} {k n:Nat} (h:s.length=n) (hk:k<n):PlainAid.bt (mkB s) k=((s.getD k 0).toNat:Int):=by
 have hk2:k<(mkB s).size:=by rw [zbL];omega
 rw [<-PlainAid.get_bt (mkB s) k hk2]
 congr 2
 have:bl (mkB s)=s:=rfl
 rw [List.getD_eq_getElem?_getD,List.getElem?_eq_getElem (by omega)]
 rfl
theorem zeE {B:Nat} {w W:World} (h:Below B w W) {r:Nat} (hr:B<=r) (y0 y1 y2:Value):Below B w (((W.setCell ⟨r,0,none⟩ y0).setCell ⟨r,1,none⟩ y1).setCell ⟨r,2,none⟩ y2) :=
 ((h.setCell hr _).setCell hr _).setCell hr _
theorem dentry_any {w:World} {a:Option Addr} {cap:Nat} {bs:List UInt8} (hr:Row w 1 a bs.length cap (bs.map u8C)) (hn:bs.length<=400000) {k:Nat} (hk:k<=bs.length) (yq:Bool) :
  Calls Tryz.prog 49 #[.slice a bs.length cap,.int .i64 k,.bool yq] w (DEntEnd w (entV bs yq k)):=by
 obtain ⟨V,hV⟩:∃V,V=entV bs yq k:=⟨_,rfl⟩
 rw [<-hV]
 have HV:=yb hV
 have hcp:=hr.2.1
 have hcm:=hr.i64c
 have HR:=yb hr
 clear hr hV
 go_enter Tryz.func49,Tryz.ntmps49
 go_upto_block 0 with fail
 have HB1:=yb (zam w (.cells #[.int .i64 0,.int .i64 0,.bool false] 44))
 obtain ⟨r,hr⟩:∃r,r=w.heap.size:=⟨_,rfl⟩
 have HZ1:=yb (zac (w:=w) (b:=r) (.cells #[.int .i64 0,.int .i64 0,.bool false] 44) hr)
 have HRR:=yb (Nat.le_of_eq hr.symm)
 have HR1:=yb (HR.out.mono HB1.out)
 rw [<-hr]
 clear hr HR
 generalize w.alloc _=W1 at *
 obtain ⟨J,hJ⟩:∃J,J=zcT bs k:=⟨_,rfl⟩
 have HJ:=yb hJ
 clear hJ
 go_cut [1] from 14 (fun v wx=>∃j:Nat,v=.int .i64 j/\j<=bs.length/\Hid (J=j)/\Hid (Below W1.heap.size W1 wx))
 case first =>
  go_wp2_with fail
  go_loopw [1] (fun v wr=>∃j:Nat,v=.int .i64 j/\j<=bs.length/\Hid (zcT bs j=J)/\Hid (Below W1.heap.size W1 wr)) (fun v _=>bs.length-(intOf v).toNat)
  case atStart=>exact ⟨k,rfl,hk,yb HJ.out.symm,yb (Below.refl _ _)⟩
  case round =>
   obtain ⟨j,rfl,hj,HSK,HB⟩:=hrel
   have hck:(j:Int)<=400000:=by omega
   by_cases hjl:j<bs.length
   ·obtain ⟨b,off,rfl,-,hcc⟩:=(HR1.out.mono HB.out).at 0 j hjl
    have hcj:=hcc j hjl
    unfold u8C at hcj
    have hjd:decide ((j:Int)<bs.length)=true:=by simp;omega
    have hjd2:decide (j<bs.length)=true:=by simp;omega
    have HSP:=yb (fun W=>zdm (bs.getD j 0).toNat W)
    rw [<-zeI] at HSP
    have HG2:=yb (fun h=>skip_go (bs:=bs) hjl h)
    have HST:=yb (fun h=>skip_stop (bs:=bs) hjl h)
    clear hcc
    generalize bs.getD j 0=c at *
    obtain ⟨sp,hsp⟩:∃sp,isSp c=sp:=⟨_,rfl⟩
    rw [hsp] at HSP
    have HSB:=yb hsp
    clear hsp
    generalize c.toNat=x at *
    cases sp
    ·go_wp2_with (go_at_call 85;refine (HSP.out _).mono ?_;rintro e w' ⟨rfl,rfl⟩)
     go_meet
     exact ⟨j,rfl,hj,yb (HSK.out.symm.trans (HST.out HSB.out)),yb HB.out⟩
    ·go_wp2_with (go_at_call 85;refine (HSP.out _).mono ?_;rintro e w' ⟨rfl,rfl⟩)
     go_roundw
     case rel=>exact ⟨j+1,by go_num,by omega,yb ((HG2.out HSB.out).symm.trans HSK.out),yb HB.out⟩
     case measure=>simp [intOf];omega
   ·have hje:j=bs.length:=by omega
    have HJE:=yb (show J=j by rw [<-HSK.out,hje];exact skip_end bs)
    have hjd:decide ((j:Int)<bs.length)=false:=ye (by omega)
    have hjd2:decide (j<bs.length)=false:=ye (by omega)
    clear hje
    go_wp2_with fail
    go_meet
    exact ⟨j,rfl,hj,HJE,yb HB.out⟩
 case rest =>
  obtain ⟨j,rfl,hj,HJE,HB2⟩:=hcut
  have hck:(j:Int)<=400000:=by omega
  generalize wc=W2 at *
  have HZ2:=yb (zab HB2.out HZ1.out)
  have HW2:=yb (HB1.out.trans (HB2.out.mono HB1.out.size))
  have HR2:=yb (HR1.out.mono HB2.out)
  clear HZ1 HR1
  by_cases hlen:bs.length<j+19
  ·have HV3:=yb (HV.out.trans (entV_cut (yq:=yq) (HJ.out.symm.trans HJE.out) hlen))
   have hld:decide ((bs.length:Int)-j<19)=true:=yd (by omega)
   clear hlen
   obtain ⟨⟨z0,z1,z2⟩,y0,y1,y2⟩:=zdt HZ2.out
   cases yq
   all_goals
    go_wp2
    refine yi (zae rfl _ _ r 44 _ (0,0) _ rfl (by exact set3a HZ2.out _ _ _) Tryz.underlying44 rfl (by exact zc2) _ _ rfl rfl) rfl ?_
    rw [HV3.out]
    exact ⟨rfl,zeE HW2.out HRR.out _ _ _⟩
  ·have hjl:j<bs.length:=by omega
   have hld:decide ((bs.length:Int)-j<19)=false:=ye (by omega)
   obtain ⟨b2,off2,ha,-,-⟩:=HR2.out.at 0 j hjl
   subst ha
   have hj19:j+19<=bs.length:=by omega
   have HSL:=yb (show ((bs.drop j).take 19).length=19 by rw [List.length_take,ym];omega)
   have hcv:=zd2 (bs:=(bs.drop j).take 19) (by rw [HSL.out];exact zfD HR2.out j 19 hj19)
   rw [HSL.out] at hcv
   have HEB:=yb (fun h=>HV.out.trans (entV_bad (yq:=yq) (HJ.out.symm.trans HJE.out) hlen h))
   have HEO:=yb (fun x h=>HV.out.trans (entV_ok (yq:=yq) (x:=x) (HJ.out.symm.trans HJE.out) hlen h))
   have hC1:19<=cap-j:=by omega
   have hC2:((cap-j:Nat):Int)<=9223372036854775807:=by omega
   generalize (bs.drop j).take 19=s at *
   clear hlen HJE HJ HV
   have hsz:(mkB s).size=19:=by rw [zbL];exact HSL.out
   have HDA:=yb (fun W=>zfF ((mkB s).extract 0 10) W (by rw [ByteArray.size_extract];omega))
   have HDG:=yb (fun W=>zfF ((mkB s).extract 11 16) W (by rw [ByteArray.size_extract];omega))
   rw [bl_ext,show bl (mkB s)=s from rfl] at HDA HDG
   simp only [List.drop_zero,Nat.sub_zero,show 16-11=5 from rfl] at HDA HDG
   unfold DigEnd at HDA HDG
   have hgb:=PlainAid.get_bt (mkB s)
   have HB:=yb (fun k h=>bt_mkB (s:=s) (k:=k) HSL.out h)
   generalize mkB s=T at *
   obtain ⟨A,hA⟩:∃A,A=zaA (s.take 10):=⟨_,rfl⟩
   obtain ⟨G,hG⟩:∃G,G=zaA ((s.drop 11).take 5):=⟨_,rfl⟩
   rw [<-hA] at HDA
   rw [<-hG] at HDG
   have HA:=yb hA
   have HGG:=yb hG
   clear hA hG
   obtain ⟨an,ae⟩:=A
   obtain ⟨gn,ge⟩:=G
   simp only at HDA HDG
   go_upto_region 10 with (first
    |(go_at_call_of 86 (Value.string (T.extract 0 10));refine (HDA.out _).mono ?_;rintro e w3 ⟨rfl,hb3⟩;have HB3:=yb hb3;clear hb3)
    |(go_at_call 86;refine (HDG.out _).mono ?_;rintro e w4 ⟨rfl,hb4⟩;have HB4:=yb hb4;clear hb4))
   have HZ4:=yb (zab HB4.out (zab HB3.out HZ2.out))
   have HW4:=yb ((HW2.out.trans (HB3.out.mono HW2.out.size)).trans (HB4.out.mono (HW2.out.trans (HB3.out.mono HW2.out.size)).size))
   have b10:=HB.out 10 (by decide)
   have b16:=HB.out 16 (by decide)
   have b17:=HB.out 17 (by decide)
   have b18:=HB.out 18 (by decide)
   obtain ⟨x10,hx10⟩:∃x,(s.getD 10 0).toNat=x:=⟨_,rfl⟩
   obtain ⟨x16,hx16⟩:∃x,(s.getD 16 0).toNat=x:=⟨_,rfl⟩
   obtain ⟨x17,hx17⟩:∃x,(s.getD 17 0).toNat=x:=⟨_,rfl⟩
   obtain ⟨x18,hx18⟩:∃x,(s.getD 18 0).toNat=x:=⟨_,rfl⟩
   rw [hx10] at b10
   rw [hx16] at b16
   rw [hx17] at b17
   rw [hx18] at b18
   have hq10:=(hgb 10 (by omega)).trans b10
   have hq16:=(hgb 16 (by omega)).trans b16
   have hq17:=(hgb 17 (by omega)).trans b17
   have hq18:=(hgb 18 (by omega)).trans b18
   have HX10:=yb hx10
   have HX16:=yb hx16
   have HX17:=yb hx17
   have HX18:=yb hx18
   clear hx10 hx16 hx17 hx18 b10 b16 b17 b18 hgb HB HB3 HB4 HZ2 HW2 HR2 HDA HDG hcv HB2
   obtain ⟨bd,hbd⟩:∃bd,bd=(entS s).isNone:=⟨_,rfl⟩
   have HBD:=yb hbd
   clear hbd
   generalize w4=W4 at *
   go_cut [97] from 53 (fun v wx=>v=.bool bd/\wx=W4)
   case first =>
    clear HEB HEO
    by_cases hA0:ae=0
    case neg =>
     obtain rfl:bd=true:=by rw [HBD.out,zcG (.inl (by rw [<-HA.out];exact hA0))];rfl
     have e0:(ae==0)=false:=by rw [yf];exact hA0
     have f0:(ae != 0)=true:=by simp only [bne,e0,yj]
     clear hA0
     go_wp2_with fail
     go_meet
     exact ⟨rfl,rfl⟩
    subst hA0
    by_cases hG0:ge=0
    case neg =>
     obtain rfl:bd=true:=by rw [HBD.out,zcG (.inr (.inl (by rw [<-HGG.out];exact hG0)))];rfl
     have e0:(ge==0)=false:=by rw [yf];exact hG0
     have f0:(ge != 0)=true:=by simp only [bne,e0,yj]
     clear hG0
     go_wp2_with fail
     go_meet
     exact ⟨rfl,rfl⟩
    subst hG0
    by_cases hG1:65535<gn
    case pos =>
     obtain rfl:bd=true:=by rw [HBD.out,zcG (.inr (.inr (.inl (by rw [<-HGG.out];exact hG1))))];rfl
     go_wp2_with fail
     go_meet
     exact ⟨rfl,rfl⟩
    by_cases h10:x10=32
    case neg =>
     obtain rfl:bd=true:=by rw [HBD.out,zcG (.inr (.inr (.inr (.inl (fun e=>h10 (by rw [<-HX10.out,e];rfl))))))];rfl
     have e32:((x10:Int)==32)=false:=by rw [yf];omega
     have f32:((x10:Int) != 32)=true:=by simp only [bne,e32,yj]
     go_wp2_with fail
     go_meet
     exact ⟨rfl,rfl⟩
    subst h10
    by_cases h16:x16=32
    case neg =>
     obtain rfl:bd=true:=by rw [HBD.out,zcG (.inr (.inr (.inr (.inr (.inl (fun e=>h16 (by rw [<-HX16.out,e];rfl)))))))];rfl
     have e32:((x16:Int)==32)=false:=by rw [yf];omega
     have f32:((x16:Int) != 32)=true:=by simp only [bne,e32,yj]
     go_wp2_with fail
     go_meet
     exact ⟨rfl,rfl⟩
    subst h16
    by_cases h17:x17=110\/x17=102
    case neg =>
     obtain rfl:bd=true:=by rw [HBD.out,zcG (.inr (.inr (.inr (.inr (.inr (.inl ⟨fun e=>h17 (.inl (by rw [<-HX17.out,e];rfl)),fun e=>h17 (.inr (by rw [<-HX17.out,e];rfl))⟩))))))];rfl
     have e110:((x17:Int)==110)=false:=by rw [yf];omega
     have f110:((x17:Int) != 110)=true:=by simp only [bne,e110,yj]
     have e102:((x17:Int)==102)=false:=by rw [yf];omega
     have f102:((x17:Int) != 102)=true:=by simp only [bne,e102,yj]
     go_wp2_with fail
     go_meet
     exact ⟨rfl,rfl⟩
    by_cases h18:x18=32\/x18=10\/x18=13
    case neg =>
     obtain rfl:bd=true:=by rw [HBD.out,zcG (.inr (.inr (.inr (.inr (.inr (.inr (⟨fun e=>h18 (.inl (by rw [<-HX18.out,e];rfl)),fun e=>h18 (.inr (.inl (by rw [<-HX18.out,e];rfl))),fun e=>h18 (.inr (.inr (by rw [<-HX18.out,e];rfl)))⟩)))))))];rfl
     have e32:((x18:Int)==32)=false:=by rw [yf];omega
     have f32:((x18:Int) != 32)=true:=by simp only [bne,e32,yj]
     have e10:((x18:Int)==10)=false:=by rw [yf];omega
     have f10:((x18:Int) != 10)=true:=by simp only [bne,e10,yj]
     have e13:((x18:Int)==13)=false:=by rw [yf];omega
     have f13:((x18:Int) != 13)=true:=by simp only [bne,e13,yj]
     rcases h17 with rfl|rfl
     all_goals (go_wp2_with fail;go_meet;exact ⟨rfl,rfl⟩)
    obtain rfl:bd=false:=by
     rw [HBD.out]
     refine entR_ok ?_
     rintro (h|h|h|h|h|h|h)
     ·rw [<-HA.out] at h;exact h rfl
     ·rw [<-HGG.out] at h;exact h rfl
     ·rw [<-HGG.out] at h;exact hG1 h
     ·exact h (zdx HX10.out rfl)
     ·exact h (zdx HX16.out rfl)
     ·rcases h17 with e|e
      ·exact h.1 (zdx (HX17.out.trans e) rfl)
      ·exact h.2 (zdx (HX17.out.trans e) rfl)
     ·rcases h18 with e|e|e
      ·exact h.1 (zdx (HX18.out.trans e) rfl)
      ·exact h.2.1 (zdx (HX18.out.trans e) rfl)
      ·exact h.2.2 (zdx (HX18.out.trans e) rfl)
    rcases h17 with rfl|rfl<;>rcases h18 with rfl|rfl|rfl
    all_goals (go_wp2_with fail;go_meet;exact ⟨rfl,rfl⟩)
   case rest =>
    obtain ⟨rfl,rfl⟩:=hcut
    obtain ⟨⟨z0,z1,z2⟩,y0,y1,y2⟩:=zdt HZ4.out
    cases bd
    case true =>
     have HVB:=yb (HEB.out (zge HBD.out))
     clear HEB HEO
     go_wp2
     refine yi (zae rfl _ _ r 44 _ (0,0) _ rfl (by exact set3a HZ4.out _ _ _) Tryz.underlying44 rfl (by exact zc2) _ _ rfl rfl) rfl ?_
     rw [HVB.out]
     exact ⟨rfl,zeE HW4.out HRR.out _ _ _⟩
    have HVO:=yb (HEO.out _ (entR_some HBD.out))
    rw [<-HA.out,<-HGG.out] at HVO
    have HU:=yb (show (s.getD 17 0==110)=((x17:Int)==110) by rw [<-HX17.out];exact u8_beq _ 110 110 rfl)
    rw [HU.out] at HVO
    clear HEB HEO HU HA HGG
    go_wp2
    refine yi (zae rfl _ _ r 44 _ (0,0) _ rfl (by exact set3a HZ4.out _ _ _) Tryz.underlying44 rfl (by exact zc2) _ _ rfl rfl) rfl ?_
    rw [HVO.out]
    exact ⟨rfl,zeE HW4.out HRR.out _ _ _⟩
structure EsM (w W:World) (g:Nat) (n:Int) (es:List Ent) (sv:Value):Prop where
 blk:W.heap[g]?=some (.cells #[.int .i64 n,sv] 42 (0,0))
 own:W.ownsRow w.heap.size 44 3 sv es.length (zcs es)
 kps:zai (fun b=>b=g) w W
 gne:g<w.heap.size
theorem EsM.ne {w W:World} {g:Nat} {n:Int} {es:List Ent} {sv:Value} (h:EsM w W g n es sv) {b:Nat} (hb:sv.ownBlock=some b):b≠g:=by
 have:=(h.own.lt b hb).1
 have:=h.gne
 omega
theorem EsM.on {w W W':World} {g:Nat} {n:Int} {es:List Ent} {sv:Value} (h:EsM w W g n es sv) (hk:zai (fun _=>False) W W'):EsM w W' g n es sv :=
 ⟨hk.obj h.blk (fun h=>h),zaE h.own fun b hb=>hk.block b (h.own.lt b hb).2 (fun h=>h),h.kps.trans hk (fun x hx=>(by cases hx)),h.gne⟩
theorem EsM.app {w W W8:World} {o:Obj} {g:Nat} {n:Int} {es:List Ent} {sv:Value} (h:EsM w W g n es sv) (hg8:(W.alloc o).grownBy W8 sv.ownBlock) {x:Ent} {v':Value} (hO:W8.ownsRow w.heap.size 44 3 v' (es.length+1) (zcs es++entC x)) :
  EsM w (W8.setCell ⟨g,1,none⟩ v') g n (es++[x]) v':=by
 have hG:W8.heap[g]?=some (.cells #[.int .i64 n,sv] 42 (0,0)) :=
  (hg8.block g (by rw [zan];have:=zaj h.blk;omega) (fun e=>h.ne e.symm rfl)).trans (zak _ h.blk)
 refine ⟨by rw [heap_setCell_same _ g 1 _ _ _ hG];rfl,?_,((h.kps.alloc o).grown hg8 (fun k hk=>.inr (h.own.lt k hk).1)).setCell (.inl rfl) _,h.gne⟩
 have h2:zcs (es++[x])=zcs es++entC x:=by rw [zeR];simp [zcs]
 rw [h2,List.length_append]
 refine zaE hO fun b hb=>?_
 obtain ⟨cs,hc⟩:=zaJ hO hb
 exact heap_setCell_other _ _ _ _ (za5 hc hG (by decide))
theorem EsM.below {w W W':World} {g:Nat} {n:Int} {es:List Ent} {sv:Value} (h:EsM w W g n es sv) (hb:Below W.heap.size W W'):EsM w W' g n es sv:=h.on (zax hb)
theorem EsM.outer {w W:World} {o:Obj} {g:Nat} {n:Int} {es:List Ent} {sv:Value} (h:EsM (w.alloc o) W g n es sv) (hg:g=w.heap.size):Below w.heap.size w W :=
 (zai.trans (S:=fun _=>False) (zax (zam w o)) h.kps (fun x hx=>.inr (by omega))).below (yp _) (fun b hb=>by cases hb)
theorem EsM.fin {w W:World} {g:Nat} {n:Int} {es:List Ent} {sv:Value} (h:EsM w W g n es sv):IsE W (fun b=>w.heap.size<=b) es sv:=isE_own h.own
structure PsM (w W0 W:World) (r p:Nat) (gs:List Grp) (cs:List Value) (v:Value):Prop where
 sb:W.heap[p]?=some (.cells #[v,.int .i64 0,.int .i64 0,.string ⟨#[]⟩,.slice none 0 0] 33 (0,0))
 rb:W.heap[r]?=some (.cells #[.slice none 0 0,.int .i64 0,.int .i64 0,.string ⟨#[]⟩,.slice none 0 0] 33 (0,0))
 gm:GsM W0 W p gs cs v
 bel:Below w.heap.size w W
 lt:w.heap.size<=r/\r<p/\p<W0.heap.size
theorem PsM.on {w W0 W W':World} {r p:Nat} {gs:List Grp} {cs:List Value} {v:Value} (h:PsM w W0 W r p gs cs v) (hb:Below W.heap.size W W'):PsM w W0 W' r p gs cs v :=
 ⟨zab hb h.sb,zab hb h.rb,h.gm.on h.lt.2.2 (zax hb),h.bel.trans (hb.mono h.bel.size),h.lt⟩
theorem PsM.app {w W0 W W8:World} {r p:Nat} {o:Obj} {gs:List Grp} {cs:List Value} {v v':Value} (h:PsM w W0 W r p gs cs v) (hg8:(W.alloc o).grownBy W8 v.ownBlock) {n:Int} {es:List Ent} {sv:Value} (hG:GsM W0 W8 p (gs++[⟨n,es⟩]) (cs++[.int .i64 n,sv]) v') :
  PsM w W0 (W8.setCell ⟨p,0,none⟩ v') r p (gs++[⟨n,es⟩]) (cs++[.int .i64 n,sv]) v':=by
 have hnp:∀ {b},v.ownBlock=some b->b≠p/\b≠r:=fun {b} hb=>by
  have:=(h.gm.own.lt b hb).1
  have:=h.lt
  omega
 have hP:W8.heap[p]?=some (.cells #[v,.int .i64 0,.int .i64 0,.string ⟨#[]⟩,.slice none 0 0] 33 (0,0)) :=
  (hg8.block p (by rw [zan];have:=zaj h.sb;omega) (fun e=>(hnp e.symm).1 rfl)).trans (zak _ h.sb)
 have hR:W8.heap[r]?=some (.cells #[.slice none 0 0,.int .i64 0,.int .i64 0,.string ⟨#[]⟩,.slice none 0 0] 33 (0,0)) :=
  (hg8.block r (by rw [zan];have:=zaj h.rb;omega) (fun e=>(hnp e.symm).2 rfl)).trans (zak _ h.rb)
 refine ⟨by rw [heap_setCell_same _ p 0 _ _ _ hP];rfl,?_,hG.on h.lt.2.2 ((zai.refl (fun b=>b=p) W8).setCell (a:=⟨p,0,none⟩) (.inl rfl) _),?_,h.lt⟩
 ·rw [heap_setCell_other _ _ _ _ (show r≠p by have:=h.lt;omega)];exact hR
 ·have h1:Below w.heap.size w W8:=(h.bel.alloc h.bel.size o).grown hg8 (by have:=(h.bel.alloc h.bel.size o).size;omega) (fun b hb=>by have:=(h.gm.own.lt b hb).1;have:=h.lt;omega)
  have h2:w.heap.size<=(⟨p,0,none⟩:Addr).block:=by have:=h.lt;show w.heap.size<=p;omega
  exact h1.setCell h2 _
theorem zbH:(Tryz.prog.info? 33).map (·.size)=some 5:=by kernel_rfl
end Go.Proofs.YtfafdeemfeaedaaGreat
