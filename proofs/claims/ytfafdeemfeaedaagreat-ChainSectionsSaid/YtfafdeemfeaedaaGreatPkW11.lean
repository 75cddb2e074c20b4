/-
  Our texts PsE to Cf1, in one.
-/
import Derived.Test.YtfafdeemfeaedaaGreatPkW10
import Derived.Deep.RegionLaw
import Derived.Deep.AppendLies
import Derived.PlainAid
import Derived.Test.YtfafdeemfeaedaaGreatProg
import Derived.Lib.Bytealg
import Derived.Deep.RegionHeld3
import Derived.WalkKit
import Derived.Lib.SlBytesConst
import Derived.Maps.OwnOps
import Derived.Maps.OwnSet
import Derived.Maps.Views
set_option maxRecDepth 8000
set_option maxHeartbeats 8000000
namespace Go.Proofs.YtfafdeemfeaedaaGreat
open Go.RowKit
structure VAt (w W:World) (F:Nat->Prop) (r p:Nat) (a:Option Addr) (cap:Nat) (bs:List UInt8) (yq:Bool) (V:PV×Int×Int) (n:Nat) (st:List Lv) (at_:Int):Prop where
 stk:Stk w W F (fun b=>b=r) p a cap bs yq st at_
 res:W.heap[r]?=some (.cells #[.int .i64 0,.int .i64 0,.string ⟨#[]⟩,.slice none 0 0] 27 (0,0))
 fuel:valO bs yq n st at_=some V
 len:∀v∈st,(v.l.length:Int)<=at_
 rng:st=[]\/(0<=at_/\at_<=bs.length)
def ValI (w:World) (r p:Nat) (a:Option Addr) (cap:Nat) (bs:List UInt8) (yq:Bool) (at0:Int) (V:PV×Int×Int) (n:Nat) (act:Act) (W:World):Prop :=
 ∃(F:Nat->Prop) (st:List Lv) (at_:Int) (u10 u11 u12 u13 u14 u15 u16 u17 u18 u19 u20 u21 u22 u23 u24 u25 u26 u27 u28 u29 u30 u31 u32 u33 u34 u35 u36 u37 u38 u39 u40 u41 u42 u43 u44 u45 u46 u47 u48 u49 u50 u51 u52 u53 u54 u55 u56 u57 u58 u59 u60 u61:Value),Hid (VAt w W F r p a cap bs yq V n st at_) /\
  act={ tmps:=#[.slice a bs.length cap,.int .i64 at0,.bool yq,undef,undef,undef,.pointer (some ⟨r,0,none⟩),.int .i64 0,.int .i64 0,.pointer (some ⟨p,0,none⟩),u10,u11,u12,u13,u14,u15,u16,u17,u18,u19,u20,u21,u22,u23,u24,u25,u26,u27,u28,u29,u30,u31,u32,u33,u34,u35,u36,u37,u38,u39,u40,u41,u42,u43,u44,u45,u46,u47,u48,u49,u50,u51,u52,u53,u54,u55,u56,u57,u58,u59,u60,u61],defers:=[] }
def ValEnd (w:World) (V:PV×Int×Int) (e:Ending) (w':World):Prop :=
 ∃sl,e=.returned (.tuple #[pvA V.1 sl,.int .i64 V.2.1,.int .i64 V.2.2])/\IsV w' (fun b=>w.heap.size<=b) V.1 sl/\Below w.heap.size w w'
theorem VAt.small {w W:World} {F:Nat->Prop} {r p:Nat} {a:Option Addr} {cap:Nat} {bs:List UInt8} {yq:Bool} {V:PV×Int×Int} {n:Nat} {st:List Lv} {at_:Int} (h:VAt w W F r p a cap bs yq V n st at_):∀v∈st,v.l.length<=400000:=by
 intro v hv
 obtain ⟨gs,osl,hs⟩:=h.stk
 have:=h.len v hv
 have hsm:=hs.small
 rcases h.rng with h0|h0
 ·subst h0;cases hv
 ·omega
theorem stepV_len {bs:List UInt8} {yq:Bool} {st:List Lv} {k:Int} {t:Tk} {N:Int} (hN:0<=N) (h:∀v∈st,(v.l.length:Int)<=N):∀v∈(zba bs yq st k t).2.1,(v.l.length:Int)<=N:=by
 unfold zba
 split
 ·exact h
 ·split
  ·show ∀v∈(zb8 st _).1,_
   unfold zb8
   split
   ·exact h
   ·split
    ·exact h
    ·intro v hv
     rcases List.mem_cons.1 hv with rfl|hv
     ·exact hN
     ·exact h v hv
  ·split
   ·have he:∀d,∀v∈(zbI st d).2.1,(v.l.length:Int)<=N:=by
     intro d
     unfold zbI
     split
     ·exact h
     ·rename_i v rest
      have hr:∀u∈rest,(u.l.length:Int)<=N:=fun u hu=>h u (List.mem_cons_of_mem _ hu)
      split
      ·exact h
      ·split
       ·exact hr
       ·split
        ·exact h
        ·exact hr
    simp only
    split
    ·exact he _
    ·exact he _
   ·simp only
    split
    ·exact h
    ·split
     ·exact h
     ·exact h
theorem IsV.setr {w W:World} {F:Nat->Prop} {r p:Nat} {a:Option Addr} {cap:Nat} {bs:List UInt8} {yq:Bool} {st:List Lv} {at_:Int} {gs:List Nat} {osl:Value} {v:PV} {sl:Value} (h:IsV W F v sl) (hs:zaz w W F (fun b=>b=r) p a cap bs yq st at_ gs osl) (y0 y1 y2 y3:Value) :
  IsV ((((W.setCell ⟨r,0,none⟩ y0).setCell ⟨r,1,none⟩ y1).setCell ⟨r,2,none⟩ y2).setCell ⟨r,3,none⟩ y3) (fun b=>w.heap.size<=b) v sl :=
 IsV.keep ⟨by rw [zaT];exact yp _,fun b _ hf=>zaX (fun e=>(hs.fb b hf).2.1 e) _ _ _ _⟩ (fun b hf=>(hs.fb b hf).1) v h
def S5v (w:World) (v:Nat) (y0 y1 y2 y3:Value):Prop:=w.cell? ⟨v,0,none⟩=some y0/\w.cell? ⟨v,1,none⟩=some y1/\w.cell? ⟨v,2,none⟩=some y2/\w.cell? ⟨v,3,none⟩=some y3
theorem S5v.drew {w:World} {v:Nat} {y0 y1 y2 y3:Value} (h:S5v w v y0 y1 y2 y3):S5v w.drew v y0 y1 y2 y3:=h
theorem S5v.alloc {w:World} {v:Nat} {y0 y1 y2 y3:Value} (h:S5v w v y0 y1 y2 y3) (o:Obj):S5v (w.alloc o) v y0 y1 y2 y3 :=
 ⟨zbg o h.1,zbg o h.2.1,zbg o h.2.2.1,zbg o h.2.2.2⟩
theorem S5v.grown {w w':World} {row:Option Nat} {v:Nat} {y0 y1 y2 y3:Value} (h:S5v w v y0 y1 y2 y3) (hg:w.grownBy w' row) (h2:row≠some v):S5v w' v y0 y1 y2 y3:=by
 have k:∀b o y,row≠some b->w.cell? ⟨b,o,none⟩=some y->w'.cell? ⟨b,o,none⟩=some y:=fun b o y hb hc=>by
  rw [World.cell?_of_block (w:=w) (a:=⟨b,o,none⟩) (hg.block b (World.block_lt_of_cell? w _ hc) (fun e=>hb e.symm))];exact hc
 exact ⟨k _ _ _ h2 h.1,k _ _ _ h2 h.2.1,k _ _ _ h2 h.2.2.1,k _ _ _ h2 h.2.2.2⟩
theorem S5v.set {w:World} {v b:Nat} {y0 y1 y2 y3:Value} (h:S5v w v y0 y1 y2 y3) (h2:v≠b) (o:Nat) (z:Value):S5v (w.setCell ⟨b,o,none⟩ z) v y0 y1 y2 y3:=by
 have k:∀c o' y,c≠b->w.cell? ⟨c,o',none⟩=some y->(w.setCell ⟨b,o,none⟩ z).cell? ⟨c,o',none⟩=some y:=fun c o' y hb hc=>by
  rw [World.cell?_of_block (w:=w) (a:=⟨c,o',none⟩) (heap_setCell_other _ _ _ _ hb)];exact hc
 exact ⟨k _ _ _ h2 h.1,k _ _ _ h2 h.2.1,k _ _ _ h2 h.2.2.1,k _ _ _ h2 h.2.2.2⟩
theorem owns_lastC {w:World} {base g n cap:Nat} {cs:List Value} {z0 z1 z2 z3:Value} (h:w.ownsRow base 27 4 (.slice (some ⟨g,0,none⟩) (n+1) cap) (n+1) (cs++[z0,z1,z2,z3])) :
  (w.cell? ⟨g,n*4,none⟩=some z0/\w.cell? ⟨g,n*4+1,none⟩=some z1/\w.cell? ⟨g,n*4+2,none⟩=some z2/\w.cell? ⟨g,n*4+3,none⟩=some z3)/\(∀j,w.frozen? ⟨g,j,none⟩=false):=by
 have hl:cs.length=n*4:=by have:=h.1;simp at this;omega
 rcases h.2 with ⟨e,-⟩|⟨g',cap',cur,e,hb,hh,hn,hm,hs,ht⟩
 ·cases e
 ·simp only [Value.slice.injEq,Option.some.injEq,Addr.mk.injEq] at e
  obtain ⟨⟨rfl,-⟩,-,rfl⟩:=e
  have hc:∀j z,(cs++[z0,z1,z2,z3])[j]?=some z->w.cell? ⟨g,j,none⟩=some z:=fun j z hj=>by
   rw [cell_of_row w g j cur _ _ hh]
   rw [<-ht,List.getElem?_take] at hj
   split at hj
   ·simpa using hj
   ·cases hj
  refine ⟨⟨hc _ _ ?_,hc _ _ ?_,hc _ _ ?_,hc _ _ ?_⟩,fun j=>frozen_of_row w g j cur _ hh⟩
  ·rw [List.getElem?_append_right (by omega)];simp [hl]
  ·rw [List.getElem?_append_right (by omega)];simp [hl]
  ·rw [List.getElem?_append_right (by omega)];simp [hl]
  ·rw [List.getElem?_append_right (by omega)];simp [hl]
theorem owns_setLast {w:World} {base g n cap:Nat} {cs:List Value} {z0 z1 z2 z3 y0 y1 y2 y3:Value} (h:w.ownsRow base 27 4 (.slice (some ⟨g,0,none⟩) (n+1) cap) (n+1) (cs++[z0,z1,z2,z3])) :
  ((((w.setCell ⟨g,n*4,none⟩ y0).setCell ⟨g,n*4+1,none⟩ y1).setCell ⟨g,n*4+2,none⟩ y2).setCell ⟨g,n*4+3,none⟩ y3).ownsRow base 27 4 (.slice (some ⟨g,0,none⟩) (n+1) cap) (n+1) (cs++[y0,y1,y2,y3]):=by
 have hl:cs.length=n*4:=by have:=h.1;simp at this;omega
 rcases h.2 with ⟨e,-⟩|⟨g',cap',cur,e,hb,hh,hn,hm,hs,ht⟩
 ·cases e
 ·simp only [Value.slice.injEq,Option.some.injEq,Addr.mk.injEq] at e
  obtain ⟨⟨rfl,-⟩,-,rfl⟩:=e
  have e0:=heap_setCell_same w g (n*4) cur _ y0 hh
  have e1:=heap_setCell_same _ g (n*4+1) _ _ y1 e0
  have e2:=heap_setCell_same _ g (n*4+2) _ _ y2 e1
  have e3:=heap_setCell_same _ g (n*4+3) _ _ y3 e2
  refine ⟨by simp [hl];omega,.inr ⟨g,cap,_,rfl,hb,e3,hn,hm,by simpa using hs,?_⟩⟩
  have hcur:∀j,j<n*4->cur.toList[j]?=cs[j]?:=fun j hj=>by
   have:=congrArg (fun l=>l[j]?) ht
   simp only [List.getElem?_take] at this
   rw [yg (by omega),List.getElem?_append_left (by omega)] at this
   exact this
  apply List.ext_getElem?
  intro j
  rw [List.getElem?_take]
  simp only [Array.toList_setIfInBounds,List.getElem?_set,List.length_set,Array.length_toList]
  by_cases hj:j<(n+1)*4
  ·rw [yg hj]
   by_cases h3:n*4+3=j
   ·subst h3;rw [List.getElem?_append_right (by omega)];simp [hl];omega
   ·by_cases h2:n*4+2=j
    ·subst h2;rw [List.getElem?_append_right (by omega)];simp [hl];omega
    ·by_cases h1:n*4+1=j
     ·subst h1;rw [List.getElem?_append_right (by omega)];simp [hl];omega
     ·by_cases h0:n*4=j
      ·subst h0;rw [List.getElem?_append_right (by omega)];simp [hl];omega
      ·simp only [h0,h1,h2,h3,if_false]
       rw [List.getElem?_append_left (by omega)];exact hcur j (by omega)
  ·rw [yh hj,List.getElem?_eq_none (by simp [hl];omega)]
theorem zcl (w:World) {g b:Nat} (h:g≠b) (i j:Nat) (u v:Value):(w.setCell ⟨g,i,none⟩ u).setCell ⟨b,j,none⟩ v=(w.setCell ⟨b,j,none⟩ v).setCell ⟨g,i,none⟩ u:=by
 unfold World.setCell
 simp only
 congr 1
 apply Array.ext_getElem?
 intro k
 simp only [Array.getElem?_modify]
 by_cases h1:g=k
 ·subst h1
  have h2:¬b=g:=fun e=>h e.symm
  simp [h2]
 ·by_cases h2:b=k
  ·subst h2;simp [h1]
  ·simp [h1,h2]
theorem zgP (w:World) {g b:Nat} (h:g≠b) (i j0 j1 j2 j3:Nat) (u v0 v1 v2 v3:Value) :
  ((((w.setCell ⟨g,i,none⟩ u).setCell ⟨b,j0,none⟩ v0).setCell ⟨b,j1,none⟩ v1).setCell ⟨b,j2,none⟩ v2).setCell ⟨b,j3,none⟩ v3=((((w.setCell ⟨b,j0,none⟩ v0).setCell ⟨b,j1,none⟩ v1).setCell ⟨b,j2,none⟩ v2).setCell ⟨b,j3,none⟩ v3).setCell ⟨g,i,none⟩ u:=by
 rw [zcl w h,zcl _ h,zcl _ h,zcl _ h]
theorem VAt.put {w W5 w7:World} {F:Nat->Prop} {r v4 p:Nat} {a:Option Addr} {cap:Nat} {bs:List UInt8} {yq:Bool} {V:PV×Int×Int} {n:Nat} {top:Lv} {rest:List Lv} {at2:Int} {g:Nat} {t:List Nat} {osl:Value}
  (HG5:zaz w W5 F (fun b=>b=r\/b=v4) p a cap bs yq (top::rest) at2 (g::t) osl) (HR5:W5.heap[r]?=some (.cells #[.int .i64 0,.int .i64 0,.string ⟨#[]⟩,.slice none 0 0] 27 (0,0)))
  {ta:Option Addr} {tn tc:Nat} (HGL:W5.heap[g]?=some (.cells #[.bool top.dict,.slice ta tn tc] 166 (0,0))) {cs:List Value} (HVS:IsVs W5 F top.l cs) {X:PV} {sa:Option Addr} {sn sc:Nat} (HX:IsV W5 F X (.slice sa sn sc)) (HTN:tn=top.l.length)
  {o:Obj} (HG7:((W5.alloc o).drew).grownBy w7 (Value.slice ta tn tc).ownBlock) {g7 cap7:Nat} {z0 z1 z2 z3:Value}
  (HO7:w7.ownsRow w.heap.size 27 4 (.slice (some ⟨g7,0,none⟩) (tn+1) cap7) (tn+1) (cs++[z0,z1,z2,z3])) (HAT:(Value.slice ta tn tc).ownBlock=some g7\/g7=W5.heap.size+1)
  (hv:valO bs yq n ({ top with l:=top.l++[X] }::rest) at2=some V) (hlen:∀v∈top::rest,(v.l.length:Int)+1<=at2) (hrng:0<=at2/\at2<=bs.length) :
  VAt w (((((w7.setCell ⟨g7,tn*4,none⟩ (.int .i64 X.kind)).setCell ⟨g7,tn*4+1,none⟩ (.int .i64 X.n)).setCell ⟨g7,tn*4+2,none⟩ (.string (mkB X.s))).setCell ⟨g7,tn*4+3,none⟩ (.slice sa sn sc)).setCell ⟨g,1,none⟩ (.slice (some ⟨g7,0,none⟩) (tn+1) cap7)) F r p a cap bs yq V n ({ top with l:=top.l++[X] }::rest) at2:=by
 subst HTN
 have hk:zai (fun b=>(Value.slice ta top.l.length tc).ownBlock=some b) W5 ((((w7.setCell ⟨g7,top.l.length*4,none⟩ (.int .i64 X.kind)).setCell ⟨g7,top.l.length*4+1,none⟩ (.int .i64 X.n)).setCell ⟨g7,top.l.length*4+2,none⟩ (.string (mkB X.s))).setCell ⟨g7,top.l.length*4+3,none⟩ (.slice sa sn sc)):=by
  have h0:zai (fun b=>(Value.slice ta top.l.length tc).ownBlock=some b) W5 w7 :=
   (zax (zam W5 o).drew).grown HG7 fun k hk=>.inl hk
  have hg7:(Value.slice ta top.l.length tc).ownBlock=some g7\/W5.heap.size<=g7:=by rcases HAT with h|h;exact .inl h;exact .inr (by omega)
  exact (((h0.setCell (a:=⟨g7,_,none⟩) hg7 _).setCell (a:=⟨g7,_,none⟩) hg7 _).setCell (a:=⟨g7,_,none⟩) hg7 _).setCell (a:=⟨g7,_,none⟩) hg7 _
 have N:=HG5.put HGL HVS HX (v':=.slice (some ⟨g7,0,none⟩) (top.l.length+1) cap7) (owns_setLast HO7) hk (fun b hb=>by
  have hb:g7=b:=by simpa [Value.ownBlock] using hb
  subst hb
  rcases HAT with h|h;exact .inl h;exact .inr (by omega))
 refine ⟨(let ⟨gs2,osl2,h⟩:=N.stk;⟨gs2,osl2,h.give fun b hb=>.inl hb⟩),zca N.sg HR5 (.inl rfl),hv,fun v hv=>?_,.inr hrng⟩
 rcases List.mem_cons.1 hv with rfl|hv
 ·have:=hlen top List.mem_cons_self
  simpa using this
 ·have:=hlen v (List.mem_cons_of_mem _ hv)
  omega
set_option maxRecDepth 100000 in
theorem value_any {w:World} {a:Option Addr} {cap:Nat} {bs:List UInt8} (hr:Row w 1 a bs.length cap (bs.map u8C)) (hn:bs.length<=400000) (at0:Int) (yq:Bool) (V:PV×Int×Int) (hV:valO bs yq (bs.length+2) [] at0=some V) :
  Calls Tryz.prog 45 #[.slice a bs.length cap,.int .i64 at0,.bool yq] w (ValEnd w V):=by
 obtain ⟨r,hrr⟩:∃r,r=w.heap.size:=⟨_,rfl⟩
 have hs0:zaz w ((w.alloc (.cells #[.int .i64 0,.int .i64 0,.string ⟨#[]⟩,.slice none 0 0] 27)).alloc (.cells #[.slice a bs.length cap,.int .i64 at0,.bool yq,.slice none 0 0] 160)) (fun _=>False) (fun b=>b=r) (r+1) a cap bs yq [] at0 [] (.slice none 0 0) :=
  ⟨zac _ (by rw [zan,hrr]),by omega,by omega,World.ownsRow_nil _ _ _ _,fun b hb=>(by cases hb),rfl,fun b hb=>hb.elim,fun b hb=>by rw [zan,zan];omega,za0 w _ _,hr,hn,by simp⟩
 have HAT:=yb (show VAt w ((w.alloc (.cells #[.int .i64 0,.int .i64 0,.string ⟨#[]⟩,.slice none 0 0] 27)).alloc (.cells #[.slice a bs.length cap,.int .i64 at0,.bool yq,.slice none 0 0] 160)) (fun _=>False) r (r+1) a cap bs yq V (bs.length+2) [] at0 from
  ⟨⟨_,_,hs0⟩,zak _ (zac _ hrr),hV,fun v hv=>(by cases hv),.inl rfl⟩)
 have HRR:=yb hrr
 clear hs0 hV hr hn hrr
 go_enter Tryz.func45,Tryz.ntmps45
 go_wp2
 refine zcq 0 (ValI w r (r+1) a cap bs yq at0 V) rfl ?first ?pass
 case first =>
  intro hpass
  have HPASS:=yb hpass
  clear hpass
  go_wp2
  rw [<-HRR.out]
  refine wp_label ?_
  rename_i K hK
  exact hK _ _ (HPASS.out _ _ _ ⟨_,[],at0,_,_,_,_,_,_,_,_,_,_,_,_,_,_,_,_,_,_,_,_,_,_,_,_,_,_,_,_,_,_,_,_,_,_,_,_,_,_,_,_,_,_,_,_,_,_,_,_,_,_,_,_,HAT,rfl⟩)
 case pass =>
  rintro n act W ⟨F,st,at_,u10,u11,u12,u13,u14,u15,u16,u17,u18,u19,u20,u21,u22,u23,u24,u25,u26,u27,u28,u29,u30,u31,u32,u33,u34,u35,u36,u37,u38,u39,u40,u41,u42,u43,u44,u45,u46,u47,u48,u49,u50,u51,u52,u53,u54,u55,u56,u57,u58,u59,u60,u61,HA,rfl⟩
  obtain ⟨p,hp⟩:∃p,p=r+1:=⟨_,rfl⟩
  rw [<-hp] at HA |-
  have HP:=yb hp
  clear hp HAT
  obtain ⟨gs,osl,hs⟩:=HA.out.stk
  have HS:=yb hs
  have HNX:=yb (pnext_any hs)
  have HFU:=yb HA.out.fuel
  have HRES:=yb HA.out.res
  have hrl:r<W.heap.size:=zaj HA.out.res
  have hpr:p≠r:=hs.gp
  have HLEN:=yb HA.out.len
  have HSM:=yb HA.out.small
  have HRNG:=yb HA.out.rng
  have HHR:=yb (show w.heap.size<=r by rw [HRR.out];exact yp _)
  have hfu:=HFU.out
  cases n with
  | zero=>cases hfu
  | succ n =>
  unfold valO at hfu
  simp only at hfu
  obtain ⟨T,hT⟩:∃T,T=zal bs at_ yq:=⟨_,rfl⟩
  rw [<-hT] at hfu HNX
  have HT:=yb hT
  obtain ⟨x,tf,tt,er⟩:=T
  simp only at hfu HNX
  clear hs hT HFU HA
  by_cases her:er=0
  case neg =>
   have hv:=hfu
   rw [yg her] at hv
   have HV:=yb (Option.some.inj hv).symm
   have e1:(er==0)=false:=by rw [yf];exact her
   have e2:(er != 0)=true:=by simp only [bne,e1,yj]
   clear hfu hv her
   unfold tokN at HNX
   go_wp2_with fail
   refine HNX.out.mono ?_
   rintro e w1 ⟨rfl,hs1,hk1⟩
   have HR1:=yb ((hk1.alloc (.cells (tokN x tf tt) 150)).obj HRES.out (Ne.symm hpr))
   have HB1:=yb (hs1.bel.alloc hs1.bel.size (.cells (tokN x tf tt) 150))
   unfold tokN at HR1 HB1
   obtain ⟨⟨k0,k1,k2,k3⟩,m0,m1,m2,m3⟩:=zaf HR1.out
   clear hs1 hk1
   go_upto_region 3 with fail
   generalize w1.alloc _=W2 at *
   go_wp2
   try simp only [Exit.jump]
   refine yi (zae rfl _ _ r 27 _ (0,0) _ rfl (by exact set4 HR1.out _ _ _ _) Tryz.underlying27 rfl (by exact zar) _ _ rfl rfl) rfl ?_
   rw [HV.out]
   exact ⟨.slice none 0 0,rfl,IsV.leaf _ _ _ rfl,zad HB1.out HHR.out _ _ _ _⟩
  subst her
  have hv:=hfu
  rw [yh (by simp)] at hv
  have hrng:0<=at_/\at_<=bs.length:=by
   have h:=HT.out
   by_cases ho:at_<0\/(bs.length:Int)<at_
   ·unfold zal at h
    rw [yg ho] at h
    have h2:=congrArg (fun z:Tk×Int×Int×Int=>z.2.2.2) h
    simp at h2
   ·omega
  have hst:=fun w1 (h1:zaz w w1 F (fun b=>b=r) p a cap bs yq st tt gs osl)=>step_any h1 x tf tt HSM.out
  have HST:=yb hst
  have hat:=fun h=>zc1 (bs:=bs) (k:=at_) (yq:=yq) hrng.1 hrng.2 (by rw [<-HT.out]) h
  rw [<-HT.out] at hat
  have hto:=za3 (bs:=bs) (k:=at_) yq hrng.1 hrng.2
  rw [<-HT.out] at hto
  simp only at hat hto
  have hsa:=stepV_at (bs:=bs) (yq:=yq) (k:=tt) (by omega) hto.2 st x
  have hsk:=fun h=>zgf (bs:=bs) (yq:=yq) (k:=tt) (st:=st) (t:=x) h
  have hsl:=stepV_len (bs:=bs) (yq:=yq) (st:=st) (k:=tt) (t:=x) (N:=at_) hrng.1 HLEN.out
  obtain ⟨R,hRR⟩:∃R,R=zba bs yq st tt x:=⟨_,rfl⟩
  rw [<-hRR] at hsa hsk hsl hv
  have HST2:=yb (show ∀w1,zaz w w1 F (fun b=>b=r) p a cap bs yq st tt gs osl->Calls Tryz.prog 82 #[.pointer (some ⟨p,0,none⟩),.agg (tokN x tf tt)] w1 (PStep w w1 F (fun b=>b=r) p a cap bs yq R) from fun w1 h1=>by rw [hRR];exact hst w1 h1)
  obtain ⟨o,st2,at2,er2⟩:=R
  simp only at hsa hsk hsl hv
  have HV:=yb hv
  have HSL:=yb hsl
  have HSA:=yb hsa
  have HSK:=yb (fun h=>hat (hsk h))
  have HTO:=yb hto
  have HR0:=yb hrng
  clear hst HST hat hto hsa hsk hsl hRR hv hfu hrng HT
  unfold tokN at HNX HST2
  go_wp2_with fail
  refine HNX.out.mono ?_
  rintro e w1 ⟨rfl,hs1,hk1⟩
  have HR1:=yb (hk1.obj HRES.out (Ne.symm hpr))
  have HS1:=yb hs1
  clear hs1 hk1 HNX
  go_wp2_with fail
  refine (HST2.out _ (HS1.out.alloc _)).mono ?_
  rintro e w3 ⟨F',sa,sn,sc,X,rfl,hX,hN⟩
  have HX:=yb hX
  have HN:=yb hN
  have HR3:=yb (zca hN.sg (zak (.cells #[.int .i64 x.kind,.int .i64 tf,.int .i64 tt,.int .i64 x.vk,.int .i64 x.vn,.string (mkB x.vs),.slice none 0 0,.string (mkB x.s)] 150) HR1.out) rfl)
  have HB3:=yb (show Below w.heap.size w w3 from (let ⟨_,_,h⟩:=hN.stk;h.bel))
  clear hX hN HST2 HS1 HR1
  unfold pvA
  by_cases her2:er2=0
  case neg =>
   have hv:=HV.out
   rw [yg her2] at hv
   have HVV:=yb (Option.some.inj hv).symm
   have e1:(er2==0)=false:=by rw [yf];exact her2
   have e2:(er2 != 0)=true:=by simp only [bne,e1,yj]
   clear hv her2
   simp only
   generalize o.isSome=io at *
   go_upto_region 6 with fail
   have HR4:=yb (zak (.cells #[.int .i64 X.kind,.int .i64 X.n,.string (mkB X.s),.slice sa sn sc] 27) HR3.out)
   have HB4:=yb (HB3.out.alloc HB3.out.size (.cells #[.int .i64 X.kind,.int .i64 X.n,.string (mkB X.s),.slice sa sn sc] 27))
   generalize w3.alloc _=W4 at *
   obtain ⟨⟨k0,k1,k2,k3⟩,m0,m1,m2,m3⟩:=zaf HR4.out
   go_wp2
   refine yi (zae rfl _ _ r 27 _ (0,0) _ rfl (by exact set4 HR4.out _ _ _ _) Tryz.underlying27 rfl (by exact zar) _ _ rfl rfl) rfl ?_
   rw [HVV.out]
   exact ⟨.slice none 0 0,rfl,IsV.leaf _ _ _ rfl,zad HB4.out HHR.out _ _ _ _⟩
  subst her2
  have hv:=HV.out
  rw [yh (by simp)] at hv
  have hlt:at_<tt:=HSK.out rfl
  have hrng:=HR0.out
  have hsa:=HSA.out
  have hsl:=HSL.out
  cases o with
  | none =>
   simp only at hv
   have HVA:=yb (show ∀o:Obj,VAt w (w3.alloc o) F' r p a cap bs yq V n st2 at2 from fun o =>
    ⟨(let ⟨gs2,osl2,h⟩:=HN.out.stk;⟨gs2,osl2,h.alloc o⟩),zak o HR3.out,hv,fun v hv=>by have:=hsl v hv;omega,.inr ⟨by omega,hsa.2⟩⟩)
   clear hv hlt hsa hsl HN HX hrng
   simp only [Option.isSome_none]
   go_wp2
   go_step3
   exact ⟨rfl,n,Nat.lt_succ_self _,F',st2,at2,_,_,_,_,_,_,_,_,_,_,_,_,_,_,_,_,_,_,_,_,_,_,_,_,_,_,_,_,_,_,_,_,_,_,_,_,_,_,_,_,_,_,_,_,_,_,_,_,_,_,_,_,yb (HVA.out _),rfl⟩
  | some x0 =>
   simp only [Option.isSome_some]
   obtain ⟨rfl,hv0⟩:=HX.out x0 rfl
   have HV0:=yb hv0
   obtain ⟨gs2,osl2,hs2⟩:=HN.out.stk
   have HS2:=yb hs2
   simp only at hv
   go_upto_region 9 with fail
   obtain ⟨v4,hv4⟩:∃v4,v4=w3.heap.size:=⟨_,rfl⟩
   have hb4:=zam w3 (.cells #[.int .i64 X.kind,.int .i64 X.n,.string (mkB X.s),.slice sa sn sc] 27)
   have hk4:=zac (w:=w3) (b:=v4) (.cells #[.int .i64 X.kind,.int .i64 X.n,.string (mkB X.s),.slice sa sn sc] 27) hv4
   have HS4:=yb (hs2.mono hb4)
   have HG4:=yb (hs2.res (G':=fun b=>b=r\/b=v4) hb4 (fun b hb=>hb.imp id fun e=>by rw [e,hv4,zan];omega))
   have HV4:=yb (hv0.below hb4)
   have HR4:=yb (zab hb4 HR3.out)
   have HB4:=yo HB3 hb4
   have HK4:=yb hk4
   have HV3:=yb hv4
   have hv4r:v4≠r:=by have:=zaj HR3.out;omega
   have hv4p:v4≠p:=by have:=hs2.lt;omega
   rw [<-hv4]
   clear hv0 hs2 HX HN HS2 HV0 HR3 HB3 hb4 hk4
   generalize w3.alloc _=W4 at *
   clear hv4
   have HTOP:=yb (zgY HS4.out)
   go_wp2_with fail
   refine HTOP.out.mono ?_
   rintro e w5 ⟨rfl,q,rfl⟩
   have HS5:=yb (HS4.out.drewN q)
   have HG5:=yb (HG4.out.drewN q)
   have HV5:=yb (HV4.out.below (zah (Below.refl _ _) q))
   have HR5:=yb (show (W4.drewN q).heap[r]?=_ from HR4.out)
   have HB5:=yb (zah HB4.out q)
   have HK5:=yb (show (W4.drewN q).heap[v4]?=_ from HK4.out)
   clear HS4 HG4 HV4 HR4 HB4 HK4 HTOP
   generalize W4.drewN q=W5 at *
   obtain ⟨⟨k0,k1,k2,k3⟩,m0,m1,m2,m3⟩:=zaf HR5.out
   obtain ⟨⟨d0,d1,d2,d3⟩,-⟩:=zaf HK5.out
   cases st2 with
   | nil =>
    have hg:gs2=[]:=List.eq_nil_of_length_eq_zero (by rw [HS5.out.lvs.len];rfl)
    subst hg
    have HVV:=yb (Option.some.inj hv).symm
    obtain ⟨⟨c0,c1,c2,c3⟩,-⟩:=HS5.out.cells
    clear hv hlt hsa hsl hrng
    unfold topP
    go_wp2
    go_region
    all_goals
     go_wp2
     refine yi (zae rfl _ _ r 27 _ (0,0) _ rfl (by exact set4 HR5.out _ _ _ _) Tryz.underlying27 rfl (by exact zar) _ _ rfl rfl) rfl ?_
     rw [HVV.out]
     exact ⟨_,rfl,(IsV.setr HV5.out HS5.out _ _ _ _).drew,(zad HB5.out HHR.out _ _ _ _).drew⟩
   | cons top rest =>
    obtain ⟨g,t,ta,tc,cs,rfl,ht1,ht2,hgB,hgG,hgl,hO,hVs,hown⟩:=HG5.out.lastL
    obtain ⟨tn,htn⟩:∃tn,tn=top.l.length:=⟨_,rfl⟩
    rw [<-htn] at ht1 hO hgl hown
    have htn2:tn<=400000:=by
     have h1:=hsl top List.mem_cons_self
     have h2:=HS5.out.small
     omega
    have hgc:W5.cell? ⟨g,1,none⟩=some (.slice ta tn tc):=by rw [cell_of_row W5 g 1 _ _ _ hgl];rfl
    have hgf:W5.frozen? ⟨g,1,none⟩=false:=frozen_of_row W5 g 1 _ _ hgl
    have hv4l:v4<W5.heap.size:=zaj HK5.out
    have hgll:g<W5.heap.size:=zaj hgl
    have hgt:(Value.slice ta tn tc).ownBlock≠some g:=fun e=>by obtain ⟨ds,hc⟩:=zaJ hO e;exact za5 hc hgl (by decide) rfl
    have hvt:(Value.slice ta tn tc).ownBlock≠some v4:=fun e=>(hown v4 e).2 (.inr rfl)
    have HC0:Hid (S5v W5 v4 (.int .i64 X.kind) (.int .i64 X.n) (.string (mkB X.s)) (.slice sa sn sc)):=yb ⟨d0,d1,d2,d3⟩
    have HO:=yb hO
    have HGL:=yb hgl
    have HVS:=yb hVs
    have HTN:=yb htn
    have HBA:=yb (HS5.out.bel.size)
    have HGT:=yb hgt
    have HVT:=yb hvt
    have HVG:=yb (show v4≠g from fun e=>hgG (.inr e.symm))
    clear k0 k1 k2 k3 m0 m1 m2 m3 hO hgl hVs htn hown
    unfold topP
    go_upto_region 11 with fail
    have i1:(0:Int)<=(tn:Int):=by omega
    have i2:(tn:Int)<=400000:=by omega
    have i3:(tn:Int)<(tn:Int)+1:=by omega
    have i4:(tn:Int)<((tn+1:Nat):Int):=by omega
    have i5:tn<tn+1:=by omega
    have i6:(tn:Int).toNat=tn:=by omega
    obtain ⟨iB,hiB,hzB,hsB,hbB⟩:=info_parts EPV.info
    go_region_law (first|(refine step_append_lies _ (by rfl) _ _ _ (by rfl) w.heap.size 27 iB _ 4 56 EPV.und hiB hzB hsB hbB rfl (by omega) (.slice ta tn tc) tn cs (by rfl) ((HO.out.alloc _).drew) ⟨W5.heap.size,0,none⟩ 1 1 [.int .i64 0,.int .i64 0,.string ⟨#[]⟩,.slice none 0 0] (by rfl) (by rfl) (World.news_of_block (cs:=#[.int .i64 0,.int .i64 0,.string ⟨#[]⟩,.slice none 0 0]) (t:=27) (fr:=(0,0)) (heap_alloc_new W5 _)) (by simp [Value.oneCell']) (by omega) (by unfold maxLen;omega) (by omega) (by simp;have:=HBA.out;omega) (W5.heap.size+1) (by simp) ?_;intro g7 cap7 w7 hO7 hgrow hat hlt7;have HGV:Hid (g≠g7/\v4≠g7):=(by rcases hat with e|e;exact yb ⟨fun e2=>hgt (e2▸e),fun e2=>hvt (e2▸e)⟩;exact yb ⟨by omega,by omega⟩);have hs7:=(HC0.out.alloc (.cells #[.int .i64 0,.int .i64 0,.string ⟨#[]⟩,.slice none 0 0] 27)).drew.grown hgrow hvt;obtain ⟨s0,s1,s2,s3⟩:=hs7;obtain ⟨⟨z0,z1,z2,z3⟩,zf⟩:=owns_lastC hO7;have hgl7:=yb ((hgrow.block g (show g<(W5.alloc _).heap.size by rw [zan];omega) (fun e=>hgt e.symm)).trans (zak (.cells #[.int .i64 0,.int .i64 0,.string ⟨#[]⟩,.slice none 0 0] 27) HGL.out));have hgf7:=frozen_of_row w7 g 1 _ _ hgl7.out;have hgne:g≠g7:=HGV.out.1;have zf0:=zf (tn*4);have zf1:=zf (tn*4+1);have zf2:=zf (tn*4+2);have zf3:=zf (tn*4+3);have hc7:w7.cell? ⟨g,1,none⟩=some (.slice ta tn tc):=(by rw [cell_of_row w7 g 1 _ _ _ hgl7.out];rfl);have HG7:=yb hgrow;have HO7:=yb hO7;have HAT:=yb hat;clear zf hgrow hO7 hat hlt7))
    all_goals
     first
      | rw [zgP w7 hgne]
      | skip
     have HVA:=yb (VAt.put HG5.out HR5.out HGL.out HVS.out HV5.out HTN.out HG7.out HO7.out HAT.out hv (fun v hv=>by have:=hsl v hv;omega) ⟨by omega,hsa.2⟩)
     clear hv hlt hsa hsl hrng HG5 HR5 HGL HVS HV5 HTN HG7 HO7 HAT HO
     go_wp2
     go_step3
     exact ⟨rfl,n,Nat.lt_succ_self _,F',_,at2,_,_,_,_,_,_,_,_,_,_,_,_,_,_,_,_,_,_,_,_,_,_,_,_,_,_,_,_,_,_,_,_,_,_,_,_,_,_,_,_,_,_,_,_,_,_,_,_,_,_,_,_,HVA,rfl⟩
def oneW (p:Tk->Bool) (V:Tk×Int×Int×Int):Tk×Int×Int×Int :=
 if V.2.2.2≠0 then ({ kind:=0 },0,0,V.2.2.2) else if V.1.kind=0 then ({ kind:=0 },0,0,10) else if p V.1=false then ({ kind:=0 },0,0,11) else (V.1,V.2.1,V.2.2.1,0)
def zfI (s:List UInt8) (t:Tk):Bool:=t.kind==6&&t.s==s
def zg5 (w:World) (V:Tk×Int×Int×Int) (e:Ending) (w':World):Prop:=e=.returned (.tuple #[.int .i64 V.1.vn,.int .i64 V.2.2.1,.int .i64 V.2.2.2])/\Below w.heap.size w w'
def zc4 (w:World) (V:Tk×Int×Int×Int) (e:Ending) (w':World):Prop:=e=.returned (.tuple #[.int .i64 V.2.2.1,.int .i64 V.2.2.2])/\Below w.heap.size w w'
def OneEnd (w:World) (V:Tk×Int×Int×Int) (e:Ending) (w':World):Prop:=e=.returned (.tuple #[.agg (tokN V.1 V.2.1 V.2.2.1),.int .i64 V.2.2.2])/\Below w.heap.size w w'
theorem rword_any {w:World} {a:Option Addr} {cap:Nat} {bs:List UInt8} (hr:Row w 1 a bs.length cap (bs.map u8C)) (hn:bs.length<=400000) (k:Int) (yq:Bool) (s:List UInt8) :
  Calls Tryz.prog 46 #[.slice a bs.length cap,.int .i64 k,.bool yq,.string (mkB s)] w (zc4 w (oneW (zfI s) (zal bs k yq))):=by
 have HN:=yb (zcb hr hn k yq)
 obtain ⟨R,hR⟩:∃R,R=oneW (zfI s) (zal bs k yq):=⟨_,rfl⟩
 rw [<-hR]
 unfold oneW at hR
 generalize zal bs k yq=V at *
 obtain ⟨x,f,t,er⟩:=V
 have HQ:=yb (show ((mkB x.s).toList==(mkB s).toList)=decide (x.s=s) by rw [zaH s];exact zbP x.s s)
 simp only at hR
 unfold zaB tokN at HN
 simp only at HN
 have HR:=yb hR
 clear hr hR hn
 generalize hxs:x.s=xs at *
 generalize hxw:zfI s x=xw at *
 have HXW:=yb (show xw=(x.kind==6&&xs==s) by rw [<-hxw,<-hxs];rfl)
 clear hxs hxw
 generalize x.kind=xk at *
 generalize x.vk=xvk at *
 generalize x.vn=xvn at *
 generalize mkB x.vs=xvb at *
 generalize mkB xs=xb at *
 generalize mkB s=sb at *
 generalize bs.length=L at *
 go_enter Tryz.func46,Tryz.ntmps46
 go_wp2_with fail
 refine HN.out.mono ?_
 rintro e w2 ⟨rfl,hb2⟩
 have HB2:=yb (hb2.alloc hb2.size (.cells #[.int .i64 xk,.int .i64 f,.int .i64 t,.int .i64 xvk,.int .i64 xvn,.string xvb,.slice none 0 0,.string xb] 111))
 have HT2:=yb (zac (w:=w2) (b:=w2.heap.size) (.cells #[.int .i64 xk,.int .i64 f,.int .i64 t,.int .i64 xvk,.int .i64 xvn,.string xvb,.slice none 0 0,.string xb] 111) rfl)
 clear hb2 HN
 go_upto_region 2 with fail
 obtain ⟨r2,hr2⟩:∃r2,r2=w2.heap.size:=⟨_,rfl⟩
 rw [<-hr2] at HT2 |-
 clear hr2
 generalize w2.alloc _=W2 at *
 obtain ⟨⟨t0,t1,t2,t3,t4,t5,t6,t7⟩,-⟩:=zag HT2.out
 have hR:=HR.out
 by_cases her:er=0
 case neg =>
  have e0:(er==0)=false:=by rw [yf];exact her
  have e1:(er != 0)=true:=by simp only [bne,e0,yj]
  rw [yg her] at hR
  subst hR
  clear HR her
  go_wp2
  go_ret2
  exact ⟨rfl,HB2.out⟩
 subst her
 rw [yh (by simp)] at hR
 by_cases hk:xk=0
 ·have e0:(xk==0)=true:=by rw [hk];rfl
  rw [yg hk] at hR
  subst hR
  clear HR hk
  go_wp2
  go_ret2
  exact ⟨rfl,HB2.out⟩
 have e0:(xk==0)=false:=by rw [yf];exact hk
 rw [yh hk] at hR
 have hq:=HQ.out
 have hxw:=HXW.out
 by_cases h6:xk=6
 case neg =>
  have e6:(xk==6)=false:=by rw [yf];exact h6
  have e7:(xk != 6)=true:=by simp only [bne,e6,yj]
  rw [yg (by rw [hxw,e6];rfl)] at hR
  subst hR
  clear HR hk h6 hq hxw HQ HXW
  go_wp2
  go_ret2
  exact ⟨rfl,HB2.out⟩
 have e6:(xk==6)=true:=by rw [h6];rfl
 have e7:(xk != 6)=false:=by simp only [bne,e6,Bool.not_true]
 by_cases hs:xs=s
 case neg =>
  rw [ye hs] at hq
  have e8:(xb.toList != sb.toList)=true:=by simp only [bne,hq,yj]
  rw [yg (by rw [hxw,e6];simp [hs])] at hR
  subst hR
  clear HR hk h6 hxw HQ HXW hs
  go_wp2
  go_ret2
  exact ⟨rfl,HB2.out⟩
 rw [yd hs] at hq
 have e8:(xb.toList != sb.toList)=false:=by simp only [bne,hq,Bool.not_true]
 rw [yh (by rw [hxw,e6,hs];simp)] at hR
 subst hR
 clear HR hk h6 hxw HQ HXW hs
 go_wp2
 go_ret2
 exact ⟨rfl,HB2.out⟩
theorem one_any {w:World} {a:Option Addr} {cap:Nat} {bs:List UInt8} (hr:Row w 1 a bs.length cap (bs.map u8C)) (hn:bs.length<=400000) (k:Int) (yq:Bool) (g:FuncId) (cb:Array Value) (p:Tk->Bool)
  (henter:∀args w,(callFunc g args).run Tryz.prog w=.ok (.enter g args) w)
  (hp:∀W,Below w.heap.size w W->∀x f t,Calls Tryz.prog g (#[.agg (tokN x f t)]++cb) W fun e w'=>e=.returned (.bool (p x))/\Below W.heap.size W w') :
  Calls Tryz.prog 76 #[.slice a bs.length cap,.int .i64 k,.bool yq,.func (.func g) #[] cb] w (OneEnd w (oneW p (zal bs k yq))):=by
 have HN:=yb (fun (W:World) (h:Below w.heap.size w W)=>zdH (hr.mono h) hn k yq)
 obtain ⟨R,hR⟩:∃R,R=oneW p (zal bs k yq):=⟨_,rfl⟩
 rw [<-hR]
 unfold oneW at hR
 generalize zal bs k yq=V at *
 obtain ⟨x,f,t,er⟩:=V
 have HP:=yb (fun W h=>hp W h x f t)
 simp only at hR
 unfold zaB tokN at HN
 unfold tokN at HP
 simp only at HN
 have HR:=yb hR
 clear hr hR hn hp
 generalize p x=px at *
 obtain ⟨xk,xvk,xvn,xvs,xs⟩:=x
 simp only at HN HP HR
 generalize bs.length=L at *
 go_enter Tryz.func76,Tryz.ntmps76
 obtain ⟨B,hB⟩:∃B,B=w.heap.size:=⟨_,rfl⟩
 have HZ:=yb (zac (w:=w) (b:=B) (.cells #[.int .i64 0,.int .i64 0,.int .i64 0,.int .i64 0,.int .i64 0,.string ⟨#[]⟩,.slice none 0 0,.string ⟨#[]⟩] 150) hB)
 have HBW:=yb (zam w (.cells #[.int .i64 0,.int .i64 0,.int .i64 0,.int .i64 0,.int .i64 0,.string ⟨#[]⟩,.slice none 0 0,.string ⟨#[]⟩] 150))
 have HBB:=yb (Nat.le_of_eq hB.symm)
 go_upto_region 1 with fail
 rw [<-hB]
 clear hB
 generalize w.alloc _=W1 at *
 go_wp2_with fail
 refine (HN.out _ HBW.out).mono ?_
 rintro e w2 ⟨rfl,hb2⟩
 have hb2a:=hb2.alloc hb2.size (.cells #[.int .i64 xk,.int .i64 f,.int .i64 t,.int .i64 xvk,.int .i64 xvn,.string (mkB xvs),.slice none 0 0,.string (mkB xs)] 150)
 have HB2:=yo HBW hb2a
 have HT2:=yb (zac (w:=w2) (b:=w2.heap.size) (.cells #[.int .i64 xk,.int .i64 f,.int .i64 t,.int .i64 xvk,.int .i64 xvn,.string (mkB xvs),.slice none 0 0,.string (mkB xs)] 150) rfl)
 have HZ2:=yb (zab hb2a HZ.out)
 clear hb2 hb2a HN HZ
 go_upto_region 2 with fail
 obtain ⟨r2,hr2⟩:∃r2,r2=w2.heap.size:=⟨_,rfl⟩
 rw [<-hr2] at HT2 |-
 clear hr2
 generalize w2.alloc _=W2 at *
 obtain ⟨⟨t0,t1,t2,t3,t4,t5,t6,t7⟩,-⟩:=zag HT2.out
 obtain ⟨⟨z0,z1,z2,z3,z4,z5,z6,z7⟩,zf0,zf1,zf2,zf3,zf4,zf5,zf6,zf7⟩:=zag HZ2.out
 have hR:=HR.out
 by_cases her:er=0
 case neg =>
  have e0:(er==0)=false:=by rw [yf];exact her
  have e1:(er != 0)=true:=by simp only [bne,e0,yj]
  rw [yg her] at hR
  subst hR
  clear HR her HP henter
  go_wp2
  refine yi (zaa rfl _ _ B 150 _ (0,0) _ rfl (by exact set8 HZ2.out _ _ _ _ _ _ _ _) Tryz.underlying150 rfl (by exact zaL) _ rfl) rfl ?_
  exact ⟨rfl,za1 HB2.out HBB.out _ _ _ _ _ _ _ _⟩
 subst her
 rw [yh (by simp)] at hR
 by_cases hk:xk=0
 ·have e0:(xk==0)=true:=by rw [hk];rfl
  rw [yg hk] at hR
  subst hR
  clear HR hk HP henter
  go_wp2
  refine yi (zaa rfl _ _ B 150 _ (0,0) _ rfl (by exact set8 HZ2.out _ _ _ _ _ _ _ _) Tryz.underlying150 rfl (by exact zaL) _ rfl) rfl ?_
  exact ⟨rfl,za1 HB2.out HBB.out _ _ _ _ _ _ _ _⟩
 have e0:(xk==0)=false:=by rw [yf];exact hk
 rw [yh hk] at hR
 clear HR
 have HR:=yb hR
 clear hR hk
 go_wp2_with fail
 refine (HP.out _ HB2.out).mono ?_
 rintro e w3 ⟨rfl,hb3⟩
 have HB3:=yo HB2 hb3
 have HT3:=yb (zab hb3 HT2.out)
 have HZ3:=yb (zab hb3 HZ2.out)
 clear hb3 HP henter t0 t1 t2 t3 t4 t5 t6 t7 z0 z1 z2 z3 z4 z5 z6 z7 zf0 zf1 zf2 zf3 zf4 zf5 zf6 zf7
 obtain ⟨⟨t0,t1,t2,t3,t4,t5,t6,t7⟩,-⟩:=zag HT3.out
 obtain ⟨⟨z0,z1,z2,z3,z4,z5,z6,z7⟩,zf0,zf1,zf2,zf3,zf4,zf5,zf6,zf7⟩:=zag HZ3.out
 have hR:=HR.out
 cases px with
 | false =>
  rw [yg rfl] at hR
  subst hR
  clear HR
  go_wp2
  refine yi (zaa rfl _ _ B 150 _ (0,0) _ rfl (by exact set8 HZ3.out _ _ _ _ _ _ _ _) Tryz.underlying150 rfl (by exact zaL) _ rfl) rfl ?_
  exact ⟨rfl,za1 HB3.out HBB.out _ _ _ _ _ _ _ _⟩
 | true =>
  rw [yh (by decide)] at hR
  subst hR
  clear HR
  go_wp2
  refine yi (zaa rfl _ _ B 150 _ (0,0) _ rfl (by exact set8 HZ3.out _ _ _ _ _ _ _ _) Tryz.underlying150 rfl (by exact zaL) _ rfl) rfl ?_
  exact ⟨rfl,za1 HB3.out HBB.out _ _ _ _ _ _ _ _⟩
theorem pnumber_any {w:World} {a:Option Addr} {cap:Nat} {bs:List UInt8} (hr:Row w 1 a bs.length cap (bs.map u8C)) (hn:bs.length<=400000) (k:Int) (yq:Bool) :
  Calls Tryz.prog 57 #[.slice a bs.length cap,.int .i64 k,.bool yq] w (zg5 w (oneW zaK (zal bs k yq))):=by
 have HO:=yb (one_any hr hn k yq 95 #[] zaK (enters_of Tryz.func95 (by kernel_rfl) rfl) (fun W _ x f t=>zgM x f t W))
 generalize oneW zaK (zal bs k yq)=R at *
 obtain ⟨x,f,t,er⟩:=R
 unfold OneEnd tokN at HO
 unfold zg5
 simp only at HO |-
 clear hr hn
 generalize x.kind=xk at *
 generalize x.vk=xvk at *
 generalize x.vn=xvn at *
 generalize mkB x.vs=xvb at *
 generalize mkB x.s=xb at *
 generalize bs.length=L at *
 go_enter Tryz.func57,Tryz.ntmps57
 go_wp2_with fail
 refine HO.out.mono ?_
 rintro e w2 ⟨rfl,hb2⟩
 have HB2:=yb (hb2.alloc hb2.size (.cells #[.int .i64 xk,.int .i64 f,.int .i64 t,.int .i64 xvk,.int .i64 xvn,.string xvb,.slice none 0 0,.string xb] 150))
 have HT2:=yb (zac (w:=w2) (b:=w2.heap.size) (.cells #[.int .i64 xk,.int .i64 f,.int .i64 t,.int .i64 xvk,.int .i64 xvn,.string xvb,.slice none 0 0,.string xb] 150) rfl)
 clear hb2 HO
 go_upto_region 2 with fail
 obtain ⟨r2,hr2⟩:∃r2,r2=w2.heap.size:=⟨_,rfl⟩
 rw [<-hr2] at HT2 |-
 clear hr2
 generalize w2.alloc _=W2 at *
 obtain ⟨⟨t0,t1,t2,t3,t4,t5,t6,t7⟩,-⟩:=zag HT2.out
 go_wp2
 go_quiet (fail)
 go_wp2
 go_ret3
 exact ⟨rfl,zah HB2.out _⟩
theorem pword1_any {w:World} {b:Nat} {s:List UInt8} (hb:w.cell? ⟨b,0,none⟩=some (.string (mkB s))) (x:Tk) (f t:Int) :
  Calls Tryz.prog 77 #[.agg (tokN x f t),.pointer (some ⟨b,0,none⟩)] w fun e w'=>e=.returned (.bool (zfI s x))/\Below w.heap.size w w':=by
 have hq:((mkB x.s).toList==(mkB s).toList)=decide (x.s=s):=by rw [zaH s];exact zbP x.s s
 have hw:zfI s x=(x.kind==6&&decide (x.s=s)):=by unfold zfI;by_cases e:x.s=s<;>simp [e]
 rw [hw]
 unfold tokN
 have hb2:=cell?_keep (zam w (.cells #[.int .i64 x.kind,.int .i64 f,.int .i64 t,.int .i64 x.vk,.int .i64 x.vn,.string (mkB x.vs),.slice none 0 0,.string (mkB x.s)] 150)) hb
 generalize decide (x.s=s)=ds at *
 clear hw
 generalize x.kind=a0 at *
 generalize x.vk=a1 at *
 generalize x.vn=a2 at *
 generalize mkB x.vs=s1 at *
 generalize mkB x.s=s2 at *
 generalize mkB s=s3 at *
 have HK:=yb (zac (w:=w) (b:=w.heap.size) (.cells #[.int .i64 a0,.int .i64 f,.int .i64 t,.int .i64 a1,.int .i64 a2,.string s1,.slice none 0 0,.string s2] 150) rfl)
 have HB:=yb (zam w (.cells #[.int .i64 a0,.int .i64 f,.int .i64 t,.int .i64 a1,.int .i64 a2,.string s1,.slice none 0 0,.string s2] 150))
 cases h0:(a0==6)
 ·go_enter Tryz.func77,Tryz.ntmps77
  go_upto_region 1 with fail
  obtain ⟨r,hr⟩:∃r,r=w.heap.size:=⟨_,rfl⟩
  rw [<-hr] at HK |-
  clear hr
  generalize w.alloc _=W1 at *
  obtain ⟨⟨k0,k1,k2,k3,k4,k5,k6,k7⟩,-⟩:=zag HK.out
  go_wp2
  go_ret
  exact ⟨rfl,HB.out⟩
 ·cases ds
  ·go_enter Tryz.func77,Tryz.ntmps77
   go_upto_region 1 with fail
   obtain ⟨r,hr⟩:∃r,r=w.heap.size:=⟨_,rfl⟩
   rw [<-hr] at HK |-
   clear hr
   generalize w.alloc _=W1 at *
   obtain ⟨⟨k0,k1,k2,k3,k4,k5,k6,k7⟩,-⟩:=zag HK.out
   go_wp2
   go_ret
   exact ⟨rfl,HB.out⟩
  ·go_enter Tryz.func77,Tryz.ntmps77
   go_upto_region 1 with fail
   obtain ⟨r,hr⟩:∃r,r=w.heap.size:=⟨_,rfl⟩
   rw [<-hr] at HK |-
   clear hr
   generalize w.alloc _=W1 at *
   obtain ⟨⟨k0,k1,k2,k3,k4,k5,k6,k7⟩,-⟩:=zag HK.out
   go_wp2
   go_ret
   exact ⟨rfl,HB.out⟩
theorem pword12_any {w:World} {a:Option Addr} {cap:Nat} {bs:List UInt8} (hr:Row w 1 a bs.length cap (bs.map u8C)) (hn:bs.length<=400000) (k:Int) (yq:Bool) (s:List UInt8) :
  Calls Tryz.prog 43 #[.slice a bs.length cap,.int .i64 k,.bool yq,.string (mkB s)] w (zc4 w (oneW (zfI s) (zal bs k yq))):=by
 have hbw:=zam w (.cells #[.string (mkB s)] 9)
 have hkw:=zac (w:=w) (b:=w.heap.size) (.cells #[.string (mkB s)] 9) rfl
 have hcw:(w.alloc (.cells #[.string (mkB s)] 9)).cell? ⟨w.heap.size,0,none⟩=some (.string (mkB s)):=by rw [cell_of_row _ _ 0 _ _ _ hkw];rfl
 have HO:=yb (one_any (hr.mono hbw) hn k yq 77 #[.pointer (some ⟨w.heap.size,0,none⟩)] (zfI s) (enters_of Tryz.func77 (by kernel_rfl) rfl) (fun W hW x f t=>pword1_any (cell?_keep hW hcw) x f t))
 have HBW:=yb hbw
 generalize oneW (zfI s) (zal bs k yq)=R at *
 obtain ⟨x,f,t,er⟩:=R
 unfold OneEnd tokN at HO
 unfold zc4
 simp only at HO |-
 clear hr hn hbw hkw hcw
 generalize x.kind=xk at *
 generalize x.vk=xvk at *
 generalize x.vn=xvn at *
 generalize mkB x.vs=xvb at *
 generalize mkB x.s=xb at *
 generalize bs.length=L at *
 generalize mkB s=sb at *
 go_enter Tryz.func43,Tryz.ntmps43
 go_upto_region 1 with fail
 obtain ⟨B,hB⟩:∃B,B=w.heap.size:=⟨_,rfl⟩
 rw [<-hB] at HO |-
 have HBB:=yb (Nat.le_of_eq hB.symm)
 clear hB
 generalize w.alloc _=W1 at *
 go_wp2_with fail
 refine HO.out.mono ?_
 rintro e w2 ⟨rfl,hb2⟩
 have HB2:=yb (HBW.out.trans ((hb2.alloc hb2.size (.cells #[.int .i64 xk,.int .i64 f,.int .i64 t,.int .i64 xvk,.int .i64 xvn,.string xvb,.slice none 0 0,.string xb] 150)).mono HBW.out.size))
 have HT2:=yb (zac (w:=w2) (b:=w2.heap.size) (.cells #[.int .i64 xk,.int .i64 f,.int .i64 t,.int .i64 xvk,.int .i64 xvn,.string xvb,.slice none 0 0,.string xb] 150) rfl)
 clear hb2 HO
 go_upto_region 2 with fail
 obtain ⟨r2,hr2⟩:∃r2,r2=w2.heap.size:=⟨_,rfl⟩
 rw [<-hr2] at HT2 |-
 clear hr2
 generalize w2.alloc _=W2 at *
 obtain ⟨⟨t0,t1,t2,t3,t4,t5,t6,t7⟩,-⟩:=zag HT2.out
 go_wp2
 go_ret2
 exact ⟨rfl,HB2.out⟩
theorem oneX_le {bs:List UInt8} {yq:Bool} {k:Int} {p:Tk->Bool} (h:(oneX p (zal bs k yq)).2=0):0<=(oneX p (zal bs k yq)).1/\(oneX p (zal bs k yq)).1<=bs.length:=by
 by_cases hk:k<0\/(bs.length:Int)<k
 ·unfold oneX zal at h
  rw [yg hk] at h
  simp at h
 ·obtain ⟨h1,h2⟩:=za3 (bs:=bs) (k:=k) yq (by omega) (by omega)
  unfold oneX at h |-
  split
  ·exact ⟨Int.le_refl _,by show (0:Int)<=_;omega⟩
  ·split
   ·exact ⟨Int.le_refl _,by show (0:Int)<=_;omega⟩
   ·split
    ·exact ⟨Int.le_refl _,by show (0:Int)<=_;omega⟩
    ·exact ⟨by show (0:Int)<=(zal bs k yq).2.2.1;omega,h2⟩
theorem grps_le {bs:List UInt8} {yq:Bool}:∀(g:Nat) (gs:List Grp) (k:Int),gs.length+g=65->0<=k->k<=bs.length->0<=(zbF bs yq g gs k).2.1/\(zbF bs yq g gs k).2.1<=bs.length
 | 0,_,_,_,_,_=>⟨Int.le_refl _,by show (0:Int)<=_;omega⟩
 | g+1,gs,k,hg,h0,h1=>by
  have hto:=za3 (bs:=bs) (k:=k) yq h0 h1
  rw [<-nxt_3] at hto
  by_cases he:(nxtV bs yq k).2.2.2=0
  case neg=>rw [zgB he];exact ⟨Int.le_refl _,by show (0:Int)<=_;omega⟩
  cases ht:zdF (nxtV bs yq k).1 with
  | true=>rw [zec he ht];exact ⟨by show (0:Int)<=(nxtV bs yq k).2.2.1;omega,hto.2⟩
  | false =>
   by_cases hl:gs.length=64
   ·cases hw:zaK (nxtV bs yq k).1 with
    | false=>rw [grps_bad he ht hw];exact ⟨Int.le_refl _,by show (0:Int)<=_;omega⟩
    | true=>rw [grps_full he ht hw hl];exact ⟨Int.le_refl _,by show (0:Int)<=_;omega⟩
   ·rw [grps_step he ht hl]
    split
    ·exact ⟨Int.le_refl _,by show (0:Int)<=_;omega⟩
    ·obtain ⟨g1,g2⟩:=grp1_le (bs:=bs) (yq:=yq) (x:=(nxtV bs yq k).1) (k:=(nxtV bs yq k).2.2.1) (by omega) hto.2
     exact grps_le g _ _ (by rw [List.length_append];simp;omega) g1 g2
theorem oneW_X (p:Tk->Bool) (V:Tk×Int×Int×Int):(oneW p V).2.2.1=(oneX p V).1/\(oneW p V).2.2.2=(oneX p V).2:=by
 unfold oneW oneX
 split
 ·exact ⟨rfl,rfl⟩
 ·split
  ·exact ⟨rfl,rfl⟩
  ·split
   ·exact ⟨rfl,rfl⟩
   ·exact ⟨rfl,rfl⟩
theorem set5 {w:World} {b:Nat} {x0 x1 x2 x3 x4:Value} {t:TypeId} (h:w.heap[b]?=some (.cells #[x0,x1,x2,x3,x4] t (0,0))) (y0 y1 y2 y3 y4:Value) :
  (((((w.setCell ⟨b,0,none⟩ y0).setCell ⟨b,1,none⟩ y1).setCell ⟨b,2,none⟩ y2).setCell ⟨b,3,none⟩ y3).setCell ⟨b,4,none⟩ y4).heap[b]?=some (.cells #[y0,y1,y2,y3,y4] t (0,0)):=by
 rw [heap_setCell_same _ _ 4 _ _ _ (heap_setCell_same _ _ 3 _ _ _ (heap_setCell_same _ _ 2 _ _ _ (heap_setCell_same _ _ 1 _ _ _ (heap_setCell_same w _ 0 _ _ _ h))))];rfl
theorem zb6 {B:Nat} {w0 w:World} (h:Below B w0 w) {b:Nat} (hb:B<=b) (y0 y1 y2 y3 y4:Value):Below B w0 (((((w.setCell ⟨b,0,none⟩ y0).setCell ⟨b,1,none⟩ y1).setCell ⟨b,2,none⟩ y2).setCell ⟨b,3,none⟩ y3).setCell ⟨b,4,none⟩ y4) :=
 ((((h.setCell hb _).setCell hb _).setCell hb _).setCell hb _).setCell hb _
theorem zbj {w:World} {b:Nat} {x0 x1 x2 x3 x4:Value} {t:TypeId} (h:w.heap[b]?=some (.cells #[x0,x1,x2,x3,x4] t (0,0))) :
  (w.cell? ⟨b,0,none⟩=some x0/\w.cell? ⟨b,1,none⟩=some x1/\w.cell? ⟨b,2,none⟩=some x2/\w.cell? ⟨b,3,none⟩=some x3/\w.cell? ⟨b,4,none⟩=some x4) /\
  (w.frozen? ⟨b,0,none⟩=false/\w.frozen? ⟨b,1,none⟩=false/\w.frozen? ⟨b,2,none⟩=false/\w.frozen? ⟨b,3,none⟩=false/\w.frozen? ⟨b,4,none⟩=false):=by
 refine ⟨⟨?_,?_,?_,?_,?_⟩,frozen_of_row w b 0 _ _ h,frozen_of_row w b 1 _ _ h,frozen_of_row w b 2 _ _ h,frozen_of_row w b 3 _ _ h,frozen_of_row w b 4 _ _ h⟩
 ·rw [cell_of_row w b 0 _ _ _ h];rfl
 ·rw [cell_of_row w b 1 _ _ _ h];rfl
 ·rw [cell_of_row w b 2 _ _ _ h];rfl
 ·rw [cell_of_row w b 3 _ _ _ h];rfl
 ·rw [cell_of_row w b 4 _ _ _ h];rfl
theorem zgN {W:World} {s:Sec} {gv sl:Value} {B r:Nat} (h:zbU W (fun b=>B<=b) s gv sl) (hr:r<B) (y0 y1 y2 y3 y4:Value) :
  zbU (((((W.setCell ⟨r,0,none⟩ y0).setCell ⟨r,1,none⟩ y1).setCell ⟨r,2,none⟩ y2).setCell ⟨r,3,none⟩ y3).setCell ⟨r,4,none⟩ y4) (fun b=>B<=b) s gv sl :=
 h.keep ⟨by simp [World.setCell],fun b _ hF=>by
  have hb:b≠r:=by omega
  rw [heap_setCell_other _ _ _ _ hb,heap_setCell_other _ _ _ _ hb,heap_setCell_other _ _ _ _ hb,heap_setCell_other _ _ _ _ hb,heap_setCell_other _ _ _ _ hb]⟩ (fun _ h=>h)
theorem zc3:(Tryz.prog.info? 29).map (·.size)=some 5:=by kernel_rfl
def zeQ (w:World) (V:Sec×Int×Int) (e:Ending) (w':World):Prop :=
 ∃gv sl,e=.returned (.tuple #[secA V.1 gv sl,.int .i64 V.2.1,.int .i64 V.2.2])/\zbU w' (fun b=>w.heap.size<=b) V.1 gv sl/\Below w.heap.size w w'
theorem zgu {w W:World} {V:Sec×Int×Int} {e:Int} (hV:V=(Sec.none,0,e)) {r:Nat} (hb:Below w.heap.size w W) (hr:w.heap.size<=r) (y0 y1 y2 y3 y4:Value) :
  zeQ w V (.returned (.tuple #[.agg #[.slice none 0 0,.int .i64 0,.int .i64 0,.string ⟨#[]⟩,.slice none 0 0],.int .i64 0,.int .i64 e])) (((((W.setCell ⟨r,0,none⟩ y0).setCell ⟨r,1,none⟩ y1).setCell ⟨r,2,none⟩ y2).setCell ⟨r,3,none⟩ y3).setCell ⟨r,4,none⟩ y4):=by
 subst hV
 exact ⟨_,_,rfl,zel _ _,zb6 hb hr _ _ _ _ _⟩
theorem xparse_any {w:World} {a:Option Addr} {cap:Nat} {bs:List UInt8} (hr:Row w 1 a bs.length cap (bs.map u8C)) (hn:bs.length<=390000) (k:Int) (yq:Bool) :
  Calls Tryz.prog 11 #[.slice a bs.length cap,.int .i64 k,.bool yq] w (zeQ w (secV bs yq k)):=by
 have HW:=yb (fun (W:World) (h:Below w.heap.size w W)=>pword12_any (hr.mono h) (by omega) k yq [120,114,101,102])
 have HOL:=yb (fun h=>oneX_le (bs:=bs) (yq:=yq) (k:=k) (p:=zdX) h)
 obtain ⟨o1,o2⟩:=oneW_X zdX (zal bs k yq)
 unfold zc4 at HW
 rw [show zfI [120,114,101,102]=zdX from rfl,o1,o2] at HW
 clear o1 o2
 obtain ⟨V,hV⟩:∃V,V=secV bs yq k:=⟨_,rfl⟩
 rw [<-hV]
 unfold secV at hV
 simp only at hV
 generalize oneX zdX (zal bs k yq)=O at *
 obtain ⟨ot,oe⟩:=O
 simp only at hV HW HOL
 have HGV:=yb (fun (W:World) (w0:World) (p:Nat) (h:IsRd w0 W p a cap bs yq ot) (h1:0<=ot) (h2:ot<=bs.length)=>xgroups_any h h1 h2)
 have HGE:=yb (fun (h1:0<=ot) (h2:ot<=bs.length)=>grps_le (bs:=bs) (yq:=yq) 65 [] ot rfl h1 h2)
 generalize zbF bs yq 65 [] ot=G at *
 obtain ⟨gs,gt,ge⟩:=G
 unfold GsEnd at HGV
 simp only at hV HGV HGE
 have HPV:=yb (fun (W:World) (h:Below w.heap.size w W) (h1:0<=gt) (h2:gt<=bs.length)=>show Calls Tryz.prog 45 #[.slice a bs.length cap,.int .i64 gt,.bool yq] W (zbN W (zbD bs yq gt)) from value_any (hr.mono h) (by omega) gt yq _ (parse_doc h1 h2))
 generalize zbD bs yq gt=P at *
 obtain ⟨x,xt,xe⟩:=P
 unfold zbN at HPV
 simp only at hV HPV
 have HV:=yb hV
 have HRB:=yb hr
 clear hV hr
 obtain ⟨r,hr⟩:∃r,r=w.heap.size:=⟨_,rfl⟩
 have HZ1:=yb (zac (w:=w) (b:=r) (.cells #[.slice none 0 0,.int .i64 0,.int .i64 0,.string ⟨#[]⟩,.slice none 0 0] 29) hr)
 have HB1:=yb (zam w (.cells #[.slice none 0 0,.int .i64 0,.int .i64 0,.string ⟨#[]⟩,.slice none 0 0] 29))
 have HRW:=yb (Nat.le_of_eq hr.symm)
 go_enter Tryz.func11,Tryz.ntmps11
 go_upto_region 1 with fail
 rw [<-hr]
 clear hr
 generalize w.alloc _=W1 at *
 go_wp2_with fail
 refine (HW.out _ HB1.out).mono ?_
 rintro e w2 ⟨rfl,hb2⟩
 have HZ2:=yb (zab hb2 HZ1.out)
 have HB2:=yo HB1 hb2
 clear HZ1 HB1 HW hb2
 obtain ⟨⟨z0,z1,z2,z3,z4⟩,y0,y1,y2,y3,y4⟩:=zbj HZ2.out
 by_cases hoe:oe=0
 case neg =>
  have HV2:=yb (HV.out.trans (yg hoe))
  have e0:(oe==0)=false:=by rw [yf];exact hoe
  have e1:(oe != 0)=true:=by simp only [bne,e0,yj]
  clear hoe
  go_wp2
  refine yi (zae rfl _ _ r 29 _ (0,0) _ rfl (by exact set5 HZ2.out _ _ _ _ _) Tryz.underlying29 rfl (by exact zc3) _ _ rfl rfl) rfl ?_
  exact zgu HV2.out HB2.out HRW.out _ _ _ _ _
 subst hoe
 have HV2:=yb (HV.out.trans (yh (by simp)))
 obtain ⟨ho1,ho2⟩:=HOL.out rfl
 have HO:=yb (And.intro ho1 ho2)
 clear HV HOL ho1 ho2
 have HI3:=yb (show IsRd w2 (w2.alloc (.cells #[.slice a bs.length cap,.int .i64 ot,.bool yq] 103)) w2.heap.size a cap bs yq ot from ⟨zac _ rfl,yp _,HRB.out.mono HB2.out,zam _ _,by omega⟩)
 have HZ3:=yb (zak (.cells #[.slice a bs.length cap,.int .i64 ot,.bool yq] 103) HZ2.out)
 have HB3:=yb (HB2.out.alloc HB2.out.size (.cells #[.slice a bs.length cap,.int .i64 ot,.bool yq] 103))
 have HPR:=yb (show r≠w2.heap.size by have:=zaj HZ2.out;omega)
 clear HZ2 z0 z1 z2 z3 z4 y0 y1 y2 y3 y4
 go_upto_region 5 with fail
 have HP2:=yb HB2.out.size
 generalize w2.heap.size=p at *
 generalize World.alloc _ _=W3 at *
 go_wp2_with fail
 refine (HGV.out _ _ _ HI3.out HO.out.1 HO.out.2).mono ?_
 rintro e w4 ⟨gv,rfl,hg4,⟨at2,hi4,hat⟩,hk4⟩
 have HZ4:=yb (hk4.obj HZ3.out HPR.out)
 have HB4:=yb (HB3.out.trans (hk4.below (B:=w.heap.size) HB3.out.size (fun b hb=>by rw [hb];exact HP2.out)))
 have HI4:=yb hi4
 have HG4:=yb hg4
 have HAT:=yb hat
 have HW3:=yb (show w.heap.size<=W3.heap.size/\r<W3.heap.size from ⟨HB3.out.size,zaj HZ3.out⟩)
 clear HZ3 HB3 HI3 hk4 hi4 hg4 hat HGV
 obtain ⟨⟨z0,z1,z2,z3,z4⟩,y0,y1,y2,y3,y4⟩:=zbj HZ4.out
 obtain ⟨⟨c0,c1,c2⟩,f0,f1,f2⟩:=HI4.out.cells
 by_cases hge:ge=0
 case neg =>
  have HV3:=yb (HV2.out.trans (yg hge))
  have e0:(ge==0)=false:=by rw [yf];exact hge
  have e1:(ge != 0)=true:=by simp only [bne,e0,yj]
  clear hge
  go_wp2
  refine yi (zae rfl _ _ r 29 _ (0,0) _ rfl (by exact set5 HZ4.out _ _ _ _ _) Tryz.underlying29 rfl (by exact zc3) _ _ rfl rfl) rfl ?_
  exact zgu HV3.out HB4.out HRW.out _ _ _ _ _
 subst hge
 have HV3:=yb (HV2.out.trans (yh (by simp)))
 obtain rfl:at2=gt:=HAT.out rfl
 have HGG:=yb (HGE.out HO.out.1 HO.out.2)
 obtain ⟨ga,gc,rfl,-,-,-⟩:=HG4.out.len
 clear HV2 HAT HGE
 go_wp2_with fail
 refine (HPV.out _ HB4.out HGG.out.1 HGG.out.2).mono ?_
 rintro e w5 ⟨sl,rfl,hx5,hb5⟩
 obtain ⟨sa,sc,rfl,-,-,-⟩:=hx5.len
 simp only [pvA]
 have hb5a:=hb5.alloc hb5.size (.cells #[.int .i64 x.kind,.int .i64 x.n,.string (mkB x.s),.slice sa x.l.length sc] 27)
 have HT5:=yb (zac (w:=w5) (b:=w5.heap.size) (.cells #[.int .i64 x.kind,.int .i64 x.n,.string (mkB x.s),.slice sa x.l.length sc] 27) rfl)
 have HX5:=yb (hx5.below (zam w5 (.cells #[.int .i64 x.kind,.int .i64 x.n,.string (mkB x.s),.slice sa x.l.length sc] 27)))
 have HG5:=yb (HG4.out.below hb5a)
 have HZ5:=yb (zab hb5a HZ4.out)
 have HB5:=yo HB4 hb5a
 have HW4:=yb (show w.heap.size<=w4.heap.size/\r<w4.heap.size from ⟨HB4.out.size,zaj HZ4.out⟩)
 clear hb5 hb5a hx5 HPV HZ4 HB4 HG4 HI4 z0 z1 z2 z3 z4 y0 y1 y2 y3 y4 c0 c1 c2 f0 f1 f2
 go_upto_region 9 with fail
 generalize w5.heap.size=T at *
 generalize World.alloc _ _=W5 at *
 obtain ⟨⟨t0,t1,t2,t3⟩,-⟩:=zaf HT5.out
 obtain ⟨⟨z0,z1,z2,z3,z4⟩,y0,y1,y2,y3,y4⟩:=zbj HZ5.out
 by_cases hxe:xe=0
 case neg =>
  have HV4:=yb (HV3.out.trans (yg hxe))
  have e0:(xe==0)=false:=by rw [yf];exact hxe
  have e1:(xe != 0)=true:=by simp only [bne,e0,yj]
  clear hxe HX5 HG5
  go_wp2
  refine yi (zae rfl _ _ r 29 _ (0,0) _ rfl (by exact set5 HZ5.out _ _ _ _ _) Tryz.underlying29 rfl (by exact zc3) _ _ rfl rfl) rfl ?_
  exact zgu HV4.out HB5.out HRW.out _ _ _ _ _
 subst hxe
 have HV4:=yb (HV3.out.trans (yh (by simp)))
 clear HV3
 by_cases hxk:x.kind=7
 case neg =>
  have HV5:=yb (HV4.out.trans (yg hxk))
  have e0:(x.kind==7)=false:=by rw [yf];exact hxk
  have e1:(x.kind != 7)=true:=by simp only [bne,e0,yj]
  clear hxk HX5 HG5 HV4
  generalize x.kind=xk at *
  go_wp2
  refine yi (zae rfl _ _ r 29 _ (0,0) _ rfl (by exact set5 HZ5.out _ _ _ _ _) Tryz.underlying29 rfl (by exact zc3) _ _ rfl rfl) rfl ?_
  exact zgu HV5.out HB5.out HRW.out _ _ _ _ _
 have HV5:=yb (HV4.out.trans (yh (fun h=>h hxk)))
 have e0:(x.kind==7)=true:=by rw [beq_iff_eq];exact hxk
 have e1:(x.kind != 7)=false:=by simp only [bne,e0,Bool.not_true]
 clear hxk HV4
 have HSC:=yb (show zbU W5 (fun b=>W3.heap.size<=b\/w4.heap.size<=b) ⟨gs,x⟩ (.slice ga gs.length gc) (.slice sa x.l.length sc) from ⟨HG5.out.keep (zaI.refl _ _) (fun b hb=>.inl hb),HX5.out.weaken (fun b hb=>.inr hb)⟩)
 have HS2:=yb (fun y0 y1 y2 y3 y4=>zgN (s:=⟨gs,x⟩) (gv:=.slice ga gs.length gc) (sl:=.slice sa x.l.length sc) (B:=r+1) (HSC.out.keep (zaI.refl _ _) (fun b hb=>by have:=HW3.out.2;have:=HW4.out.2;show r+1<=b;omega)) (Nat.lt_succ_self r) y0 y1 y2 y3 y4)
 clear HX5 HG5 HSC
 have HPA:=yb (show secA ⟨gs,x⟩ (.slice ga gs.length gc) (.slice sa x.l.length sc)=.agg #[.slice ga gs.length gc,.int .i64 x.kind,.int .i64 x.n,.string (mkB x.s),.slice sa x.l.length sc] from rfl)
 generalize x.kind=xk at *
 generalize x.n=xn at *
 generalize mkB x.s=xb at *
 go_wp2
 refine yi (zae rfl _ _ r 29 _ (0,0) _ rfl (by exact set5 HZ5.out _ _ _ _ _) Tryz.underlying29 rfl (by exact zc3) _ _ rfl rfl) rfl ?_
 rw [HV5.out]
 refine ⟨.slice ga gs.length gc,.slice sa x.l.length sc,by rw [HPA.out];rfl,?_,zb6 HB5.out HRW.out _ _ _ _ _⟩
 exact (HS2.out _ _ _ _ _).keep (zaI.refl _ _) (fun b hb=>by have:=HRW.out;show w.heap.size<=b;omega)
theorem find_go {gs:List Grp} {c:Nat} {g:Grp} {n:Int} (hg:gs[c]?=some g) (h:¬(g.first<=n/\n-g.first<(g.es.length:Int))):zcX (gs.drop c) n=zcX (gs.drop (c+1)) n:=by
 obtain ⟨hc,rfl⟩:=List.getElem?_eq_some_iff.1 hg
 rw [List.drop_eq_getElem_cons hc,zcX,yh h]
theorem find_hit {gs:List Grp} {c:Nat} {g:Grp} {n:Int} (hg:gs[c]?=some g) (h:g.first<=n/\n-g.first<(g.es.length:Int)):zcX (gs.drop c) n=some (g.es.getD (n-g.first).toNat {}):=by
 obtain ⟨hc,rfl⟩:=List.getElem?_eq_some_iff.1 hg
 rw [List.drop_eq_getElem_cons hc,zcX,yg h]
def smallG (gs:List Grp):Prop:=∀g∈gs,-2000000000000000000<=g.first/\g.first<=2000000000000000000/\g.es.length<=100000
theorem xfind_any {w:World} {F:Nat->Prop} {s:Sec} {gv sl:Value} (h:zbU w F s gv sl) (n:Int) (hs:smallG s.gs) (hn0:-2000000000000000000<=n) (hn1:n<=2000000000000000000) :
  Calls Tryz.prog 16 #[secA s gv sl,.int .i64 n] w fun e w'=>e=.returned (.tuple #[entA (findP (zcX s.gs n)).1,.bool (findP (zcX s.gs n)).2])/\Below w.heap.size w w':=by
 obtain ⟨gs,x⟩:=s
 simp only at hs |-
 obtain ⟨ga,gc,rfl,hgc,hgm,-⟩:=h.1.len
 simp only at hgc
 obtain ⟨V,hV⟩:∃V,V=zcX gs n:=⟨_,rfl⟩
 rw [<-hV]
 have HV:=yb hV
 have HS:=yb hs
 have HGA:=yb (fun (W:World) (hb:Below w.heap.size w W)=>(h.1.below hb))
 simp only at HGA
 clear hV hs
 unfold secA
 simp only
 obtain ⟨sa,sc,rfl,-,-,-⟩:=h.2.len
 simp only at h |-
 clear h
 have hg63:(gs.length:Int)<=9223372036854775807:=by unfold maxLen at hgm;omega
 generalize x.kind=xk at *
 generalize x.n=xn at *
 generalize mkB x.s=xb at *
 generalize x.l.length=xl at *
 obtain ⟨B,hB⟩:∃B,B=w.heap.size:=⟨_,rfl⟩
 have HB1:=yb (za0 w (.cells #[.slice ga gs.length gc,.int .i64 xk,.int .i64 xn,.string xb,.slice sa xl sc] 29) (.cells #[.int .i64 0,.int .i64 0,.bool false] 44))
 have HX1:=yb (zak (w:=w.alloc (.cells #[.slice ga gs.length gc,.int .i64 xk,.int .i64 xn,.string xb,.slice sa xl sc] 29)) (.cells #[.int .i64 0,.int .i64 0,.bool false] 44) (zac (w:=w) (b:=B) (.cells #[.slice ga gs.length gc,.int .i64 xk,.int .i64 xn,.string xb,.slice sa xl sc] 29) hB))
 have HZ1:=yb (zac (w:=w.alloc (.cells #[.slice ga gs.length gc,.int .i64 xk,.int .i64 xn,.string xb,.slice sa xl sc] 29)) (b:=B+1) (.cells #[.int .i64 0,.int .i64 0,.bool false] 44) (by rw [zan,hB]))
 have HRW:=yb (show w.heap.size<=B+1 by omega)
 go_enter Tryz.func16,Tryz.ntmps16
 go_upto_region 1 with fail
 try rw [<-hB]
 generalize World.alloc _ _=W1 at *
 clear hB
 generalize B+1=r at *
 obtain ⟨⟨x0,x1,x2,x3,x4⟩,-⟩:=zbj HX1.out
 go_wp2_with fail
 clear x0 x1 x2 x3 x4 HX1
 go_loopw [11] (fun v wr=>∃c:Nat,v=.int .i64 c/\c<=gs.length/\Hid (Below w.heap.size w wr)/\Hid (wr.heap[r]?=some (.cells #[.int .i64 0,.int .i64 0,.bool false] 44 (0,0)))/\Hid (V=zcX (gs.drop c) n)) (fun v _=>gs.length-(intOf v).toNat)
 case atStart=>exact ⟨0,rfl,Nat.zero_le _,HB1,HZ1,HV⟩
 case round =>
  obtain ⟨c,rfl,hc,HB,HZ,HQ⟩:=hrel
  by_cases hlt:c<gs.length
  ·have hcd:decide ((c:Int)<(gs.length:Int))=true:=by simp;omega
   have hcd2:decide (c<gs.length)=true:=by simp;omega
   obtain ⟨-,-,-,b,off,ha,-,-,hat⟩:=(HGA.out wr HB.out).at (by omega)
   subst ha
   obtain ⟨g,hg⟩:∃g,gs[c]?=some g:=⟨_,List.getElem?_eq_getElem hlt⟩
   obtain ⟨v,hv,g0,g1⟩:=hat c g hg
   obtain ⟨ea,ec,rfl,hel,hec,-⟩:=hv.len
   obtain ⟨hs1,hs2,-⟩:=HS.out g (List.mem_of_getElem? hg)
   have HIE:=yb hv
   have HGO:=yb (fun h=>HQ.out.trans (find_go hg h))
   have HHT:=yb (fun h=>HQ.out.trans (find_hit hg h))
   have he63:(g.es.length:Int)<=9223372036854775807:=by unfold maxLen at hec;omega
   clear hat hv hg HQ
   obtain ⟨gf,ge⟩:=g
   simp only at *
   have HBA:=yb (HB.out.alloc HB.out.size (.cells #[.int .i64 gf,.slice ea ge.length ec] 42))
   have HZA:=yb (zak (.cells #[.int .i64 gf,.slice ea ge.length ec] 42) HZ.out)
   by_cases h1:gf<=n
   case neg =>
    have HQ2:=yb (HGO.out (fun h=>h1 h.1))
    have hd:decide (gf<=n)=false:=ye h1
    go_wp2
    go_roundw
    case rel=>exact ⟨c+1,by go_num,by omega,HBA,HZA,HQ2⟩
    case measure=>simp [intOf];omega
   obtain ⟨m,hm⟩:∃m:Nat,n-gf=(m:Int):=⟨(n-gf).toNat,by omega⟩
   have hd:decide (gf<=n)=true:=yd h1
   by_cases h2:m<ge.length
   case neg =>
    have HQ2:=yb (HGO.out (fun h=>h2 (by omega)))
    have hd2:decide (m<ge.length)=false:=ye h2
    have hd3:decide ((m:Int)<(ge.length:Int))=false:=ye (by omega)
    go_wp2
    go_roundw
    case rel=>exact ⟨c+1,by go_num,by omega,HBA,HZA,HQ2⟩
    case measure=>simp [intOf];omega
   have HQ2:=yb (HHT.out ⟨h1,by omega⟩)
   rw [hm,Int.toNat_natCast] at HQ2
   obtain ⟨-,-,-,be,oe,hae,hbe,-,hae2⟩:=HIE.out.at (by omega)
   subst hae
   obtain ⟨ee,hee⟩:∃ee,ge[m]?=some ee:=⟨_,List.getElem?_eq_getElem h2⟩
   obtain ⟨e0,e1,e2⟩:=hae2 m ee hee
   have HEE:=yb (show ge.getD m {}=ee by rw [List.getD_eq_getElem?_getD,hee];rfl)
   rw [HEE.out] at HQ2
   have hd2:decide (m<ge.length)=true:=yd h2
   have hd3:decide ((m:Int)<(ge.length:Int))=true:=yd (by omega)
   clear hae2 hee HEE HIE HGO HHT
   have e0:=zbg (.cells #[.int .i64 gf,.slice (some ⟨be,oe,none⟩) ge.length ec] 42) e0
   have e1:=zbg (.cells #[.int .i64 gf,.slice (some ⟨be,oe,none⟩) ge.length ec] 42) e1
   have e2:=zbg (.cells #[.int .i64 gf,.slice (some ⟨be,oe,none⟩) ge.length ec] 42) e2
   obtain ⟨⟨z0,z1,z2⟩,y0,y1,y2⟩:=zdt HZA.out
   go_wp2
   refine yi (zaa rfl _ _ r 44 _ (0,0) _ rfl (by exact set3a HZA.out _ _ _) Tryz.underlying44 rfl (by exact zc2) _ rfl) rfl ?_
   rw [HQ2.out]
   exact ⟨rfl,((HBA.out.setCell HRW.out _).setCell HRW.out _).setCell HRW.out _⟩
  ·have hce:c=gs.length:=by omega
   have hcd:decide ((c:Int)<(gs.length:Int))=false:=ye (by omega)
   have hcd2:decide (c<gs.length)=false:=ye (by omega)
   have HQ2:=yb (HQ.out.trans (show zcX (gs.drop c) n=none by rw [hce,List.drop_length];rfl))
   obtain ⟨⟨z0,z1,z2⟩,y0,y1,y2⟩:=zdt HZ.out
   clear hce
   go_wp2
   refine yi (zaa rfl _ _ r 44 _ (0,0) _ rfl (by exact set3a HZ.out _ _ _) Tryz.underlying44 rfl (by exact zc2) _ rfl) rfl ?_
   rw [HQ2.out]
   exact ⟨rfl,((HB.out.setCell HRW.out _).setCell HRW.out _).setCell HRW.out _⟩
structure SmM (w W:World) (B1 B2:Nat) (c1 c2:Array Value):Prop where
 bel:Below w.heap.size w W
 one:W.heap[B1]?=some (.cells c1 33 (0,0))
 two:W.heap[B2]?=some (.cells c2 33 (0,0))
theorem SmM.on {w W W':World} {B1 B2:Nat} {c1 c2:Array Value} (h:SmM w W B1 B2 c1 c2) (hb:Below W.heap.size W W'):SmM w W' B1 B2 c1 c2 :=
 ⟨h.bel.trans (hb.mono h.bel.size),zab hb h.one,zab hb h.two⟩
structure GgM (W W':World) (b1 b2:Nat) (c1 c2:Array Value):Prop where
 bel:Below W.heap.size W W'
 one:W'.heap[b1]?=some (.cells c1 42 (0,0))
 two:W'.heap[b2]?=some (.cells c2 42 (0,0))
theorem GgM.on {w W W':World} {B1 B2:Nat} {c1 c2:Array Value} (h:GgM w W B1 B2 c1 c2) (hb:Below W.heap.size W W'):GgM w W' B1 B2 c1 c2 :=
 ⟨h.bel.trans (hb.mono h.bel.size),zab hb h.one,zab hb h.two⟩
theorem dsame_eq {w:World} {F G:Nat->Prop} {s:Sec} {gv sl gv' sl':Value} (h:zbU w F s gv sl) (h':zbU w G s gv' sl') :
  Calls Tryz.prog 13 #[secA s gv sl,secA s gv' sl'] w fun e w'=>e=.returned (.bool true)/\Below w.heap.size w w':=by
 obtain ⟨gs,x⟩:=s
 obtain ⟨ga,gc,rfl,hgc,hgm,-⟩:=h.1.len
 obtain ⟨ga',gc',rfl,-,hgm',-⟩:=h'.1.len
 obtain ⟨sa,sc,rfl,-,-,-⟩:=h.2.len
 obtain ⟨sa',sc',rfl,-,-,-⟩:=h'.2.len
 simp only at h h' hgc hgm
 have HG1:=yb (fun (W:World) (hb:Below w.heap.size w W)=>h.1.below hb)
 have HG2:=yb (fun (W:World) (hb:Below w.heap.size w W)=>h'.1.below hb)
 have HSA:=yb (fun (W:World) (hb:Below w.heap.size w W)=>same_any (h.2.below hb) (h'.2.below hb))
 simp only [zeL,pvA] at HSA
 have hg63:(gs.length:Int)<=9223372036854775807:=by unfold maxLen at hgm;omega
 unfold secA
 simp only at HG1 HG2 |-
 clear h h' hgm' hgm hgc
 generalize x.kind=xk at *
 generalize x.n=xn at *
 generalize mkB x.s=xb at *
 generalize x.l.length=xl at *
 obtain ⟨B,hB⟩:∃B,B=w.heap.size:=⟨_,rfl⟩
 have HM1:=yb (show SmM w ((w.alloc (.cells #[.slice ga gs.length gc,.int .i64 xk,.int .i64 xn,.string xb,.slice sa xl sc] 33)).alloc (.cells #[.slice ga' gs.length gc',.int .i64 xk,.int .i64 xn,.string xb,.slice sa' xl sc'] 33)) B (B+1) #[.slice ga gs.length gc,.int .i64 xk,.int .i64 xn,.string xb,.slice sa xl sc] #[.slice ga' gs.length gc',.int .i64 xk,.int .i64 xn,.string xb,.slice sa' xl sc'] from
  ⟨za0 w _ _,zak _ (zac _ hB),zac _ (by rw [zan,hB])⟩)
 have hLL:((gs.length:Int) != gs.length)=false:=by simp
 go_enter Tryz.func13,Tryz.ntmps13
 go_upto_region 1 with fail
 try rw [<-hB]
 generalize World.alloc _ _=W1 at *
 clear hB
 generalize B+1=B2 at *
 obtain ⟨⟨a0,a1,a2,a3,a4⟩,-⟩:=zbj HM1.out.one
 obtain ⟨⟨b0,b1,b2,b3,b4⟩,-⟩:=zbj HM1.out.two
 go_wp2_with (go_at_call 51;refine (HSA.out _ HM1.out.bel).mono ?_;rintro e w2 ⟨rfl,hb2⟩;have HM2:=yb (HM1.out.on hb2);clear hb2 a0 a1 a2 a3 a4 b0 b1 b2 b3 b4 HM1)
 go_loopw [5] (fun v wr=>∃c:Nat,v=.int .i64 c/\c<=gs.length/\Hid (SmM w wr B B2 #[.slice ga gs.length gc,.int .i64 xk,.int .i64 xn,.string xb,.slice sa xl sc] #[.slice ga' gs.length gc',.int .i64 xk,.int .i64 xn,.string xb,.slice sa' xl sc'])) (fun v _=>gs.length-(intOf v).toNat)
 case atStart=>exact ⟨0,rfl,Nat.zero_le _,HM2⟩
 case round =>
  obtain ⟨c,rfl,hc,HM⟩:=hrel
  obtain ⟨⟨a0,a1,a2,a3,a4⟩,-⟩:=zbj HM.out.one
  obtain ⟨⟨b0,b1,b2,b3,b4⟩,-⟩:=zbj HM.out.two
  by_cases hlt:c<gs.length
  case neg =>
   have hcd:decide ((c:Int)<(gs.length:Int))=false:=ye (by omega)
   have hcd2:decide (c<gs.length)=false:=ye (by omega)
   go_wp2
   go_ret
   exact ⟨rfl,HM.out.bel⟩
  have hcd:decide ((c:Int)<(gs.length:Int))=true:=by simp;omega
  have hcd2:decide (c<gs.length)=true:=by simp;omega
  obtain ⟨-,-,-,b,off,ha,-,-,hat⟩:=(HG1.out wr HM.out.bel).at (by omega)
  obtain ⟨-,-,-,b',off',ha',-,-,hat'⟩:=(HG2.out wr HM.out.bel).at (by omega)
  subst ha
  subst ha'
  obtain ⟨g,hg⟩:∃g,gs[c]?=some g:=⟨_,List.getElem?_eq_getElem hlt⟩
  obtain ⟨v,hv,g0,g1⟩:=hat c g hg
  obtain ⟨v',hv',g0',g1'⟩:=hat' c g hg
  obtain ⟨ea,ec,rfl,hel,hec,-⟩:=hv.len
  obtain ⟨ea',ec',rfl,hel',hec',-⟩:=hv'.len
  have HE1:=yb (fun (W:World) (hb:Below wr.heap.size wr W)=>hv.below hb)
  have HE2:=yb (fun (W:World) (hb:Below wr.heap.size wr W)=>hv'.below hb)
  have he63:(g.es.length:Int)<=9223372036854775807:=by unfold maxLen at hec;omega
  have hci:(c:Int)<(gs.length:Int):=by omega
  clear hat hat' hv hv' hg hel hel' hec hec'
  obtain ⟨gf,ge⟩:=g
  simp only at *
  go_upto_region 6 with fail
  go_cut [6,7] from 24 to 104 (fun v6 v7 wx=>∃q1 q2,v6=.pointer (some ⟨q1,0,none⟩)/\v7=.pointer (some ⟨q2,0,none⟩)/\Hid (GgM wr wx q1 q2 #[.int .i64 gf,.slice ea ge.length ec] #[.int .i64 gf,.slice ea' ge.length ec']))
  case first =>
   clear a1 a2 a3 a4 b1 b2 b3 b4
   have e0:=cell?_keep (Below.refl _ wr).drew a0
   have e1:=cell?_keep (Below.refl _ wr).drew b0
   have e2:=cell?_keep (Below.refl _ wr).drew g0
   have e3:=cell?_keep (Below.refl _ wr).drew g1
   have e4:=cell?_keep (Below.refl _ wr).drew g0'
   have e5:=cell?_keep (Below.refl _ wr).drew g1'
   go_region_held3 (fun w'=>w'.cell? ⟨B,0,none⟩=some (.slice (some ⟨b,off,none⟩) gs.length gc)/\w'.cell? ⟨B2,0,none⟩=some (.slice (some ⟨b',off',none⟩) gs.length gc')/\w'.cell? ⟨b,off+c*2,none⟩=some (.int .i64 gf)/\w'.cell? ⟨b,off+c*2+1,none⟩=some (.slice ea ge.length ec)/\w'.cell? ⟨b',off'+c*2,none⟩=some (.int .i64 gf)/\w'.cell? ⟨b',off'+c*2+1,none⟩=some (.slice ea' ge.length ec')) (go_keep) (fail)
   all_goals (try go_wp2_with fail)
   all_goals go_meet
   ·exact ⟨_,_,rfl,rfl,yb ⟨(za0 wr _ _).drew,zak _ (zac _ rfl),zac _ (by rw [zan])⟩⟩
   ·exact ⟨_,_,rfl,rfl,yb ⟨(za0 wr _ _).drew,zac _ (by rw [zan]),zak _ (zac _ rfl)⟩⟩
  case rest =>
  obtain ⟨q1,q2,rfl,rfl,HGG⟩:=hcut
  have HM3:=yb (HM.out.on HGG.out.bel)
  clear HM a0 a1 a2 a3 a4 b0 b1 b2 b3 b4 g0 g1 g0' g1'
  obtain ⟨⟨g0,g1⟩,-⟩:=zaR HGG.out.one
  obtain ⟨⟨g0',g1'⟩,-⟩:=zaR HGG.out.two
  have hff:(gf != gf)=false:=by simp
  have hee:((ge.length:Int) != ge.length)=false:=by simp
  go_wp2_with fail
  clear g0 g1 g0' g1'
  go_loopw [8] (fun v wr2=>∃d:Nat,v=.int .i64 d/\d<=ge.length/\Hid (SmM w wr2 B B2 #[.slice (some ⟨b,off,none⟩) gs.length gc,.int .i64 xk,.int .i64 xn,.string xb,.slice sa xl sc] #[.slice (some ⟨b',off',none⟩) gs.length gc',.int .i64 xk,.int .i64 xn,.string xb,.slice sa' xl sc'])/\Hid (GgM wr wr2 q1 q2 #[.int .i64 gf,.slice ea ge.length ec] #[.int .i64 gf,.slice ea' ge.length ec'])) (fun v _=>ge.length-(intOf v).toNat)
  case atStart=>exact ⟨0,rfl,Nat.zero_le _,HM3,HGG⟩
  case round =>
   obtain ⟨d,rfl,hd,HMM,HGQ⟩:=hrel
   obtain ⟨⟨g0,g1⟩,-⟩:=zaR HGQ.out.one
   obtain ⟨⟨g0',g1'⟩,-⟩:=zaR HGQ.out.two
   by_cases hle:d<ge.length
   case neg =>
    have hdd:decide ((d:Int)<(ge.length:Int))=false:=ye (by omega)
    have hdd2:decide (d<ge.length)=false:=ye (by omega)
    go_wp2
    go_roundw
    case rel=>exact ⟨c+1,by go_num,by omega,HMM⟩
    case measure=>simp [intOf];omega
   have hdd:decide ((d:Int)<(ge.length:Int))=true:=by simp;omega
   have hdd2:decide (d<ge.length)=true:=by simp;omega
   have hdi:(d:Int)<(ge.length:Int):=by omega
   obtain ⟨-,-,-,be,oe,hae,-,-,hat⟩:=(HE1.out wr HGQ.out.bel).at (by omega)
   obtain ⟨-,-,-,be',oe',hae',-,-,hat'⟩:=(HE2.out wr HGQ.out.bel).at (by omega)
   subst hae
   subst hae'
   obtain ⟨ee,hee'⟩:∃ee,ge[d]?=some ee:=⟨_,List.getElem?_eq_getElem hle⟩
   obtain ⟨e0,e1,e2⟩:=hat d ee hee'
   obtain ⟨e0',e1',e2'⟩:=hat' d ee hee'
   clear hat hat' hee'
   obtain ⟨na,ng,nu⟩:=ee
   simp only at *
   have hna:(na != na)=false:=by simp
   have hng:(ng != ng)=false:=by simp
   have hnu:(nu != nu)=false:=by simp
   have HB3:=yb (fun q=>HMM.out.on (zah (Below.refl _ _) q))
   have HB4:=yb (fun q=>HGQ.out.on (zah (Below.refl _ _) q))
   go_upto_region 12 with fail
   go_quiet (fail)
   go_wp2_with fail
   go_roundw
   case rel=>exact ⟨d+1,by go_num,by omega,HB3.out _,HB4.out _⟩
   case measure=>simp [intOf];omega
theorem zfF (s:ByteArray) (w:World) (hs:s.size<=100000) :
  Calls Tryz.prog 86 #[.string s] w (DigEnd (zaA (bl s)) w):=by
 obtain ⟨V,hV⟩:∃V,V=zaA (bl s):=⟨_,rfl⟩
 rw [<-hV]
 have HV:=yb hV
 clear hV
 by_cases h0:s.size=0
 ·have HE:=yb (show V=(0,11) by rw [HV.out,show bl s=[] from List.eq_nil_of_length_eq_zero (by rw [zaG];exact h0)];exact zfG)
  go_enter Tryz.func86,Tryz.ntmps86
  go_wp2
  go_ret2
  exact ⟨by rw [HE.out];rfl,Below.refl _ _⟩
 have HNE:=yb (show bl s≠[] by intro e;have:=congrArg List.length e;rw [zaG] at this;exact h0 this)
 have h0d:((s.size:Int)==0)=false:=by rw [yf];omega
 have hgb:=PlainAid.get_bt s
 clear h0
 go_enter Tryz.func86,Tryz.ntmps86
 go_wp2
 go_loop [4] (fun i=>∃k:Nat,k<=s.size/\i=.int .i64 k/\Hid (((bl s).take k).all isDg=true)) (fun i=>s.size-(intOf i).toNat)
 case atStart=>exact ⟨0,by omega,rfl,yb rfl⟩
 case round =>
  obtain ⟨k,hk,rfl,HA⟩:=hrel
  by_cases hlt:k<s.size
  ·have hx:(s[k].toNat:Int)=PlainAid.bt s k:=hgb k hlt
   have HX:=yb hx
   clear hx
   by_cases h1:PlainAid.bt s k<48
   ·have HE:=yb (show V=(0,11) by rw [HV.out];exact zc9 (zcA (bl_mem s k hlt) (by rw [zbB];have:=HX.out;omega)))
    go_wp2
    go_ret2
    exact ⟨by rw [HE.out];rfl,Below.refl _ _⟩
   ·have h1d:decide (PlainAid.bt s k<48)=false:=by simpa using h1
    by_cases h2:57<PlainAid.bt s k
    ·have HE:=yb (show V=(0,11) by rw [HV.out];exact zc9 (zcA (bl_mem s k hlt) (by rw [zbB];have:=HX.out;omega)))
     clear h1
     go_wp2
     go_ret2
     exact ⟨by rw [HE.out];rfl,Below.refl _ _⟩
    ·have h2d:decide (57<PlainAid.bt s k)=false:=by simpa using h2
     have HA2:=yb (show ((bl s).take (k+1)).all isDg=true by rw [zen s k hlt];exact zdj _ _ HA.out (by rw [za9];have:=HX.out;omega))
     clear h1 h2
     go_wp2
     go_round
     case rel=>exact ⟨k+1,by omega,by go_num,HA2⟩
     case measure=>simp [intOf];omega
  ·obtain rfl:k=s.size:=by omega
   have HALL:=yb (show (bl s).all isDg=true by have:=HA.out;rwa [List.take_of_length_le (by rw [zaG];omega)] at this)
   go_wp2
   go_loop [5,6] (fun n i=>∃(k:Nat) (N:Int),k<=s.size/\i=.int .i64 k/\n=.int .i64 N/\0<=N/\N<=2147483647/\Hid (N=(valD ((bl s).take k):Nat))) (fun _ i=>s.size-(intOf i).toNat)
   case atStart=>exact ⟨0,0,by omega,rfl,rfl,by omega,by omega,yb rfl⟩
   case round =>
    obtain ⟨k,N,hk2,rfl,rfl,hN0,hN1,HN⟩:=hrel
    by_cases hlt2:k<s.size
    ·have hx:(s[k].toNat:Int)=PlainAid.bt s k:=hgb k hlt2
     have hdg:isDg s[k]=true:=List.all_eq_true.1 HALL.out _ (bl_mem s k hlt2)
     have hdv:=zdb hdg
     have hd9:=dgV_le hdg
     have hb0:48<=PlainAid.bt s k:=by rw [<-hx];rw [za9] at hdg;omega
     have hb1:PlainAid.bt s k<=57:=by rw [<-hx];rw [za9] at hdg;omega
     have HS:=yb (show 10*N+PlainAid.bt s k-48=((valD ((bl s).take (k+1)):Nat):Int) by
      rw [zen s k hlt2,zcg,HN.out,<-hx];omega)
     have HTK:=yb (show valD ((bl s).take (k+1))<=valD (bl s) by
      have:=zfS ((bl s).take (k+1)) ((bl s).drop (k+1));rwa [List.take_append_drop] at this)
     clear hx hdg hdv hd9
     by_cases hov:2147483647<10*N+PlainAid.bt s k-48
     ·have HE:=yb (show V=(0,5) by rw [HV.out];exact zcV HNE.out HALL.out (by have:=HS.out;have:=HTK.out;omega))
      go_wp2
      go_ret2
      exact ⟨by rw [HE.out];rfl,Below.refl _ _⟩
     ·have hovd:decide (2147483647<10*N+PlainAid.bt s k-48)=false:=by simpa using hov
      have hov2:10*N+PlainAid.bt s k-48<=2147483647:=by omega
      clear hov
      go_wp2
      go_round
      case rel=>exact ⟨k+1,10*N+PlainAid.bt s k-48,by omega,by go_num,rfl,by omega,hov2,HS⟩
      case measure=>simp [intOf];omega
    ·obtain rfl:k=s.size:=by omega
     have HE:=yb (show V=(N,0) by
      have h1:=HN.out
      rw [List.take_of_length_le (by rw [zaG];omega)] at h1
      rw [HV.out,zdd HNE.out HALL.out (by omega),h1])
     go_wp2
     go_ret2
     exact ⟨by rw [HE.out];rfl,Below.refl _ _⟩
theorem row_bsX {w:World} (bs:List UInt8) (t:TypeId) (hb:bs.length<=200):Row (w.alloc (.cells (bs.map u8C).toArray t (bs.length,bs.length+1))) 1 (some ⟨w.heap.size,0,none⟩) bs.length bs.length (bs.map u8C):=by
 refine ⟨by simp,yp _,by unfold maxLen;omega,fun h=>(by cases h),fun _=>⟨_,_,rfl,(by rw [zan];omega),fun j u hj=>?_⟩⟩
 rw [cell_of_row _ _ _ _ _ _ (zac _ rfl)]
 simpa using hj
theorem zeQ.split {w w':World} {s:Sec} {n e:Int} {en:Ending} (h:zeQ w (s,n,e) en w'):∃ga gc sa sc,en=.returned (.tuple #[.agg #[.slice ga s.gs.length gc,.int .i64 s.tr.kind,.int .i64 s.tr.n,.string (mkB s.tr.s),.slice sa s.tr.l.length sc],.int .i64 n,.int .i64 e]) /\
  zbU w' anyF s (.slice ga s.gs.length gc) (.slice sa s.tr.l.length sc)/\Below w.heap.size w w':=by
 obtain ⟨gv,sl,rfl,hs,hb⟩:=h
 obtain ⟨ga,gc,rfl,-,-,-⟩:=hs.1.len
 obtain ⟨sa,sc,rfl,-,-,-⟩:=hs.2.len
 exact ⟨ga,gc,sa,sc,rfl,hs.keep (zaI.refl _ _) (fun _ _=>trivial),hb⟩
def PlEndX (w:World) (e:Ending) (w':World):Prop:=e=.returned (.bool true)/\Below w.heap.size w w'
structure SrcI (w:World) (p:Nat) (bs:List UInt8) (kn:List Bool):Prop where
 len:kn.length=bs.length
 total:∀W,Below w.heap.size w W->Calls Tryz.prog 54 #[.pointer (some ⟨p,0,none⟩)] W fun e w'=>e=.returned (.int .i64 (bs.length:Nat))/\W=w'
 first:∀W,Below w.heap.size w W->∀a:Nat,a<=bs.length->Calls Tryz.prog 38 #[.pointer (some ⟨p,0,none⟩),.int .i64 a] W fun e w'=>e=.returned (.int .i64 (zaU kn a:Nat))/\Below W.heap.size W w'
 read:∀W,Below w.heap.size w W->∀(a:Nat) (most:Int),a<=bs.length->(bs.length:Int)-a<=most->most<=9223372036854775807 ->
  Calls Tryz.prog 55 #[.pointer (some ⟨p,0,none⟩),.int .i64 a,.int .i64 most] W (zeg W bs kn a)
theorem SrcI.mono {w w':World} {p:Nat} {bs:List UInt8} {kn:List Bool} (h:SrcI w p bs kn) (hb:Below w.heap.size w w'):SrcI w' p bs kn :=
 ⟨h.len,fun W hW=>h.total W (hb.trans (hW.mono hb.size)),fun W hW=>h.first W (hb.trans (hW.mono hb.size)),fun W hW=>h.read W (hb.trans (hW.mono hb.size))⟩
def sctV (bs:List UInt8) (kn:List Bool) (a:Nat):Sec×Int×Int :=
 if (zcZ bs kn a).2.2=0 then ((zcZ bs kn a).1,0,0) else if (zcZ bs kn a).2.2=6 then (Sec.none,(zaU kn a:Nat),6) else (Sec.none,0,20)
theorem section_any {w:World} {p:Nat} {bs:List UInt8} {kn:List Bool} (h:SrcI w p bs kn) (hl:bs.length<=390000) {a:Nat} (ha:a<bs.length) :
  Calls Tryz.prog 62 #[.pointer (some ⟨p,0,none⟩),.int .i64 a] w (zeQ w (sctV bs kn a)):=by
 have HT:=yb h.total
 have HF:=yb (fun W hb=>h.first W hb a (Nat.le_of_lt ha))
 have HR:=yb (fun W hb=>h.read W hb a (bs.length:Nat) (Nat.le_of_lt ha) (by omega) (by omega))
 have HSC:=yb (show zcZ bs kn a=secV ((bs.drop a).take (zaU kn a-a)) (zaU kn a==bs.length) 0 from rfl)
 have HBL:=yb (show ((bs.drop a).take (zaU kn a-a)).length<=390000 by rw [List.length_take,ym];omega)
 obtain ⟨V,hV⟩:∃V,V=sctV bs kn a:=⟨_,rfl⟩
 rw [<-hV]
 unfold sctV at hV
 rw [HSC.out] at hV
 have HV:=yb hV
 unfold zeg at HR
 generalize zaU kn a=n at *
 generalize (bs.drop a).take (n-a)=cs at *
 generalize (n==bs.length)=lst at *
 clear h hV HSC
 obtain ⟨r,hr⟩:∃r,r=w.heap.size:=⟨_,rfl⟩
 have HZ1:=yb (zac (w:=w) (b:=r) (.cells #[.slice none 0 0,.int .i64 0,.int .i64 0,.string ⟨#[]⟩,.slice none 0 0] 29) hr)
 have HB1:=yb (zam w (.cells #[.slice none 0 0,.int .i64 0,.int .i64 0,.string ⟨#[]⟩,.slice none 0 0] 29))
 have HRW:=yb (Nat.le_of_eq hr.symm)
 go_enter Tryz.func62,Tryz.ntmps62
 go_upto_region 1 with fail
 try rw [<-hr]
 clear hr
 generalize w.alloc _=W1 at *
 have HT1:=yb (HT.out _ HB1.out)
 have HR1:=yb (HR.out _ HB1.out)
 clear HT HR
 go_wp2_with fail
 refine HT1.out.mono ?_
 rintro e w2 ⟨rfl,rfl⟩
 go_wp2_with fail
 refine HR1.out.mono ?_
 rintro e w2 ⟨ba,bc,rfl,hrow,hb2⟩
 have HZ2:=yb (zab hb2 HZ1.out)
 have HB2:=yo HB1 hb2
 have HP:=yb (xparse_any hrow HBL.out 0 lst)
 clear hb2 hrow HZ1 HB1 HT1 HR1
 go_wp2_with fail
 generalize secV cs lst 0=S at *
 obtain ⟨s,o,er⟩:=S
 refine HP.out.mono ?_
 rintro e w3 ⟨gv,sl,rfl,hs,hb3⟩
 obtain ⟨ga,gc,rfl,-,-,-⟩:=hs.1.len
 obtain ⟨sa,sc,rfl,-,-,-⟩:=hs.2.len
 simp only [secA] at hs |-
 simp only at HV
 have hb3a:=hb3.alloc hb3.size (.cells #[.slice ga s.gs.length gc,.int .i64 s.tr.kind,.int .i64 s.tr.n,.string (mkB s.tr.s),.slice sa s.tr.l.length sc] 29)
 have HT3:=yb (zac (w:=w3) (b:=w3.heap.size) (.cells #[.slice ga s.gs.length gc,.int .i64 s.tr.kind,.int .i64 s.tr.n,.string (mkB s.tr.s),.slice sa s.tr.l.length sc] 29) rfl)
 have HS3:=yb (hs.below (zam w3 (.cells #[.slice ga s.gs.length gc,.int .i64 s.tr.kind,.int .i64 s.tr.n,.string (mkB s.tr.s),.slice sa s.tr.l.length sc] 29)))
 have HZ3:=yb (zab hb3a HZ2.out)
 have HB3:=yo HB2 hb3a
 have HRL:=yb (zaj HZ2.out)
 have HWL:=yb HB2.out.size
 clear hb3 hb3a hs HZ2 HB2 HP
 go_upto_region 3 with fail
 generalize w3.heap.size=T at *
 generalize World.alloc _ _=W3 at *
 obtain ⟨⟨t0,t1,t2,t3,t4⟩,-⟩:=zbj HT3.out
 obtain ⟨⟨z0,z1,z2,z3,z4⟩,y0,y1,y2,y3,y4⟩:=zbj HZ3.out
 by_cases he:er=0
 ·subst he
  have HV2:=yb (HV.out.trans (yg rfl))
  have HS2:=yb (fun y0 y1 y2 y3 y4=>zgN HS3.out HRL.out y0 y1 y2 y3 y4)
  have HPA:=yb (show secA s (.slice ga s.gs.length gc) (.slice sa s.tr.l.length sc)=.agg #[.slice ga s.gs.length gc,.int .i64 s.tr.kind,.int .i64 s.tr.n,.string (mkB s.tr.s),.slice sa s.tr.l.length sc] from rfl)
  clear HV HF
  generalize s.tr.kind=xk at *
  generalize s.tr.n=xn at *
  generalize mkB s.tr.s=xb at *
  go_wp2
  refine yi (zae rfl _ _ r 29 _ (0,0) _ rfl (by exact set5 HZ3.out _ _ _ _ _) Tryz.underlying29 rfl (by exact zc3) _ _ rfl rfl) rfl ?_
  rw [HV2.out]
  refine ⟨.slice ga s.gs.length gc,.slice sa s.tr.l.length sc,by rw [HPA.out];rfl,?_,zb6 HB3.out HRW.out _ _ _ _ _⟩
  exact (HS2.out _ _ _ _ _).keep (zaI.refl _ _) (fun b hb=>Nat.le_trans HWL.out hb)
 have HV2:=yb (HV.out.trans (yh he))
 have e0:(er==0)=false:=by rw [yf];exact he
 clear HV he HS3
 by_cases h6:er=6
 ·subst h6
  have HV3:=yb (HV2.out.trans (yg rfl))
  have HF2:=yb (HF.out _ HB3.out)
  clear HV2 HF
  go_wp2_with fail
  refine HF2.out.mono ?_
  rintro e w4 ⟨rfl,hb4⟩
  have HZ4:=yb (zab hb4 HZ3.out)
  have HB4:=yo HB3 hb4
  clear hb4 HZ3 HB3 HT3 t0 t1 t2 t3 t4 z0 z1 z2 z3 z4 y0 y1 y2 y3 y4
  obtain ⟨⟨z0,z1,z2,z3,z4⟩,y0,y1,y2,y3,y4⟩:=zbj HZ4.out
  go_wp2
  refine yi (zae rfl _ _ r 29 _ (0,0) _ rfl (by exact set5 HZ4.out _ _ _ _ _) Tryz.underlying29 rfl (by exact zc3) _ _ rfl rfl) rfl ?_
  rw [HV3.out]
  exact ⟨_,_,rfl,zel _ _,zb6 HB4.out HRW.out _ _ _ _ _⟩
 ·have e6:(er==6)=false:=by rw [yf];exact h6
  have HV3:=yb (HV2.out.trans (yh h6))
  clear HV2 HF h6
  go_wp2
  refine yi (zae rfl _ _ r 29 _ (0,0) _ rfl (by exact set5 HZ3.out _ _ _ _ _) Tryz.underlying29 rfl (by exact zc3) _ _ rfl rfl) rfl ?_
  rw [HV3.out]
  exact ⟨_,_,rfl,zel _ _,zb6 HB3.out HRW.out _ _ _ _ _⟩
def IsSs (w:World) (F:Nat->Prop):List Sec->List Value->Prop
 | [],cs=>cs=[]
 | s::l,cs=>∃gv sl t,cs=secC s gv sl++t/\zbU w F s gv sl/\IsSs w F l t
theorem IsSs.keep {w w':World} {F G:Nat->Prop} (hk:zaI F w w') (hG:∀b,F b->G b):∀ {l:List Sec} {cs:List Value},IsSs w F l cs->IsSs w' G l cs
 | [],_,h=>h
 | _::_,_,⟨gv,sl,t,e,h1,h2⟩=>⟨gv,sl,t,e,h1.keep hk hG,IsSs.keep hk hG h2⟩
theorem IsSs.length {w:World} {F:Nat->Prop}:∀ {l:List Sec} {cs:List Value},IsSs w F l cs->cs.length=l.length*5
 | [],_,h=>by cases h;rfl
 | _::_,_,⟨gv,sl,t,e,_,h2⟩=>by subst e;have:=IsSs.length h2;simp [secC,pvC];omega
theorem IsSs.append {w:World} {F:Nat->Prop}:∀ {l m:List Sec} {cs ds:List Value},IsSs w F l cs->IsSs w F m ds->IsSs w F (l++m) (cs++ds)
 | [],_,_,_,h,hm=>by cases h;exact hm
 | _::_,_,_,_,⟨gv,sl,t,e,h1,h2⟩,hm=>⟨gv,sl,t++_,by subst e;simp,h1,IsSs.append h2 hm⟩
theorem IsSs.snoc {w:World} {F:Nat->Prop} {l:List Sec} {cs:List Value} (h:IsSs w F l cs) {s:Sec} {gv sl:Value} (hv:zbU w F s gv sl):IsSs w F (l++[s]) (cs++secC s gv sl):=h.append ⟨gv,sl,[],by simp,hv,rfl⟩
theorem IsSs.get {w:World} {F:Nat->Prop}:∀ {l:List Sec} {cs:List Value},IsSs w F l cs->∀(k:Nat) (s:Sec),l[k]?=some s->∃gv sl,zbU w F s gv sl/\cs[k*5]?=some gv/\cs[k*5+1]?=some (.int .i64 s.tr.kind)/\cs[k*5+2]?=some (.int .i64 s.tr.n)/\cs[k*5+3]?=some (.string (mkB s.tr.s))/\cs[k*5+4]?=some sl
 | [],_,_,_,_,hk=>by simp at hk
 | x::l,_,⟨gv,sl,t,e,h1,h2⟩,0,g,hk=>by
  simp at hk;subst hk e
  exact ⟨gv,sl,h1,rfl,rfl,rfl,rfl,rfl⟩
 | x::l,_,⟨gv,sl,t,e,h1,h2⟩,k+1,g,hk=>by
  subst e
  obtain ⟨gv2,sl2,h3,e0,e1,e2,e3,e4⟩:=h2.get k g (by simpa using hk)
  have q:∀j,(secC x gv sl++t)[(k+1)*5+j]?=t[k*5+j]?:=fun j=>by
   rw [show (k+1)*5+j=k*5+j+1+1+1+1+1 by omega];simp [secC,pvC]
  have q0:=q 0
  rw [Nat.add_zero,Nat.add_zero] at q0
  exact ⟨gv2,sl2,h3,q0.trans e0,(q 1).trans e1,(q 2).trans e2,(q 3).trans e3,(q 4).trans e4⟩
theorem IsE.ltw {W:World} {es:List Ent} {sv:Value} {F:Nat->Prop} (h:IsE W F es sv):IsE W (fun b=>F b/\b<W.heap.size) es sv:=by
 obtain ⟨a,cap,e,hr,hF⟩:=h
 exact ⟨a,cap,e,hr,fun h0 x hx=>⟨hF h0 x hx,hr.lt h0 x hx⟩⟩
theorem IsGs.ltw {W:World} {F:Nat->Prop}:∀ {gs:List Grp} {cs:List Value},IsGs W F gs cs->IsGs W (fun b=>F b/\b<W.heap.size) gs cs
 | [],_,h=>h
 | _::_,_,⟨v,t,e,h1,h2⟩=>⟨v,t,e,h1.ltw,h2.ltw⟩
theorem IsG.ltw {W:World} {F:Nat->Prop} {gs:List Grp} {v:Value} (h:IsG W F gs v):IsG W (fun b=>F b/\b<W.heap.size) gs v:=by
 obtain ⟨a,cap,cs,e,hr,hF,hs⟩:=h
 exact ⟨a,cap,cs,e,hr,fun h0 x hx=>⟨hF h0 x hx,hr.lt h0 x hx⟩,hs.ltw⟩
theorem zbU.ltw {W:World} {F:Nat->Prop} {s:Sec} {gv sl:Value} (h:zbU W F s gv sl):zbU W (fun b=>F b/\b<W.heap.size) s gv sl:=⟨h.1.ltw,IsV.lt _ h.2⟩
theorem IsSs.ltw {W:World} {F:Nat->Prop}:∀ {l:List Sec} {cs:List Value},IsSs W F l cs->IsSs W (fun b=>F b/\b<W.heap.size) l cs
 | [],_,h=>h
 | _::_,_,⟨gv,sl,t,e,h1,h2⟩=>⟨gv,sl,t,e,h1.ltw,h2.ltw⟩
structure SsM (t:TypeId) (w W:World) (X:Nat->Prop) (l:List Sec) (cs:List Value) (v:Value):Prop where
 own:W.ownsRow w.heap.size t 5 v l.length cs
 hold:IsSs W (fun b=>w.heap.size<=b/\v.ownBlock≠some b/\¬X b) l cs
theorem SsM.nil (t:TypeId) (w W:World) (X:Nat->Prop):SsM t w W X [] [] (.slice none 0 0):=⟨World.ownsRow_nil _ _ _ _,rfl⟩
theorem SsM.on {t:TypeId} {w W W':World} {X Y:Nat->Prop} {l:List Sec} {cs:List Value} {v:Value} (h:SsM t w W X l cs v) (hk:zai Y W W') (hY:∀b,Y b->w.heap.size<=b->X b) (hv:∀b,v.ownBlock=some b->¬Y b):SsM t w W' X l cs v :=
 ⟨zaE h.own fun b hb=>hk.block b (h.own.lt b hb).2 (hv b hb),h.hold.keep ⟨hk.size,fun b hb hF=>hk.block b hb (fun e=>hF.2.2 (hY b e hF.1))⟩ (fun _ h=>h)⟩
theorem SsM.below {t:TypeId} {w W W':World} {X:Nat->Prop} {l:List Sec} {cs:List Value} {v:Value} (h:SsM t w W X l cs v) (hb:Below W.heap.size W W'):SsM t w W' X l cs v :=
 h.on (zax (S:=fun _=>False) hb) (fun _ h _=>h.elim) (fun _ _ h=>h)
theorem SsM.app {t:TypeId} {w W W8:World} {X:Nat->Prop} {o:Obj} {l:List Sec} {cs:List Value} {v v':Value} (h:SsM t w W X l cs v) (hg8:(W.alloc o).grownBy W8 v.ownBlock) {s:Sec} {gv sl:Value} {B:Nat} (he:zbU W (fun b=>B<=b) s gv sl) (hB:w.heap.size<=B) (hv:∀b,v.ownBlock=some b->b<B) (hX:∀b,X b->b<B)
  (hO:W8.ownsRow w.heap.size t 5 v' (l.length+1) (cs++secC s gv sl)) (hn:∀b,v'.ownBlock=some b->v.ownBlock=some b\/(W.alloc o).heap.size<=b):SsM t w W8 X (l++[s]) (cs++secC s gv sl) v':=by
 have hst:zaI (fun b=>v.ownBlock≠some b/\b<W.heap.size) W W8:=⟨by have:=hg8.size;rw [zan] at this;omega,fun b hb hF=>by
  rw [hg8.block b (by rw [zan];omega) (fun e=>hF.1 e.symm)]
  exact (zb5 W o hb)⟩
 refine ⟨by rw [List.length_append];exact hO,?_⟩
 have hnew:∀b,b<W.heap.size->v.ownBlock≠some b->v'.ownBlock≠some b:=fun b hb hne e=>by
  rcases hn b e with h1|h1
  ·exact hne h1
  ·rw [zan] at h1;omega
 refine IsSs.snoc ?_ ?_
 ·have h3:IsSs W8 (fun b=>(w.heap.size<=b/\v.ownBlock≠some b/\¬X b)/\b<W.heap.size) l cs:=h.hold.ltw.keep ⟨hst.1,fun b hb hF=>hst.2 b hb ⟨hF.1.2.1,hF.2⟩⟩ (fun _ h=>h)
  exact h3.keep (zaI.refl _ _) (fun b hb=>⟨hb.1.1,hnew b hb.2 hb.1.2.1,hb.1.2.2⟩)
 ·have hne:∀b,B<=b->v.ownBlock≠some b:=fun b hb e=>by have:=hv b e;omega
  have h3:zbU W8 (fun b=>B<=b/\b<W.heap.size) s gv sl:=he.ltw.keep ⟨hst.1,fun b hb hF=>hst.2 b hb ⟨hne b hF.1,hF.2⟩⟩ (fun _ h=>h)
  exact h3.keep (zaI.refl _ _) (fun b hb=>⟨Nat.le_trans hB hb.1,hnew b hb.2 (hne b hb.1),fun hx=>by have:=hX b hx;omega⟩)
def IsL (w:World) (F:Nat->Prop) (l:List Sec) (v:Value):Prop:=∃a cap cs,v=.slice a l.length cap/\Row w 5 a l.length cap cs/\(0<l.length->∀x,a=some x->F x.block)/\IsSs w F l cs
theorem SsM.fin {t:TypeId} {w W:World} {X:Nat->Prop} {l:List Sec} {cs:List Value} {v:Value} (h:SsM t w W X l cs v):IsL W (fun b=>w.heap.size<=b) l v:=by
 obtain ⟨a,cap,e,-,-⟩:=zas h.own
 subst e
 exact ⟨a,cap,cs,rfl,(Row.of_own h.own).2,fun h0 x hx=>(h.own.lt x.block (by rw [hx];rfl)).1,h.hold.keep (zaI.refl _ _) (fun b hb=>hb.1)⟩
theorem IsL.nil (w:World) (F:Nat->Prop):IsL w F [] (.slice none 0 0):=⟨none,0,[],rfl,Row.nil w 5,fun h=>(by cases h),rfl⟩
theorem IsL.keep {w w':World} {F G:Nat->Prop} (hk:zaI F w w') (hG:∀b,F b->G b) {l:List Sec} {v:Value} (h:IsL w F l v):IsL w' G l v:=by
 obtain ⟨a,cap,cs,e,hr,hF,hs⟩:=h
 exact ⟨a,cap,cs,e,hr.stays hk hF,fun h0 x hx=>hG _ (hF h0 x hx),hs.keep hk hG⟩
theorem IsL.below {w w':World} {F:Nat->Prop} {l:List Sec} {v:Value} (h:IsL w F l v) (hb:Below w.heap.size w w'):IsL w' F l v:=h.keep (zaI.of_below hb) (fun _ h=>h)
theorem IsL.len {w:World} {F:Nat->Prop} {l:List Sec} {v:Value} (h:IsL w F l v):∃a cap,v=.slice a l.length cap/\l.length<=cap/\cap<=maxLen/\(a=none->cap=0):=by
 obtain ⟨a,cap,cs,e,hr,_⟩:=h
 exact ⟨a,cap,e,hr.2.1,hr.2.2.1,hr.2.2.2.1⟩
theorem IsL.at {w:World} {F:Nat->Prop} {l:List Sec} {a:Option Addr} {n cap:Nat} (h:IsL w F l (.slice a n cap)) (hn:0<n) :
  n=l.length/\n<=cap/\cap<=maxLen/\∃b off,a=some ⟨b,off,none⟩/\b<w.heap.size/\F b/\∀k s,l[k]?=some s->∃gv sl,zbU w F s gv sl/\w.cell? ⟨b,off+k*5,none⟩=some gv/\w.cell? ⟨b,off+k*5+1,none⟩=some (.int .i64 s.tr.kind) /\
   w.cell? ⟨b,off+k*5+2,none⟩=some (.int .i64 s.tr.n)/\w.cell? ⟨b,off+k*5+3,none⟩=some (.string (mkB s.tr.s))/\w.cell? ⟨b,off+k*5+4,none⟩=some sl:=by
 obtain ⟨a',cap',cs,e,hr,hF,hs⟩:=h
 simp only [Value.slice.injEq] at e
 obtain ⟨rfl,rfl,rfl⟩:=e
 obtain ⟨b,off,rfl,hb,hc⟩:=hr.2.2.2.2 hn
 refine ⟨rfl,hr.2.1,hr.2.2.1,b,off,rfl,hb,hF hn _ rfl,fun k s hk=>?_⟩
 obtain ⟨gv,sl,h1,e0,e1,e2,e3,e4⟩:=hs.get k s hk
 exact ⟨gv,sl,h1,hc _ _ e0,(Nat.add_assoc off (k*5) 1).symm▸hc _ _ e1,(Nat.add_assoc off (k*5) 2).symm▸hc _ _ e2,(Nat.add_assoc off (k*5) 3).symm▸hc _ _ e3,(Nat.add_assoc off (k*5) 4).symm▸hc _ _ e4⟩
end Go.Proofs.YtfafdeemfeaedaaGreat
namespace Go.Proofs.YtfafdeemfeaedaaGreat
open Go.RowKit Go.Maps Go.ChangeMaps
theorem lawKI:Keyed Tryz.prog 3:=int_keyed Tryz.underlying3
def i64N (k:Int):Prop:=-9223372036854775808<=k/\k<=9223372036854775807
theorem i64N_wf {k:Int} (h:i64N k):(Lit.int .i64 k).wf=true:=by
 obtain ⟨h1,h2⟩:=h
 simp [Lit.wf,IntKind.min,IntKind.max,IntKind.signed,IntKind.bits];omega
theorem keyN {k:Int} (h:i64N k):keyOf Tryz.prog 3 (.int .i64 k)=some (.int .i64 k):=keyOf_int_mk Tryz.underlying3 (i64N_wf h)
theorem zeroN (w:World):(zeroValue 3).run Tryz.prog w=.ok (.int .i64 0) w:=by kernel_rfl
def MapN (w:World) (mb n:Nat) (rd:List Int):Prop :=
 ∃D:DataW Nat,w.ownsMap Tryz.prog 3 (plainElem Tryz.prog 3) mb n D/\IsMap D/\∀k:Int,Maps.has D (.int .i64 k)=decide (k∈rd)
theorem MapN.made (w:World):MapN (w.alloc (.map #[] 0)) w.heap.size 0 [] :=
 ⟨.map [],World.ownsMap_made w _ _ _,isMap_empty,fun k=>by simp [Maps.has]⟩
theorem MapN.keep {w w':World} {mb n:Nat} {rd:List Int} (h:MapN w mb n rd) (hb:w'.heap[mb]?=w.heap[mb]?):MapN w' mb n rd:=by
 obtain ⟨D,⟨es,clock,h1,h2⟩,r⟩:=h
 exact ⟨D,⟨es,clock,hb.trans h1,h2⟩,r⟩
theorem MapN.lt {w:World} {mb n:Nat} {rd:List Int} (h:MapN w mb n rd):mb<w.heap.size:=by obtain ⟨D,h,-⟩:=h;exact h.lt
theorem zcW {w:World} {ops:Array Oper} {rest:List Oper} {o:Oper} {a:Act} {Q:Exit->Act->World->Prop} (hg:o.guard=none) (m x:Operand) (hop:o.op=Op.lookup 133 m x true)
  {mb n:Nat} {rd:List Int} (h:MapN w mb n rd) (hm:a.eval m=.map (some mb)) {k:Int} (hx:a.eval x=.int .i64 k) (hk:i64N k)
  (hK:∀c:Int,wpList Tryz.prog ops Q rest (a.put o.dst (.tuple #[.int .i64 c,.bool (decide (k∈rd))])) w):wpList Tryz.prog ops Q (o::rest) a w:=by
 obtain ⟨D,ho,hm2,hD⟩:=h
 refine wpList_lookup_own_ok_int w hg m x _ hop 3 3 .i64 lawKI Tryz.underlying133 Tryz.underlying3 (zeroN w) mb n D hm ho _ _ hx (keyN hk) fun c _ _=>?_
 rw [hD k]
 exact hK c
theorem zg2 {w:World} {ops:Array Oper} {rest:List Oper} {o:Oper} {a:Act} {Q:Exit->Act->World->Prop} (hg:o.guard=none) (m x v:Operand) (hop:o.op=Op.mapUpdate 133 m x v)
  {mb n:Nat} {rd:List Int} (h:MapN w mb n rd) (hm:a.eval m=.map (some mb)) {k:Int} (hx:a.eval x=.int .i64 k) (hk:i64N k) {q:Int} (hv:a.eval v=.int .i64 q) (hq:i64N q) (hn:n<maxLen)
  (hK:∀w',MapN w' mb (n+1) (rd++[k])->w.grownBy w' (some mb)->wpList Tryz.prog ops Q rest (a.put o.dst undef) w'):wpList Tryz.prog ops Q (o::rest) a w:=by
 obtain ⟨D,ho,hm2,hD⟩:=h
 refine wpList_mapUpdate_own w hg m x v _ hop 3 3 lawKI Tryz.underlying133 (plainElem Tryz.prog 3) mb n D hm ho hn _ _ _ hx hv (keyN hk) _ [] (plainElem_int Tryz.underlying3 (i64N_wf hq)) fun w' ho' hg'=>?_
 refine hK w' ⟨_,ho',hm2.put _ _,fun j=>?_⟩ hg'
 by_cases hj:j=k
 ·subst hj
  rw [has_put_same hm2 (by simp [WideAt.IsKeyLit])]
  simp
 ·have hne:(Lit.int .i64 j)≠.int .i64 k:=fun e=>hj (by cases e;rfl)
  rw [has_put_other hne,hD j]
  simp [hj]
end Go.Proofs.YtfafdeemfeaedaaGreat
namespace Go.Proofs.YtfafdeemfeaedaaGreat
open Go.RowKit
theorem fN_step {key:List UInt8} {l:List PV} {k:Nat} {x:PV} (hx:l[k]?=some x):fN key (l.drop k)=if x.kind=5/\x.s=key then some 0 else (fN key (l.drop (k+2))).map (· + 2):=by
 have hk:k<l.length:=by
  rcases Nat.lt_or_ge k l.length with h|h
  ·exact h
  ·rw [List.getElem?_eq_none h] at hx;cases hx
 rw [List.getElem?_eq_getElem hk] at hx
 have hx:=Option.some.inj hx
 subst hx
 rw [List.drop_eq_getElem_cons hk]
 by_cases h2:k+1<l.length
 ·rw [List.drop_eq_getElem_cons h2]
  rfl
 ·rw [List.drop_eq_nil_of_le (show l.length<=k+1 by omega),List.drop_eq_nil_of_le (show l.length<=k+2 by omega)]
  unfold fN
  by_cases h:l[k].kind=5/\l[k].s=key
  ·rw [yg h,yg h]
  ·rw [yh h,yh h];rfl
theorem fN_end {key:List UInt8} {l:List PV} {k:Nat} (h:l.length<=k):fN key (l.drop k)=none:=by
 rw [List.drop_eq_nil_of_le h];rfl
theorem fN_lt {key:List UInt8}:∀ {l:List PV} {k:Nat},fN key l=some k->k<l.length
 | [],_,h=>by cases h
 | [x],k,h=>by
  unfold fN at h
  split at h
  ·cases h;simp
  ·cases h
 | x::y::l,k,h=>by
  unfold fN at h
  split at h
  ·cases h;simp
  ·obtain ⟨j,hj,rfl⟩:=Option.map_eq_some_iff.1 h
   have:=fN_lt hj
   simp;omega
def zdI (o:Option Nat):Int:=match o with|none=>-1|some k=>k
def zgZ (w:World) (o:Option Nat) (e:Ending) (w':World):Prop:=e=.returned (.int .i64 (zdI o))/\Below w.heap.size w w'
theorem findN_no {v:PV} {key:List UInt8} (h:¬v.kind=7):zes v key=none:=by unfold zes;rw [yh h]
theorem findN_yes {v:PV} {key:List UInt8} (h:v.kind=7):zes v key=fN key v.l:=by unfold zes;rw [yg h]
theorem vfind_any {w:World} {F:Nat->Prop} {v:PV} {sl:Value} (h:IsV w F v sl) (hev:v.kind=7->v.l.length % 2=0) (key:List UInt8):Calls Tryz.prog 100 #[pvA v sl,.string (mkB key)] w (zgZ w (zes v key)):=by
 obtain ⟨a,cap,rfl,g1,g2,g3⟩:=h.len
 have hl63:(v.l.length:Int)<=9223372036854775807:=by unfold maxLen at g2;omega
 have HV:=yb h
 have HNO:=yb (fun h=>findN_no (v:=v) (key:=key) h)
 have HYE:=yb (fun h=>findN_yes (v:=v) (key:=key) h)
 obtain ⟨R,hR⟩:∃R,R=zes v key:=⟨_,rfl⟩
 rw [<-hR] at HNO HYE |-
 clear hR h g2 g3
 unfold pvA
 obtain ⟨l,hl⟩:∃l,l=v.l:=⟨_,rfl⟩
 rw [<-hl] at HV HYE hl63 g1 hev |-
 have HL:=yb hl
 clear hl
 obtain ⟨B,hB⟩:∃B,B=w.heap.size:=⟨_,rfl⟩
 have HB1:=yb (zam w (.cells #[.int .i64 v.kind,.int .i64 v.n,.string (mkB v.s),.slice a l.length cap] 27))
 have HZ1:=yb (zac (w:=w) (b:=B) (.cells #[.int .i64 v.kind,.int .i64 v.n,.string (mkB v.s),.slice a l.length cap] 27) hB)
 have HV1:=yb (HV.out.below HB1.out)
 generalize v.kind=vk at *
 generalize v.n=vn at *
 generalize mkB v.s=vb at *
 go_enter Tryz.func100,Tryz.ntmps100
 go_upto_region 1 with fail
 rw [<-hB]
 clear hB HV
 generalize w.alloc _=W1 at *
 obtain ⟨⟨z0,z1,z2,z3⟩,-⟩:=zaf HZ1.out
 by_cases h7:vk=7
 case neg =>
  have HR:=yb (HNO.out h7)
  have e0:(vk==7)=false:=by rw [yf];exact h7
  have e1:(vk != 7)=true:=by simp only [bne,e0,yj]
  clear h7 HYE HNO hev
  go_wp2
  go_ret
  exact ⟨by rw [HR.out];rfl,HB1.out⟩
 have HR:=yb (HYE.out h7)
 have hl2:=hev h7
 clear hev
 subst h7
 clear HNO HYE
 go_wp2_with fail
 go_loop [5] (fun v5=>∃k:Nat,v5=.int .i64 k/\k<=l.length/\k % 2=0/\Hid (R=(fN key (l.drop k)).map (· + k))) (fun v5=>l.length+2-(intOf v5).toNat)
 case atStart=>exact ⟨0,rfl,by omega,rfl,yb (by rw [HR.out,List.drop_zero];cases fN key l<;>rfl)⟩
 case round =>
  obtain ⟨k,rfl,hk,hk2,HQ⟩:=hrel
  by_cases hlt:k<l.length
  ·have hcd:decide ((k:Int)<(l.length:Int))=true:=yd (by omega)
   have hcd2:decide (k<l.length)=true:=yd hlt
   have hkb:(k:Int)+2<=9223372036854775807:=by omega
   have hkc:k+2<=l.length:=by omega
   have hv1:=HV1.out
   obtain ⟨-,-,-,b,off,rfl,-,-,hc⟩:=hv1.at (by omega)
   obtain ⟨x,hx⟩:∃x,l[k]?=some x:=⟨_,List.getElem?_eq_getElem hlt⟩
   obtain ⟨slx,-,c0,-,c2,-⟩:=hc k x (by rw [<-HL.out];exact hx)
   have HST:=yb (fN_step (key:=key) hx)
   have hq:((mkB x.s).toList==(mkB key).toList)=decide (x.s=key):=by rw [zaH key];exact zbP x.s key
   clear hv1 hc hx
   by_cases h5:x.kind=5
   case neg =>
    have e0:(x.kind==5)=false:=by rw [yf];exact h5
    have HQ2:=yb (show R=(fN key (l.drop (k+2))).map (· + (k+2)) by rw [HQ.out,HST.out,yh (fun h=>h5 h.1),Option.map_map];congr 1;funext q;show q+2+k=q+(k+2);omega)
    clear h5 HST HQ hq
    generalize x.kind=xk at *
    go_wp2_with fail
    go_round
    case rel=>exact ⟨k+2,by go_num,hkc,by omega,HQ2⟩
    case measure=>simp [intOf];omega
   have e0:(x.kind==5)=true:=by rw [beq_iff_eq];exact h5
   by_cases hs:x.s=key
   ·have HQ2:=yb (show R=some k by rw [HQ.out,HST.out,yg ⟨h5,hs⟩];show some (0+k)=_;rw [Nat.zero_add])
    rw [yd hs] at hq
    clear h5 HST HQ hs
    generalize x.kind=xk at *
    generalize mkB x.s=xb at *
    go_wp2_with fail
    go_ret
    exact ⟨by rw [HQ2.out];rfl,HB1.out⟩
   ·have HQ2:=yb (show R=(fN key (l.drop (k+2))).map (· + (k+2)) by rw [HQ.out,HST.out,yh (fun h=>hs h.2),Option.map_map];congr 1;funext q;show q+2+k=q+(k+2);omega)
    rw [ye hs] at hq
    clear h5 HST HQ hs
    generalize x.kind=xk at *
    generalize mkB x.s=xb at *
    go_wp2_with fail
    go_round
    case rel=>exact ⟨k+2,by go_num,hkc,by omega,HQ2⟩
    case measure=>simp [intOf];omega
  ·have hcd:decide ((k:Int)<(l.length:Int))=false:=ye (by omega)
   have hcd2:decide (k<l.length)=false:=ye hlt
   have HQ2:=yb (show R=none by rw [HQ.out,fN_end (by omega)];rfl)
   clear HQ
   go_wp2_with fail
   go_ret
   exact ⟨by rw [HQ2.out];rfl,HB1.out⟩
def GetEnd (w:World) (F:Nat->Prop) (V:PV×Bool) (e:Ending) (w':World):Prop:=∃sl,e=.returned (.tuple #[pvA V.1 sl,.bool V.2])/\IsV w' F V.1 sl/\Below w.heap.size w w'
theorem vget_any {w:World} {F:Nat->Prop} {v:PV} {sl:Value} (h:IsV w F v sl) (hev:v.kind=7->v.l.length % 2=0) (key:List UInt8):Calls Tryz.prog 63 #[pvA v sl,.string (mkB key)] w (GetEnd w F (getP (getV v key))):=by
 obtain ⟨a,cap,rfl,g1,g2,g3⟩:=h.len
 have hl63:(v.l.length:Int)<=9223372036854775807:=by unfold maxLen at g2;omega
 have HV:=yb (IsV.lt _ h)
 have HF:=yb (fun (W:World) (hb:Below w.heap.size w W)=>vfind_any (h.below hb) hev key)
 obtain ⟨R,hR⟩:∃R,R=zes v key:=⟨_,rfl⟩
 have HLT:=yb (show ∀k,R=some k->k<v.l.length from fun k hk=>by
  rw [hR] at hk
  unfold zes at hk
  split at hk
  ·exact fN_lt hk
  ·cases hk)
 obtain ⟨V,hV⟩:∃V,V=getP (getV v key):=⟨_,rfl⟩
 have HVN:=yb (show R=none->V=(PV.none,false) from fun h=>by rw [hV];unfold getV;rw [<-hR,h];rfl)
 have HVS:=yb (show ∀k,R=some k->V=(v.l.getD (k+1) PV.none,true) from fun k h=>by rw [hV];unfold getV;rw [<-hR,h];rfl)
 rw [<-hR] at HF
 rw [<-hV]
 clear hR hV h g2 g3
 unfold zgZ pvA at HF
 unfold pvA
 obtain ⟨l,hl⟩:∃l,l=v.l:=⟨_,rfl⟩
 clear hev
 rw [<-hl] at HV HF HLT HVS hl63 g1 |-
 have HL:=yb hl
 clear hl
 obtain ⟨B,hB⟩:∃B,B=w.heap.size:=⟨_,rfl⟩
 have HB1:=yb (za0 w (.cells #[.int .i64 v.kind,.int .i64 v.n,.string (mkB v.s),.slice a l.length cap] 27) (.cells #[.int .i64 0,.int .i64 0,.string ⟨#[]⟩,.slice none 0 0] 27))
 have HZ1:=yb (zak (w:=w.alloc (.cells #[.int .i64 v.kind,.int .i64 v.n,.string (mkB v.s),.slice a l.length cap] 27)) (.cells #[.int .i64 0,.int .i64 0,.string ⟨#[]⟩,.slice none 0 0] 27) (zac (w:=w) (b:=B) (.cells #[.int .i64 v.kind,.int .i64 v.n,.string (mkB v.s),.slice a l.length cap] 27) hB))
 have HY1:=yb (zac (w:=w.alloc (.cells #[.int .i64 v.kind,.int .i64 v.n,.string (mkB v.s),.slice a l.length cap] 27)) (b:=B+1) (.cells #[.int .i64 0,.int .i64 0,.string ⟨#[]⟩,.slice none 0 0] 27) (by rw [zan,hB]))
 have HW:=yb (show w.heap.size<=B+1 by omega)
 generalize v.kind=vk at *
 generalize v.n=vn at *
 generalize mkB v.s=vb at *
 go_enter Tryz.func63,Tryz.ntmps63
 go_upto_region 1 with fail
 try rw [<-hB]
 generalize World.alloc _ _=W1 at *
 clear hB
 generalize B+1=r at *
 obtain ⟨⟨z0,z1,z2,z3⟩,-⟩:=zaf HZ1.out
 go_wp2_with fail
 refine (HF.out _ HB1.out).mono ?_
 rintro e w2 ⟨rfl,hb2⟩
 have HZ2:=yb (zab hb2 HZ1.out)
 have HY2:=yb (zab hb2 HY1.out)
 have HB2:=yo HB1 hb2
 have HV2:=yb (HV.out.below HB2.out)
 clear hb2 HZ1 HY1 HB1 HV HF z0 z1 z2 z3
 obtain ⟨⟨z0,z1,z2,z3⟩,-⟩:=zaf HZ2.out
 obtain ⟨⟨y0,y1,y2,y3⟩,f0,f1,f2,f3⟩:=zaf HY2.out
 cases R with
 | none =>
  have HE:=yb (HVN.out rfl)
  clear HVN HVS HLT
  unfold zdI
  go_wp2
  refine yi (zaa rfl _ _ r 27 _ (0,0) _ rfl (by exact set4 HY2.out _ _ _ _) Tryz.underlying27 rfl (by exact zar) _ rfl) rfl ?_
  rw [HE.out]
  exact ⟨_,rfl,IsV.leaf _ _ _ rfl,zad HB2.out HW.out _ _ _ _⟩
 | some k =>
  have hkl:=HLT.out k rfl
  have HE:=yb (HVS.out k rfl)
  have hd0:decide ((k:Int)<0)=false:=ye (by omega)
  clear HVN HVS HLT
  unfold zdI
  simp only
  by_cases hle:k+1=l.length
  ·have hq:((k:Int)+1==(l.length:Int))=true:=by rw [beq_iff_eq];omega
   have hq2:((k:Int)==(l.length:Int)-1)=true:=by rw [beq_iff_eq];omega
   have hg:l.getD (k+1) PV.none=PV.none:=by rw [List.getD_eq_getElem?_getD,List.getElem?_eq_none (by omega)];rfl
   have HE2:=yb (HE.out.trans (by rw [hg]))
   clear hg HE hle
   go_wp2
   refine yi (zaa rfl _ _ r 27 _ (0,0) _ rfl (by exact set4 HY2.out _ _ _ _) Tryz.underlying27 rfl (by exact zar) _ rfl) rfl ?_
   rw [HE2.out]
   exact ⟨_,rfl,IsV.leaf _ _ _ rfl,zad HB2.out HW.out _ _ _ _⟩
  ·have hq:((k:Int)+1==(l.length:Int))=false:=by rw [yf];omega
   have hq2:((k:Int)==(l.length:Int)-1)=false:=by rw [yf];omega
   have hk1:k+1<l.length:=by omega
   have hv2:=HV2.out
   obtain ⟨-,-,-,b,off,rfl,-,-,hc⟩:=hv2.at (by omega)
   obtain ⟨x,hx⟩:∃x,l[k+1]?=some x:=⟨_,List.getElem?_eq_getElem hk1⟩
   obtain ⟨slx,hsx,c0,c1,c2,c3⟩:=hc (k+1) x (by rw [<-HL.out];exact hx)
   have hg:l.getD (k+1) PV.none=x:=by rw [List.getD_eq_getElem?_getD,hx];rfl
   have HE2:=yb (HE.out.trans (by rw [hg]))
   obtain ⟨xa,xc,rfl,-,-,-⟩:=hsx.len
   have HSX:=yb hsx
   have HPA:=yb (show pvA x (.slice xa x.l.length xc)=.agg #[.int .i64 x.kind,.int .i64 x.n,.string (mkB x.s),.slice xa x.l.length xc] from rfl)
   have HRW:=yb (zaj HY2.out)
   obtain ⟨j,hj⟩:∃j,j=k+1:=⟨_,rfl⟩
   have hji:(k:Int)+1=(j:Int):=by omega
   rw [<-hj] at c0 c1 c2 c3 hk1
   have HJ:=yb hj
   clear hj hv2 hc hx hg HE hle hsx
   generalize x.kind=xk at *
   generalize x.n=xn at *
   generalize mkB x.s=xb at *
   go_wp2
   refine yi (zaa rfl _ _ r 27 _ (0,0) _ rfl (by exact set4 HY2.out _ _ _ _) Tryz.underlying27 rfl (by exact zar) _ rfl) rfl ?_
   rw [HE2.out]
   refine ⟨.slice xa x.l.length xc,by rw [HPA.out];rfl,?_,zad HB2.out HW.out _ _ _ _⟩
   exact IsV.keep ⟨by rw [zaT];exact yp _,fun b _ hb=>za4 (by have:=HW.out;have:=hb.2;omega) _ _ _ _⟩ (fun b hb=>hb.1) _ HSX.out
end Go.Proofs.YtfafdeemfeaedaaGreat
