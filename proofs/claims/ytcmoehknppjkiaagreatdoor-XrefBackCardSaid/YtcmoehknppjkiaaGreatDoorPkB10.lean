/-
  Our texts PsC to Dv3, in one.
-/
import Derived.Test.YtcmoehknppjkiaaGreatDoorPkB9
set_option maxRecDepth 8000
set_option maxHeartbeats 8000000
namespace Go.Proofs.YtcmoehknppjkiaaGreatDoor
open Go.RowKit
section
variable {w0 w w' : World} {F F' G : Nat -> Prop} {p : Nat} {a : Option Addr} {cap : Nat} {bs : List UInt8} {yq : Bool} {st : List Lv} {at_ : Int} {gs : List Nat} {osl : Value}
def PStep (w0 w:World) (F G:Nat->Prop) (p:Nat) (a:Option Addr) (cap:Nat) (bs:List UInt8) (yq:Bool) (R:Option PV×List Lv×Int×Int) (e:Ending) (w':World):Prop :=
 ∃F' sa sn sc V,e=.returned (.tuple #[pvA V (.slice sa sn sc),.bool R.1.isSome,.int .i64 R.2.2.2])/\(∀X,R.1=some X->V=X/\IsV w' F' V (.slice sa sn sc))/\Nxt w0 w F G p a cap bs yq R.2.1 R.2.2.1 F' w'
theorem zcZ {S:Nat->Prop} {w w':World} (h:zaU S w w') {b o:Nat} {v:Value} (hc:w.cell? ⟨b,o,none⟩=some v) (hS:S b):w'.cell? ⟨b,o,none⟩=some v:=by
 rw [World.cell?_of_block (w:=w) (a:=⟨b,o,none⟩) (h.2 b (World.block_lt_of_cell? w _ hc) hS)];exact hc
theorem zcx {S:Nat->Prop} {w w':World} (h:zaU S w w') {b:Nat} {o:Obj} (hc:w.heap[b]?=some o) (hS:S b):w'.heap[b]?=some o:=by
 rw [h.2 b (zam hc) hS];exact hc
def G3 (G:Nat->Prop) (r:Nat):Nat->Prop:=fun b=>G b\/b=r\/b=r+1\/b=r+2
theorem Nxt.fin3 {W1 W2:World} {r:Nat} (h:zaA w0 w F G p a cap bs yq st at_ gs osl) (hb:Below w.heap.size w W1) {st2:List Lv} {at2:Int} (N:Nxt w0 W1 F (G3 G r) p a cap bs yq st2 at2 F' W2) (hr:w.heap.size<=r) {k:Nat} (hk:k=r+1) (y0 y1 y2 y3:Value) :
  Nxt w0 w F G p a cap bs yq st2 at2 F' ((((W2.setCell ⟨k,0,none⟩ y0).setCell ⟨k,1,none⟩ y1).setCell ⟨k,2,none⟩ y2).setCell ⟨k,3,none⟩ y3):=by
 subst hk;obtain ⟨gs2,osl2,hs⟩:=N.stk;have Zt:∀b,G b->b<w.heap.size:=fun b hb=>(h.gb b hb).2;have Zu:∀b,F b->b<w.heap.size:=fun b hb=>h.Flt hb;have h1:=hb.size;have h2:=N.sg.1;refine ⟨⟨gs2,osl2,(hs.set4 (.inr (.inr (.inl rfl))) _ _ _ _).give fun b hb=>.inl hb⟩,⟨by rw [za5];omega,fun b hb1 hG=>?_⟩,⟨by rw [za5];omega,fun b hb1 hf=>?_⟩,N.ff⟩
 ·rw [za3 (by have:=Zt b hG;omega),N.sg.2 b (by omega) (.inl hG),hb.block b hb1]
 ·rw [za3 (by have:=Zu b hf;omega),N.sf.2 b (by omega) hf,hb.block b hb1]
theorem Nxt.fin34 {W1 W2:World} {r:Nat} (h:zaA w0 w F G p a cap bs yq st at_ gs osl) (hb:Below w.heap.size w W1) {st2:List Lv} {at2:Int} (N:Nxt w0 W1 F (G3 G r) p a cap bs yq st2 at2 F' W2) (hr:w.heap.size<=r) (y0 y1 y2 y3 z0 z1 z2 z3:Value) :
  Nxt w0 w F G p a cap bs yq st2 at2 F' ((((((((W2.setCell ⟨r+1+1,0,none⟩ z0).setCell ⟨r+1+1,1,none⟩ z1).setCell ⟨r+1+1,2,none⟩ z2).setCell ⟨r+1+1,3,none⟩ z3).setCell ⟨r+1,0,none⟩ y0).setCell ⟨r+1,1,none⟩ y1).setCell ⟨r+1,2,none⟩ y2).setCell ⟨r+1,3,none⟩ y3):=by
 obtain ⟨gs2,osl2,hs⟩:=N.stk;have Zt:∀b,G b->b<w.heap.size:=fun b hb=>(h.gb b hb).2;have Zu:∀b,F b->b<w.heap.size:=fun b hb=>h.Flt hb;have h1:=hb.size;have h2:=N.sg.1;refine ⟨⟨gs2,osl2,((hs.set4 (r:=r+1+1) (.inr (.inr (.inr rfl))) _ _ _ _).set4 (.inr (.inr (.inl rfl))) _ _ _ _).give fun b hb=>.inl hb⟩,⟨by rw [za5,za5];omega,fun b hb1 hG=>?_⟩,⟨by rw [za5,za5];omega,fun b hb1 hf=>?_⟩,N.ff⟩
 ·rw [za3 (by have:=Zt b hG;omega),za3 (by have:=Zt b hG;omega),N.sg.2 b (by omega) (.inl hG),hb.block b hb1]
 ·rw [za3 (by have:=Zu b hf;omega),za3 (by have:=Zu b hf;omega),N.sf.2 b (by omega) hf,hb.block b hb1]
theorem IsV.fin34 {W2:World} {r:Nat} {st2:List Lv} {at2:Int} {v:PV} {sl:Value} (h:IsV W2 F' v sl) (N:Stk w0 W2 F' (G3 G r) p a cap bs yq st2 at2) (y0 y1 y2 y3 z0 z1 z2 z3:Value) :
  IsV ((((((((W2.setCell ⟨r+1+1,0,none⟩ z0).setCell ⟨r+1+1,1,none⟩ z1).setCell ⟨r+1+1,2,none⟩ z2).setCell ⟨r+1+1,3,none⟩ z3).setCell ⟨r+1,0,none⟩ y0).setCell ⟨r+1,1,none⟩ y1).setCell ⟨r+1,2,none⟩ y2).setCell ⟨r+1,3,none⟩ y3) F' v sl:=by
 obtain ⟨gs2,osl2,hs⟩:=N;refine IsV.keep ⟨by rw [za5,za5];exact yp _,fun b _ hf=>?_⟩ (fun _ h=>h) v h;have hn:=(hs.fb b hf).2.1;rw [za3 (fun e=>hn (.inr (.inr (.inl e)))),za3 (fun e=>hn (.inr (.inr (.inr e))))]
theorem single_leaf (bs:List UInt8) (yq:Bool) (st:List Lv) (at_:Int) (x:Tk):(zbb bs yq st at_ x).1.l=[]:=by
 unfold zbb
 split
 ·rfl
 ·split
  ·split
   ·rfl
   ·rename_i v hv
    unfold zeN at hv
    split at hv
    ·cases hv;rfl
    ·split at hv
     ·cases hv;rfl
     ·split at hv
      ·cases hv;rfl
      ·cases hv
  ·split
   ·unfold refV
    simp only
    split
    ·rfl
    ·split
     ·rfl
     ·split
      ·rfl
      ·rfl
   ·rfl
theorem zaf {P:Program} {fn:Func} {p u z:Tmp} {ty:TypeId} (h:fn.results=#[.cell p ty,.tmp u,.tmp z]) (tmps:Array Value) (w:World) (g:Nat) (t:TypeId) (cs:Array Value) (fr:Nat×Nat) (d:TypeDesc)
  (hp:tmps.getD p undef=.pointer (some ⟨g,0,none⟩)) (hg:w.heap[g]?=some (.cells cs t fr))
  (hu:P.underlying ty=some d) (hd:(match d with | .struct _ | .array _ _=>true|_=>false)=true) (hi:(P.info? ty).map (·.size)=some cs.size) (v v2:Value) (hv:tmps.getD u undef=v) (hv2:tmps.getD z undef=v2) :
  (results fn tmps).run P w=.ok (.tuple #[.agg cs,v,v2]) w:=by
 simp only [Array.getD_eq_getD_getElem?] at hp hv hv2;simp [results,h,hp,hv,hv2,asAddr,Result.andThen,run_loadVar_row w g t ty cs fr d hg hu hd hi]
def S5 (w:World) (r:Nat) (kd:Int):Prop:=w.cell? ⟨r,0,none⟩=some (.int .i64 kd)/\w.cell? ⟨r+2,0,none⟩=some (.int .i64 0)/\w.cell? ⟨r+2,1,none⟩=some (.int .i64 0)/\w.cell? ⟨r+2,2,none⟩=some (.string ⟨#[]⟩)/\w.cell? ⟨r+2,3,none⟩=some (.slice none 0 0)
theorem S5.drew {w:World} {r:Nat} {kd:Int} (h:S5 w r kd):S5 w.drew r kd:=h
theorem S5.stays {w w':World} {r:Nat} {kd:Int} (h:S5 w r kd) (hs:zaU (G3 G r) w w'):S5 w' r kd:=by
 exact ⟨zcZ hs h.1 (.inr (.inl rfl)),zcZ hs h.2.1 (.inr (.inr (.inr rfl))),zcZ hs h.2.2.1 (.inr (.inr (.inr rfl))),zcZ hs h.2.2.2.1 (.inr (.inr (.inr rfl))),zcZ hs h.2.2.2.2 (.inr (.inr (.inr rfl)))⟩
theorem S5.set4 {w:World} {r:Nat} {kd:Int} (h:S5 w r kd) (y0 y1 y2 y3:Value):S5 ((((w.setCell ⟨r+1,0,none⟩ y0).setCell ⟨r+1,1,none⟩ y1).setCell ⟨r+1,2,none⟩ y2).setCell ⟨r+1,3,none⟩ y3) r kd:=by
 have g:∀b o v,b≠r+1->w.cell? ⟨b,o,none⟩=some v->((((w.setCell ⟨r+1,0,none⟩ y0).setCell ⟨r+1,1,none⟩ y1).setCell ⟨r+1,2,none⟩ y2).setCell ⟨r+1,3,none⟩ y3).cell? ⟨b,o,none⟩=some v:=fun b o v hb hc=>by
  rw [World.cell?_of_block (w:=w) (a:=⟨b,o,none⟩) (za3 hb _ _ _ _)];exact hc
 exact ⟨g _ _ _ (by omega) h.1,g _ _ _ (by omega) h.2.1,g _ _ _ (by omega) h.2.2.1,g _ _ _ (by omega) h.2.2.2.1,g _ _ _ (by omega) h.2.2.2.2⟩
theorem step_any (h:zaA w0 w F G p a cap bs yq st at_ gs osl) (x:Tk) (f t:Int) (hlen:∀v∈st,v.l.length<=400000) :
  Calls Tryz.prog 64 #[.pointer (some ⟨p,0,none⟩),.agg (tokN x f t)] w (PStep w0 w F G p a cap bs yq (zbo bs yq st at_ x)):=by
 obtain ⟨R,hR⟩:∃R,R=zbo bs yq st at_ x:=⟨_,rfl⟩;rw [<-hR];have HS:=yb h;obtain ⟨r,hr⟩:∃r,r=w.heap.size:=⟨_,rfl⟩;have Qi:=yb hr;have Qy:=yb (zfL w (.cells (tokN x f t) 112) (.cells #[.int .i64 0,.int .i64 0,.string ⟨#[]⟩,.slice none 0 0] 25) (.cells #[.int .i64 0,.int .i64 0,.string ⟨#[]⟩,.slice none 0 0] 25))
 have h1:=h.res (G':=G3 G r) Qy.out (fun b hb=>by
  rw [zaq,zaq,zaq];rcases hb with hb|hb|hb|hb
  ·exact .inl hb
  ·exact .inr (by omega)
  ·exact .inr (by omega)
  ·exact .inr (by omega))
 have k0:=zal (.cells #[.int .i64 0,.int .i64 0,.string ⟨#[]⟩,.slice none 0 0] 25) (zal (.cells #[.int .i64 0,.int .i64 0,.string ⟨#[]⟩,.slice none 0 0] 25) (zac (w:=w) (b:=r) (.cells (tokN x f t) 112) hr));have k1:=zal (.cells #[.int .i64 0,.int .i64 0,.string ⟨#[]⟩,.slice none 0 0] 25) (zac (w:=w.alloc (.cells (tokN x f t) 112)) (b:=r+1) (.cells #[.int .i64 0,.int .i64 0,.string ⟨#[]⟩,.slice none 0 0] 25) (by rw [zaq,hr]));have k2:=zac (w:=(w.alloc (.cells (tokN x f t) 112)).alloc (.cells #[.int .i64 0,.int .i64 0,.string ⟨#[]⟩,.slice none 0 0] 25)) (b:=r+2) (.cells #[.int .i64 0,.int .i64 0,.string ⟨#[]⟩,.slice none 0 0] 25) (by rw [zaq,zaq,hr]);have Zi:=yb (fun (W:World) (h:zaA w0 W F (G3 G r) p a cap bs yq st at_ gs osl)=>single_any h x f t);have Zj:∃q0 q1 q2 q3 q4 q5 q6 q7,tokN x f t=#[q0,q1,q2,q3,q4,q5,q6,q7]/\q0=.int .i64 x.kind:=⟨_,_,_,_,_,_,_,_,rfl,rfl⟩;obtain ⟨q0,q1,q2,q3,q4,q5,q6,q7,ZU,rfl⟩:=Zj;rw [ZU] at Qy h1 k0 k1 k2 Zi |-;have Q7:=yb h1;have K0:=yb k0;have K1:=yb k1;have K2:=yb k2;unfold zbo at hR;have HR:=yb hR;have ZG:=yb hlen;have Yl:=h.lt;have YL:p≠r:=by omega
 have Ym:p≠r+1:=by omega
 have Yn:p≠r+2:=by omega
 have ZV:w.heap.size<=r:=by omega
 have QO:=yb ZV;clear h1 k0 k1 k2 h hlen ZU hR Yl ZV;go_enter Tryz.func64,Tryz.ntmps64
 go_upto_region 3 with fail
 rw [<-hr];generalize ((w.alloc _).alloc _).alloc _=W1 at *;generalize x.kind=kd at *;clear hr
 by_cases hk0:kd=0
 ·subst hk0
  have Qz:=yb (HR.out.trans (yg rfl));obtain ⟨⟨c0,-⟩,-⟩:=zah K0.out;obtain ⟨⟨a0,a1,a2,a3⟩,b0,b1,b2,b3⟩:=zad K1.out;obtain ⟨⟨d0,d1,d2,d3⟩,e0,e1,e2,e3⟩:=zad K2.out;go_wp2;refine yi (zaf rfl _ _ (r+1) 25 _ (0,0) _ rfl (by exact set4 K1.out _ _ _ _) Tryz.underlying25 rfl (by exact zav) _ _ rfl rfl) rfl ?_;rw [Qz.out];exact ⟨F,none,0,0,PV.none,rfl,fun X hX=>(by cases hX),Nxt.fin3 HS.out Qy.out (Nxt.refl Q7.out (Below.refl _ _)) QO.out rfl _ _ _ _⟩
 have Zk:=HR.out.trans (yh hk0);have e0:(kd==0)=false:=by rw [yf];exact hk0
 by_cases hk2:kd=2\/kd=4
 ·have Qz:=Zk.trans (yg hk2)
  obtain ⟨dd,QH⟩:∃dd,dd=(kd==4):=⟨_,rfl⟩;rw [<-QH] at Qz;have Yo:=yb Qz;have Yp:=yb (begin_any (show zaA w0 W1.drew F (G3 G r) p a cap bs yq st at_ gs osl from Q7.out.drewN 1) dd);have Yq:=yb (show W1.drew.heap[r+1]?=_ from K1.out);clear Zk Qz Zi HR;obtain ⟨⟨c0,-⟩,-⟩:=zah K0.out;obtain ⟨⟨d0,d1,d2,d3⟩,-⟩:=zad K2.out;have ZH:Hid (S5 W1 r kd):=yb ⟨c0,d0,d1,d2,d3⟩
  have ZW:∀wN,Nxt w0 W1.drew F (G3 G r) p a cap bs yq (zcE st dd).1 at_ F wN->∀W,W=((((wN.setCell ⟨r+1,0,none⟩ (.int .i64 0)).setCell ⟨r+1,1,none⟩ (.int .i64 0)).setCell ⟨r+1,2,none⟩ (.string ⟨#[]⟩)).setCell ⟨r+1,3,none⟩ (.slice none 0 0)) ->
    PStep w0 w F G p a cap bs yq R (.returned (.tuple #[.agg #[.int .i64 0,.int .i64 0,.string ⟨#[]⟩,.slice none 0 0],.bool false,.int .i64 (zcE st dd).2])) W:=fun wN N W hW=>by
   rw [Yo.out,hW];exact ⟨F,none,0,0,PV.none,rfl,fun X hX=>(by cases hX),Nxt.fin3 HS.out Qy.out.drew N QO.out rfl _ _ _ _⟩
  have Yr:=yb ZW;have Qd:r+1≠r:=by omega
  clear ZW;have e4:(kd==4)=dd:=QH.symm
  have Qq:(kd==2)=true\/((kd==2)=false/\dd=true):=by
   rcases hk2 with rfl|rfl
   ·exact .inl rfl
   ·exact .inr ⟨rfl,QH⟩
  clear QH hk2 hk0;rcases Qq with e2|⟨e2,rfl⟩
  all_goals
   go_wp2
   go_region_held3 (fun w'=>w'.cell? ⟨r,0,none⟩=some (.int .i64 kd)/\w'.cell? ⟨r+2,0,none⟩=some (.int .i64 0)/\w'.cell? ⟨r+2,1,none⟩=some (.int .i64 0)/\w'.cell? ⟨r+2,2,none⟩=some (.string ⟨#[]⟩)/\w'.cell? ⟨r+2,3,none⟩=some (.slice none 0 0))
    ((show S5 _ r kd;(first
     |(with_reducible exact ZH.out.drew)
     |(with_reducible exact ZH.out)
     |(with_reducible exact Hid.out (by assumption))
     |(with_reducible exact S5.set4 (Hid.out (by assumption)) _ _ _ _))))
    ((go_at_call 102;(with_reducible refine Yp.out.mono ?_);rintro e wN ⟨rfl,hN⟩;have YM:=yb (ZH.out.drew.stays hN.sg);have HN:=yb hN;have Qr:=yb (zcx hN.sg Yq.out (.inr (.inr (.inl rfl))));obtain ⟨⟨a0,a1,a2,a3⟩,b0,b1,b2,b3⟩:=zad Qr.out))
   all_goals
    go_wp2;refine yi (zaf rfl _ _ (r+1) 25 _ (0,0) _ rfl (by exact set4 Qr.out _ _ _ _) Tryz.underlying25 rfl (by exact zav) _ _ rfl rfl) rfl ?_;exact Yr.out _ HN.out _ rfl
 have e2:(kd==2)=false:=by rw [yf];intro e;exact hk2 (.inl e)
 have e4:(kd==4)=false:=by rw [yf];intro e;exact hk2 (.inr e)
 have Qz:=Zk.trans (yh hk2);obtain ⟨⟨c0,c1,c2,c3,c4,c5,c6,c7⟩,-⟩:=zah K0.out;have Qs:r+1≠r+2:=by omega
 have Ys:r+2≠r+1:=by omega
 have YN:=yb (fun b (hb:F b)=>(show b<W1.heap.size/\b≠r+2 by
  have h1:=HS.out.Flt hb;have h2:=Qy.out.size;have h3:=QO.out;omega))
 by_cases hk3:kd=3\/kd=5
 ·have Q8:=Qz.trans (yg hk3)
  obtain ⟨dd,QH⟩:∃dd,dd=(kd==5):=⟨_,rfl⟩;rw [<-QH] at Q8;have QP:=yb Q8;have Yt:=yb (end_any Q7.out dd ZG.out);have e5:(kd==5)=dd:=QH.symm
  have Qq:(kd==3)=true\/((kd==3)=false/\dd=true):=by
   rcases hk3 with rfl|rfl
   ·exact .inl rfl
   ·exact .inr ⟨rfl,QH⟩
  clear Zk Qz Q8 Zi HR hk0 hk2 hk3 QH c1 c2 c3 c4 c5 c6 c7;rcases Qq with e3|⟨e3,rfl⟩
  all_goals
   go_wp2_with fail
   refine Yt.out.mono ?_;rintro e wN ⟨F',sl,rfl,hV,hN⟩;obtain ⟨sa,sc,rfl,-,-,-⟩:=hV.len;have HN:=yb hN;have HV:=yb hV;have Qr:=yb (zcx hN.sg K1.out (.inr (.inr (.inl rfl))));have ZI:=yb (zcx hN.sg K2.out (.inr (.inr (.inr rfl))));obtain ⟨⟨a0,a1,a2,a3⟩,b0,b1,b2,b3⟩:=zad Qr.out;obtain ⟨⟨d0,d1,d2,d3⟩,g0,g1,g2,g3⟩:=zad ZI.out;clear hN hV c0;generalize zc3 st _=Q at *;obtain ⟨V,st2,er⟩:=Q;simp only at QP HV HN a0;unfold pvA
   by_cases he:er=0
   ·subst he
    have QI:=yb (QP.out.trans (yg rfl));go_wp2;refine yi (zaf rfl _ _ (r+1) 25 _ (0,0) _ rfl (by exact set4 ((za3 Qs _ _ _ _).trans Qr.out) _ _ _ _) Tryz.underlying25 rfl (by exact zav) _ _ rfl rfl) rfl ?_;rw [QI.out];exact ⟨F',_,_,_,V,rfl,fun X hX=>⟨Option.some.inj hX,IsV.fin34 HV.out HN.out.stk _ _ _ _ _ _ _ _⟩,Nxt.fin34 HS.out Qy.out HN.out QO.out _ _ _ _ _ _ _ _⟩
   ·have f1:(er==0)=false:=by rw [yf];exact he
    have QI:=yb (QP.out.trans (yh he));clear he;go_wp2;refine yi (zaf rfl _ _ (r+1) 25 _ (0,0) _ rfl (by exact set4 ((za3 Qs _ _ _ _).trans Qr.out) _ _ _ _) Tryz.underlying25 rfl (by exact zav) _ _ rfl rfl) rfl ?_;rw [QI.out];exact ⟨F',_,_,_,V,rfl,fun X hX=>(by cases hX),Nxt.fin34 HS.out Qy.out HN.out QO.out _ _ _ _ _ _ _ _⟩
 have Q8:=Qz.trans (yh hk3);have e3:(kd==3)=false:=by rw [yf];intro e;exact hk3 (.inl e)
 have e5:(kd==5)=false:=by rw [yf];intro e;exact hk3 (.inr e)
 have QP:=yb Q8;have ZX:=yb (Zi.out _ Q7.out);have ZY:=yb (single_leaf bs yq st at_ x);clear Zk Qz Q8 Zi HR hk0 hk2 hk3;go_wp2_with fail
 refine ZX.out.mono ?_;rintro e wN ⟨he,hs,Zl⟩;have hN:Nxt w0 W1 F (G3 G r) p a cap bs yq st (zbb bs yq st at_ x).2.1 F wN:=⟨⟨_,_,hs⟩,⟨Zl.size,fun b hb hG=>Zl.block b hb (fun e=>Q7.out.gp (e▸hG))⟩,⟨Zl.size,fun b hb hf=>Zl.block b hb (Q7.out.notF hf)⟩,fun _ h=>h⟩;have HN:=yb hN;have Qr:=yb (zcx hN.sg K1.out (.inr (.inr (.inl rfl))));have ZI:=yb (zcx hN.sg K2.out (.inr (.inr (.inr rfl))));obtain ⟨⟨a0,a1,a2,a3⟩,b0,b1,b2,b3⟩:=zad Qr.out;obtain ⟨⟨d0,d1,d2,d3⟩,g0,g1,g2,g3⟩:=zad ZI.out;obtain ⟨ao,oc,rfl,YO,YP⟩:=zaB hs.own;obtain ⟨⟨p0,p1,p2,p3⟩,-⟩:=hs.cells;clear hN hs Zl c0 c1 c2 c3 c4 c5 c6 c7 ZX;generalize zbb bs yq st at_ x=Q at *;obtain ⟨V,at2,er⟩:=Q;simp only at QP HN ZY he p1;unfold pvA at he;subst he
 by_cases he:er=0
 case neg =>
  have f1:(er==0)=false:=by rw [yf];exact he
  have QI:=yb (QP.out.trans (yg he));clear he;go_wp2;refine yi (zaf rfl _ _ (r+1) 25 _ (0,0) _ rfl (by exact set4 ((za3 Qs _ _ _ _).trans Qr.out) _ _ _ _) Tryz.underlying25 rfl (by exact zav) _ _ rfl rfl) rfl ?_;rw [QI.out];exact ⟨F,_,_,_,V,rfl,fun X hX=>(by cases hX),Nxt.fin34 HS.out Qy.out HN.out QO.out _ _ _ _ _ _ _ _⟩
 subst he
 by_cases h64:64<=st.length
 ·have hd:decide (64<=st.length)=true:=yd h64
  have QJ:decide ((64:Int)<=(st.length:Int))=true:=yd (by omega);have QI:=yb ((QP.out.trans (yh (by simp))).trans (yg h64));clear h64;go_wp2;refine yi (zaf rfl _ _ (r+1) 25 _ (0,0) _ rfl (by exact set4 ((za3 Qs _ _ _ _).trans Qr.out) _ _ _ _) Tryz.underlying25 rfl (by exact zav) _ _ rfl rfl) rfl ?_;rw [QI.out];exact ⟨F,_,_,_,V,rfl,fun X hX=>(by cases hX),Nxt.fin34 HS.out Qy.out HN.out QO.out _ _ _ _ _ _ _ _⟩
 ·have hd:decide (64<=st.length)=false:=ye h64
  have QJ:decide ((64:Int)<=(st.length:Int))=false:=ye (by omega);have QI:=yb ((QP.out.trans (yh (by simp))).trans (yh h64));clear h64;go_wp2;refine yi (zaf rfl _ _ (r+1) 25 _ (0,0) _ rfl (by exact set4 ((za3 Qs _ _ _ _).trans Qr.out) _ _ _ _) Tryz.underlying25 rfl (by exact zav) _ _ rfl rfl) rfl ?_;rw [QI.out];exact ⟨F,_,_,_,V,rfl,fun X hX=>⟨Option.some.inj hX,IsV.fin34 (IsV.leaf _ _ _ ZY.out) HN.out.stk _ _ _ _ _ _ _ _⟩,Nxt.fin34 HS.out Qy.out HN.out QO.out _ _ _ _ _ _ _ _⟩
end
def zca (w:World) (R:PV×Int×Int) (e:Ending) (w':World):Prop :=
 ∃sl,e=.returned (.tuple #[pvA R.1 sl,.int .i64 R.2.1,.int .i64 R.2.2])/\IsV w' (fun b=>w.heap.size<=b) R.1 sl/\Below w.heap.size w w'
structure DvM (w W:World) (B:Nat) (tc:Array Value):Prop where
 b0:W.heap[B]?=some (.cells tc 81 (0,0))
 b1:W.heap[B+1]?=some (.cells #[.int .i64 0,.int .i64 0,.string ⟨#[]⟩,.slice none 0 0] 25 (0,0))
 b2:W.heap[B+1+1]?=some (.cells #[.int .i64 0,.int .i64 0,.string ⟨#[]⟩,.slice none 0 0] 25 (0,0))
 bel:Below w.heap.size w W
 hB:B=w.heap.size
theorem DvM.keep {w W W':World} {B:Nat} {tc:Array Value} (h:DvM w W B tc) (hb:Below W.heap.size W W'):DvM w W' B tc :=
 ⟨zab hb h.b0,zab hb h.b1,zab hb h.b2,h.bel.trans (hb.mono h.bel.size),h.hB⟩
theorem DvM.fin {w W:World} {B:Nat} {tc:Array Value} (h:DvM w W B tc) (y0 y1 y2 y3:Value) :
  Below w.heap.size w ((((W.setCell ⟨B+1,0,none⟩ y0).setCell ⟨B+1,1,none⟩ y1).setCell ⟨B+1,2,none⟩ y2).setCell ⟨B+1,3,none⟩ y3):=zae h.bel (by have:=h.hB;omega) _ _ _ _
theorem DvM.start (w:World) (x:Array Value) {B:Nat} (hB:B=w.heap.size):DvM w (((w.alloc (.cells x 81)).alloc (.cells #[.int .i64 0,.int .i64 0,.string ⟨#[]⟩,.slice none 0 0] 25)).alloc (.cells #[.int .i64 0,.int .i64 0,.string ⟨#[]⟩,.slice none 0 0] 25)) B x :=
 ⟨zal _ (zal _ (zac _ hB)),zal _ (zac _ (by rw [zaq,hB])),zac _ (by rw [zaq,zaq,hB]),zfL _ _ _ _,hB⟩
theorem zaJ {w W:World} {R:PV×Int×Int} (hl:R.1.l=[]) (hb:Below w.heap.size w W):zca w R (.returned (.tuple #[pvA R.1 (.slice none 0 0),.int .i64 R.2.1,.int .i64 R.2.2])) W:=⟨_,rfl,IsV.leaf _ _ _ hl,hb⟩
theorem zhj {w:World} {a:Option Addr} {cap:Nat} {bs:List UInt8} (hr:Row w 1 a bs.length cap (bs.map u8C)) (hn:bs.length<=400000) (yq:Bool) (x:Tk) (f tt D:Int) (hk:x.kind≠0/\x.kind≠2/\x.kind≠3/\x.kind≠4/\x.kind≠5) :
  Calls Tryz.prog 69 #[.slice a bs.length cap,.agg (tokN x f tt),.bool yq,.int .i64 D] w (zca w (if (zbC bs yq x tt).2.2≠0 then (PV.none,0,(zbC bs yq x tt).2.2) else if 64<=D then (PV.none,0,15) else zbC bs yq x tt)):=by
 have QK:=yb (fun (W:World) (h:Below w.heap.size w W)=>rref_any (hr.mono h) hn tt yq x.vn);have QQ:=yb (fun W=>rwhole_tk x f tt W);obtain ⟨R,hR⟩:∃R,R=(if (zbC bs yq x tt).2.2≠0 then (PV.none,0,(zbC bs yq x tt).2.2) else if 64<=D then (PV.none,0,15) else zbC bs yq x tt):=⟨_,rfl⟩;rw [<-hR];obtain ⟨S,hS⟩:∃S,S=zbC bs yq x tt:=⟨_,rfl⟩;rw [<-hS] at hR;unfold zbC at hS;generalize refD bs yq tt x.vn=rd at *;have ZJ:zaN x=(x.kind==1&&x.vk==2):=rfl;obtain ⟨wh,Q9⟩:∃wh,wh=zaN x:=⟨_,rfl⟩;rw [<-Q9] at QQ hS;rw [<-Q9] at ZJ;have ZZ:=yb ZJ;clear Q9 ZJ;obtain ⟨xk,xvk,xvn,xvs,xs⟩:=x;obtain ⟨hk0,hk2,hk3,ZK,ZL⟩:=hk;simp only at hk0 hk2 hk3 ZK ZL hS ZZ QK;unfold tokN at QQ |-;simp only [tkV] at QQ hS |-;have HR:=yb hR;have HS:=yb hS;have e0:(xk==0)=false:=by rw [yf];exact hk0
 have e2:(xk==2)=false:=by rw [yf];exact hk2
 have e3:(xk==3)=false:=by rw [yf];exact hk3
 have e4:(xk==4)=false:=by rw [yf];exact ZK
 have e5:(xk==5)=false:=by rw [yf];exact ZL
 have w1:=zcl xs [116,114,117,101];have w2:=zcl xs [102,97,108,115,101];have w3:=zcl xs [110,117,108,108];have QL:=yb w1;have Za:=yb w2;have Zb:=yb w3;clear hR hS hr hn hk0 hk2 hk3 ZK ZL w1 w2 w3;generalize mkB xs=xb at *;generalize bs.length=L at *;go_enter Tryz.func69,Tryz.ntmps69
 obtain ⟨B,hB⟩:∃B,B=w.heap.size:=⟨_,rfl⟩;have HM:=yb (DvM.start w #[.int .i64 xk,.int .i64 f,.int .i64 tt,.int .i64 xvk,.int .i64 xvn,.string (mkB xvs),.slice none 0 0,.string xb] hB)
 go_upto_region 2 with fail
 rw [<-hB];clear hB;generalize ((w.alloc _).alloc _).alloc _=W1 at *;obtain ⟨⟨k0,k1,k2,k3,k4,k5,k6,k7⟩,-⟩:=zah HM.out.b0;obtain ⟨V,hV⟩:∃V,V=W1.heap.size:=⟨_,rfl⟩;have Zc:=yb (zac (w:=W1) (b:=V) (.cells #[.int .i64 xvk,.int .i64 xvn,.string (mkB xvs),.slice none 0 0] 25) hV);have QA:=yb (zai W1 (.cells #[.int .i64 xvk,.int .i64 xvn,.string (mkB xvs),.slice none 0 0] 25));have Zv:=yb (Nat.le_of_eq hV.symm)
 go_upto_region 13 with fail
 rw [<-hV];clear hV;clear k0 k1 k2 k3 k4 k5 k6 k7;generalize W1.alloc _=W2 at *;obtain ⟨⟨k0,k1,k2,k3,k4,k5,k6,k7⟩,-⟩:=zah (HM.out.keep QA.out).b0;obtain ⟨⟨v0,v1,v2,v3⟩,vf0,vf1,vf2,vf3⟩:=zad Zc.out;obtain ⟨⟨n0,n1,n2,n3⟩,-⟩:=zad (HM.out.keep QA.out).b2;obtain ⟨⟨r0,r1,r2,r3⟩,rf0,rf1,rf2,rf3⟩:=zad (HM.out.keep QA.out).b1
 by_cases hw:xk=6
 ·subst hw
  have Q9:=ZZ.out;simp only [show ((6:Int)==1)=false from rfl,Bool.false_and] at Q9;subst Q9;have hS:=HS.out;rw [yg rfl] at hS;have Z0:=QL.out
  by_cases g0:xs=[116,114,117,101]
  ·have Qc:=yb (show S=(PV.mk 1 1 [] [],tt,0) by rw [hS];unfold zeN;rw [yg g0];all_goals (try rfl))
   rw [yd g0] at Z0;clear hS g0 QK QL Za Zb;have Qt:=yb (set4 Zc.out (.int .i64 1) (.int .i64 1) (.string ⟨#[]⟩) (.slice none 0 0));have Qj:=yb (zae QA.out Zv.out (.int .i64 1) (.int .i64 1) (.string ⟨#[]⟩) (.slice none 0 0))
   go_upto_region 23 with fail
   clear k0 k1 k2 k3 k4 k5 k6 k7 v0 v1 v2 v3 vf0 vf1 vf2 vf3 n0 n1 n2 n3 r0 r1 r2 r3 rf0 rf1 rf2 rf3;generalize (((World.setCell _ _ _).setCell _ _).setCell _ _).setCell _ _=W3 at *;obtain ⟨⟨k0,k1,k2,k3,k4,k5,k6,k7⟩,-⟩:=zah (HM.out.keep Qj.out).b0;obtain ⟨⟨v0,v1,v2,v3⟩,vf0,vf1,vf2,vf3⟩:=zad Qt.out;obtain ⟨⟨n0,n1,n2,n3⟩,-⟩:=zad (HM.out.keep Qj.out).b2;obtain ⟨⟨r0,r1,r2,r3⟩,rf0,rf1,rf2,rf3⟩:=zad (HM.out.keep Qj.out).b1;go_wp2_with fail
   refine (QQ.out _).mono ?_;rintro e w4 ⟨rfl,hb⟩;have Qb:=yo Qj hb;have Qm:=yb (zab hb Qt.out);clear hb;clear k0 k1 k2 k3 k4 k5 k6 k7 v0 v1 v2 v3 vf0 vf1 vf2 vf3 n0 n1 n2 n3 r0 r1 r2 r3 rf0 rf1 rf2 rf3;obtain ⟨⟨k0,k1,k2,k3,k4,k5,k6,k7⟩,-⟩:=zah (HM.out.keep Qb.out).b0;obtain ⟨⟨v0,v1,v2,v3⟩,vf0,vf1,vf2,vf3⟩:=zad Qm.out;obtain ⟨⟨n0,n1,n2,n3⟩,-⟩:=zad (HM.out.keep Qb.out).b2;obtain ⟨⟨r0,r1,r2,r3⟩,rf0,rf1,rf2,rf3⟩:=zad (HM.out.keep Qb.out).b1;have hR:=HR.out
   by_cases hd:64<=D
   ·have d1:decide (64<=D)=true:=yd hd
    rw [yh (by rw [Qc.out];simp),yg hd] at hR;subst hR;clear HR hd HS Qc;go_wp2;refine yi (zaf rfl _ _ (B+1) 25 _ (0,0) _ rfl (by exact set4 (HM.out.keep Qb.out).b1 _ _ _ _) Tryz.underlying25 rfl (by exact zav) _ _ rfl rfl) rfl ?_;exact zaJ (R:=(PV.none,0,15)) rfl ((HM.out.keep Qb.out).fin _ _ _ _)
   ·have d1:decide (64<=D)=false:=ye hd
    rw [yh (by rw [Qc.out];simp),yh hd,Qc.out] at hR;subst hR;clear HR hd HS Qc;go_wp2;refine yi (zaf rfl _ _ (B+1) 25 _ (0,0) _ rfl (by exact set4 (HM.out.keep Qb.out).b1 _ _ _ _) Tryz.underlying25 rfl (by exact zav) _ _ rfl rfl) rfl ?_;exact zaJ (R:=(PV.mk 1 1 [] [],tt,0)) rfl ((HM.out.keep Qb.out).fin _ _ _ _)
  rw [ye g0] at Z0;have Z1:=Za.out
  by_cases g1:xs=[102,97,108,115,101]
  ·have Qc:=yb (show S=(PV.mk 1 0 [] [],tt,0) by rw [hS];unfold zeN;rw [yh g0];rw [yg g1];all_goals (try rfl))
   rw [yd g1] at Z1;clear hS g1 g0 QK QL Za Zb;have Qt:=yb (set4 Zc.out (.int .i64 1) (.int .i64 0) (.string ⟨#[]⟩) (.slice none 0 0));have Qj:=yb (zae QA.out Zv.out (.int .i64 1) (.int .i64 0) (.string ⟨#[]⟩) (.slice none 0 0))
   go_upto_region 23 with fail
   clear k0 k1 k2 k3 k4 k5 k6 k7 v0 v1 v2 v3 vf0 vf1 vf2 vf3 n0 n1 n2 n3 r0 r1 r2 r3 rf0 rf1 rf2 rf3;generalize (((World.setCell _ _ _).setCell _ _).setCell _ _).setCell _ _=W3 at *;obtain ⟨⟨k0,k1,k2,k3,k4,k5,k6,k7⟩,-⟩:=zah (HM.out.keep Qj.out).b0;obtain ⟨⟨v0,v1,v2,v3⟩,vf0,vf1,vf2,vf3⟩:=zad Qt.out;obtain ⟨⟨n0,n1,n2,n3⟩,-⟩:=zad (HM.out.keep Qj.out).b2;obtain ⟨⟨r0,r1,r2,r3⟩,rf0,rf1,rf2,rf3⟩:=zad (HM.out.keep Qj.out).b1;go_wp2_with fail
   refine (QQ.out _).mono ?_;rintro e w4 ⟨rfl,hb⟩;have Qb:=yo Qj hb;have Qm:=yb (zab hb Qt.out);clear hb;clear k0 k1 k2 k3 k4 k5 k6 k7 v0 v1 v2 v3 vf0 vf1 vf2 vf3 n0 n1 n2 n3 r0 r1 r2 r3 rf0 rf1 rf2 rf3;obtain ⟨⟨k0,k1,k2,k3,k4,k5,k6,k7⟩,-⟩:=zah (HM.out.keep Qb.out).b0;obtain ⟨⟨v0,v1,v2,v3⟩,vf0,vf1,vf2,vf3⟩:=zad Qm.out;obtain ⟨⟨n0,n1,n2,n3⟩,-⟩:=zad (HM.out.keep Qb.out).b2;obtain ⟨⟨r0,r1,r2,r3⟩,rf0,rf1,rf2,rf3⟩:=zad (HM.out.keep Qb.out).b1;have hR:=HR.out
   by_cases hd:64<=D
   ·have d1:decide (64<=D)=true:=yd hd
    rw [yh (by rw [Qc.out];simp),yg hd] at hR;subst hR;clear HR hd HS Qc;go_wp2;refine yi (zaf rfl _ _ (B+1) 25 _ (0,0) _ rfl (by exact set4 (HM.out.keep Qb.out).b1 _ _ _ _) Tryz.underlying25 rfl (by exact zav) _ _ rfl rfl) rfl ?_;exact zaJ (R:=(PV.none,0,15)) rfl ((HM.out.keep Qb.out).fin _ _ _ _)
   ·have d1:decide (64<=D)=false:=ye hd
    rw [yh (by rw [Qc.out];simp),yh hd,Qc.out] at hR;subst hR;clear HR hd HS Qc;go_wp2;refine yi (zaf rfl _ _ (B+1) 25 _ (0,0) _ rfl (by exact set4 (HM.out.keep Qb.out).b1 _ _ _ _) Tryz.underlying25 rfl (by exact zav) _ _ rfl rfl) rfl ?_;exact zaJ (R:=(PV.mk 1 0 [] [],tt,0)) rfl ((HM.out.keep Qb.out).fin _ _ _ _)
  rw [ye g1] at Z1;have Zd:=Zb.out
  by_cases g2:xs=[110,117,108,108]
  ·have Qc:=yb (show S=(PV.mk 0 0 [] [],tt,0) by rw [hS];unfold zeN;rw [yh g0];rw [yh g1];rw [yg g2];all_goals (try rfl))
   rw [yd g2] at Zd;clear hS g2 g0 g1 QK QL Za Zb;have Qt:=yb (set4 Zc.out (.int .i64 0) (.int .i64 0) (.string ⟨#[]⟩) (.slice none 0 0));have Qj:=yb (zae QA.out Zv.out (.int .i64 0) (.int .i64 0) (.string ⟨#[]⟩) (.slice none 0 0))
   go_upto_region 23 with fail
   clear k0 k1 k2 k3 k4 k5 k6 k7 v0 v1 v2 v3 vf0 vf1 vf2 vf3 n0 n1 n2 n3 r0 r1 r2 r3 rf0 rf1 rf2 rf3;generalize (((World.setCell _ _ _).setCell _ _).setCell _ _).setCell _ _=W3 at *;obtain ⟨⟨k0,k1,k2,k3,k4,k5,k6,k7⟩,-⟩:=zah (HM.out.keep Qj.out).b0;obtain ⟨⟨v0,v1,v2,v3⟩,vf0,vf1,vf2,vf3⟩:=zad Qt.out;obtain ⟨⟨n0,n1,n2,n3⟩,-⟩:=zad (HM.out.keep Qj.out).b2;obtain ⟨⟨r0,r1,r2,r3⟩,rf0,rf1,rf2,rf3⟩:=zad (HM.out.keep Qj.out).b1;go_wp2_with fail
   refine (QQ.out _).mono ?_;rintro e w4 ⟨rfl,hb⟩;have Qb:=yo Qj hb;have Qm:=yb (zab hb Qt.out);clear hb;clear k0 k1 k2 k3 k4 k5 k6 k7 v0 v1 v2 v3 vf0 vf1 vf2 vf3 n0 n1 n2 n3 r0 r1 r2 r3 rf0 rf1 rf2 rf3;obtain ⟨⟨k0,k1,k2,k3,k4,k5,k6,k7⟩,-⟩:=zah (HM.out.keep Qb.out).b0;obtain ⟨⟨v0,v1,v2,v3⟩,vf0,vf1,vf2,vf3⟩:=zad Qm.out;obtain ⟨⟨n0,n1,n2,n3⟩,-⟩:=zad (HM.out.keep Qb.out).b2;obtain ⟨⟨r0,r1,r2,r3⟩,rf0,rf1,rf2,rf3⟩:=zad (HM.out.keep Qb.out).b1;have hR:=HR.out
   by_cases hd:64<=D
   ·have d1:decide (64<=D)=true:=yd hd
    rw [yh (by rw [Qc.out];simp),yg hd] at hR;subst hR;clear HR hd HS Qc;go_wp2;refine yi (zaf rfl _ _ (B+1) 25 _ (0,0) _ rfl (by exact set4 (HM.out.keep Qb.out).b1 _ _ _ _) Tryz.underlying25 rfl (by exact zav) _ _ rfl rfl) rfl ?_;exact zaJ (R:=(PV.none,0,15)) rfl ((HM.out.keep Qb.out).fin _ _ _ _)
   ·have d1:decide (64<=D)=false:=ye hd
    rw [yh (by rw [Qc.out];simp),yh hd,Qc.out] at hR;subst hR;clear HR hd HS Qc;go_wp2;refine yi (zaf rfl _ _ (B+1) 25 _ (0,0) _ rfl (by exact set4 (HM.out.keep Qb.out).b1 _ _ _ _) Tryz.underlying25 rfl (by exact zav) _ _ rfl rfl) rfl ?_;exact zaJ (R:=(PV.mk 0 0 [] [],tt,0)) rfl ((HM.out.keep Qb.out).fin _ _ _ _)
  rw [ye g2] at Zd;have Qc:=yb (show S=(PV.none,0,11) by rw [hS];unfold zeN;rw [yh g0,yh g1,yh g2]);have hR:=HR.out;rw [Qc.out,yg (by decide)] at hR;subst hR;clear hS g0 g1 g2 QK QL Za Zb HR HS Qc;go_wp2;refine yi (zaf rfl _ _ (B+1) 25 _ (0,0) _ rfl (by exact set4 (HM.out.keep QA.out).b1 _ _ _ _) Tryz.underlying25 rfl (by exact zav) _ _ rfl rfl) rfl ?_;exact zaJ (R:=(PV.none,0,11)) rfl ((HM.out.keep QA.out).fin _ _ _ _)
 have e6:(xk==6)=false:=by rw [yf];exact hw
 have hS:=HS.out;rw [yh hw] at hS;clear hw QL Za Zb
 cases wh with
 | false =>
  have Qc:=yb (show S=(PV.mk xvk xvn xvs [],tt,0) by rw [hS];rfl);clear hS QK;go_wp2_with fail
  refine (QQ.out _).mono ?_;rintro e w4 ⟨rfl,hb⟩;have Qb:=yo QA hb;have Qm:=yb (zab hb Zc.out);clear hb;clear k0 k1 k2 k3 k4 k5 k6 k7 v0 v1 v2 v3 vf0 vf1 vf2 vf3 n0 n1 n2 n3 r0 r1 r2 r3 rf0 rf1 rf2 rf3;obtain ⟨⟨k0,k1,k2,k3,k4,k5,k6,k7⟩,-⟩:=zah (HM.out.keep Qb.out).b0;obtain ⟨⟨v0,v1,v2,v3⟩,vf0,vf1,vf2,vf3⟩:=zad Qm.out;obtain ⟨⟨n0,n1,n2,n3⟩,-⟩:=zad (HM.out.keep Qb.out).b2;obtain ⟨⟨r0,r1,r2,r3⟩,rf0,rf1,rf2,rf3⟩:=zad (HM.out.keep Qb.out).b1;have hR:=HR.out
  by_cases hd:64<=D
  ·have d1:decide (64<=D)=true:=yd hd
   rw [yh (by rw [Qc.out];simp),yg hd] at hR;subst hR;clear HR hd HS Qc;go_wp2;refine yi (zaf rfl _ _ (B+1) 25 _ (0,0) _ rfl (by exact set4 (HM.out.keep Qb.out).b1 _ _ _ _) Tryz.underlying25 rfl (by exact zav) _ _ rfl rfl) rfl ?_;exact zaJ (R:=(PV.none,0,15)) rfl ((HM.out.keep Qb.out).fin _ _ _ _)
  ·have d1:decide (64<=D)=false:=ye hd
   rw [yh (by rw [Qc.out];simp),yh hd,Qc.out] at hR;subst hR;clear HR hd HS Qc;go_wp2;refine yi (zaf rfl _ _ (B+1) 25 _ (0,0) _ rfl (by exact set4 (HM.out.keep Qb.out).b1 _ _ _ _) Tryz.underlying25 rfl (by exact zav) _ _ rfl rfl) rfl ?_;exact zaJ (R:=(PV.mk xvk xvn xvs [],tt,0)) rfl ((HM.out.keep Qb.out).fin _ _ _ _)
 | true =>
  rw [yg rfl] at hS;have Qo:=yb hS;clear hS;go_wp2_with fail
  refine (QQ.out _).mono ?_;rintro e w4 ⟨rfl,hb⟩;have Qb:=yo QA hb;have Qm:=yb (zab hb Zc.out);clear hb;clear k0 k1 k2 k3 k4 k5 k6 k7 v0 v1 v2 v3 vf0 vf1 vf2 vf3 n0 n1 n2 n3 r0 r1 r2 r3 rf0 rf1 rf2 rf3;obtain ⟨⟨k0,k1,k2,k3,k4,k5,k6,k7⟩,-⟩:=zah (HM.out.keep Qb.out).b0;obtain ⟨⟨v0,v1,v2,v3⟩,vf0,vf1,vf2,vf3⟩:=zad Qm.out;obtain ⟨⟨n0,n1,n2,n3⟩,-⟩:=zad (HM.out.keep Qb.out).b2;obtain ⟨⟨r0,r1,r2,r3⟩,rf0,rf1,rf2,rf3⟩:=zad (HM.out.keep Qb.out).b1;obtain ⟨ri,rt,re⟩:=rd;simp only at Qo QK;go_wp2_with fail
  refine (QK.out _ (HM.out.keep Qb.out).bel).mono ?_;rintro e w5 ⟨rfl,hb⟩;have Qa:=yo Qb hb;have Z2:=yb (zab hb Qm.out);clear hb QK;clear k0 k1 k2 k3 k4 k5 k6 k7 v0 v1 v2 v3 vf0 vf1 vf2 vf3 n0 n1 n2 n3 r0 r1 r2 r3 rf0 rf1 rf2 rf3;obtain ⟨⟨k0,k1,k2,k3,k4,k5,k6,k7⟩,-⟩:=zah (HM.out.keep Qa.out).b0;obtain ⟨⟨v0,v1,v2,v3⟩,vf0,vf1,vf2,vf3⟩:=zad Z2.out;obtain ⟨⟨n0,n1,n2,n3⟩,-⟩:=zad (HM.out.keep Qa.out).b2;obtain ⟨⟨r0,r1,r2,r3⟩,rf0,rf1,rf2,rf3⟩:=zad (HM.out.keep Qa.out).b1;have hS:=Qo.out
  by_cases hre:re=0
  case neg =>
   have e1:(re==0)=false:=by rw [yf];exact hre
   have e1n:(re != 0)=true:=by simp only [bne,e1,yj]
   rw [yg hre] at hS;have hR:=HR.out;rw [hS,yg hre] at hR;subst hR;clear hS Qo HS HR hre;go_wp2;refine yi (zaf rfl _ _ (B+1) 25 _ (0,0) _ rfl (by exact set4 (HM.out.keep Qa.out).b1 _ _ _ _) Tryz.underlying25 rfl (by exact zav) _ _ rfl rfl) rfl ?_;exact zaJ (R:=(PV.none,0,re)) rfl ((HM.out.keep Qa.out).fin _ _ _ _)
  subst hre;rw [yh (by simp)] at hS
  cases ri with
  | false =>
   have Qc:=yb (show S=(PV.mk xvk xvn xvs [],tt,0) by rw [hS];rfl);clear hS Qo;have hR:=HR.out
   by_cases hd:64<=D
   ·have d1:decide (64<=D)=true:=yd hd
    rw [yh (by rw [Qc.out];simp),yg hd] at hR;subst hR;clear HR hd HS Qc;go_wp2;refine yi (zaf rfl _ _ (B+1) 25 _ (0,0) _ rfl (by exact set4 (HM.out.keep Qa.out).b1 _ _ _ _) Tryz.underlying25 rfl (by exact zav) _ _ rfl rfl) rfl ?_;exact zaJ (R:=(PV.none,0,15)) rfl ((HM.out.keep Qa.out).fin _ _ _ _)
   ·have d1:decide (64<=D)=false:=ye hd
    rw [yh (by rw [Qc.out];simp),yh hd,Qc.out] at hR;subst hR;clear HR hd HS Qc;go_wp2;refine yi (zaf rfl _ _ (B+1) 25 _ (0,0) _ rfl (by exact set4 (HM.out.keep Qa.out).b1 _ _ _ _) Tryz.underlying25 rfl (by exact zav) _ _ rfl rfl) rfl ?_;exact zaJ (R:=(PV.mk xvk xvn xvs [],tt,0)) rfl ((HM.out.keep Qa.out).fin _ _ _ _)
  | true =>
   have Qc:=yb (show S=(PV.mk 8 xvn [] [],rt,0) by rw [hS];rfl);clear hS Qo;have Yu:=yb (set4 Z2.out (.int .i64 8) (.int .i64 xvn) (.string ⟨#[]⟩) (.slice none 0 0));have Qe:=yb (zae Qa.out Zv.out (.int .i64 8) (.int .i64 xvn) (.string ⟨#[]⟩) (.slice none 0 0))
   go_upto_region 30 with fail
   clear k0 k1 k2 k3 k4 k5 k6 k7 v0 v1 v2 v3 vf0 vf1 vf2 vf3 n0 n1 n2 n3 r0 r1 r2 r3 rf0 rf1 rf2 rf3;generalize (((World.setCell _ _ _).setCell _ _).setCell _ _).setCell _ _=W6 at *;obtain ⟨⟨k0,k1,k2,k3,k4,k5,k6,k7⟩,-⟩:=zah (HM.out.keep Qe.out).b0;obtain ⟨⟨v0,v1,v2,v3⟩,vf0,vf1,vf2,vf3⟩:=zad Yu.out;obtain ⟨⟨n0,n1,n2,n3⟩,-⟩:=zad (HM.out.keep Qe.out).b2;obtain ⟨⟨r0,r1,r2,r3⟩,rf0,rf1,rf2,rf3⟩:=zad (HM.out.keep Qe.out).b1;have hR:=HR.out
   by_cases hd:64<=D
   ·have d1:decide (64<=D)=true:=yd hd
    rw [yh (by rw [Qc.out];simp),yg hd] at hR;subst hR;clear HR hd HS Qc;go_wp2;refine yi (zaf rfl _ _ (B+1) 25 _ (0,0) _ rfl (by exact set4 (HM.out.keep Qe.out).b1 _ _ _ _) Tryz.underlying25 rfl (by exact zav) _ _ rfl rfl) rfl ?_;exact zaJ (R:=(PV.none,0,15)) rfl ((HM.out.keep Qe.out).fin _ _ _ _)
   ·have d1:decide (64<=D)=false:=ye hd
    rw [yh (by rw [Qc.out];simp),yh hd,Qc.out] at hR;subst hR;clear HR hd HS Qc;go_wp2;refine yi (zaf rfl _ _ (B+1) 25 _ (0,0) _ rfl (by exact set4 (HM.out.keep Qe.out).b1 _ _ _ _) Tryz.underlying25 rfl (by exact zav) _ _ rfl rfl) rfl ?_;exact zaJ (R:=(PV.mk 8 xvn [] [],rt,0)) rfl ((HM.out.keep Qe.out).fin _ _ _ _)
theorem value_k0 {w:World} {a:Option Addr} {cap L:Nat} (yq:Bool) (x:Tk) (f tt D:Int) (hk:x.kind=0) :
  Calls Tryz.prog 69 #[.slice a L cap,.agg (tokN x f tt),.bool yq,.int .i64 D] w (zca w (PV.none,0,10)):=by
 unfold tokN;rw [hk];clear hk;generalize x.vk=xvk at *;generalize x.vn=xvn at *;generalize mkB x.vs=xvb at *;generalize mkB x.s=xb at *;go_enter Tryz.func69,Tryz.ntmps69
 obtain ⟨B,hB⟩:∃B,B=w.heap.size:=⟨_,rfl⟩;have HM:=yb (DvM.start w #[.int .i64 0,.int .i64 f,.int .i64 tt,.int .i64 xvk,.int .i64 xvn,.string xvb,.slice none 0 0,.string xb] hB)
 go_upto_region 2 with fail
 rw [<-hB];clear hB;generalize ((w.alloc _).alloc _).alloc _=W1 at *;obtain ⟨⟨k0,k1,k2,k3,k4,k5,k6,k7⟩,-⟩:=zah HM.out.b0;obtain ⟨⟨n0,n1,n2,n3⟩,-⟩:=zad HM.out.b2;obtain ⟨⟨r0,r1,r2,r3⟩,rf0,rf1,rf2,rf3⟩:=zad HM.out.b1;go_wp2;refine yi (zaf rfl _ _ (B+1) 25 _ (0,0) _ rfl (by exact set4 HM.out.b1 _ _ _ _) Tryz.underlying25 rfl (by exact zav) _ _ rfl rfl) rfl ?_;exact zaJ (R:=(PV.none,0,10)) rfl (HM.out.fin _ _ _ _)
theorem value_k3 {w:World} {a:Option Addr} {cap L:Nat} (yq:Bool) (x:Tk) (f tt D:Int) (hk:x.kind=3) :
  Calls Tryz.prog 69 #[.slice a L cap,.agg (tokN x f tt),.bool yq,.int .i64 D] w (zca w (PV.none,0,11)):=by
 unfold tokN;rw [hk];clear hk;generalize x.vk=xvk at *;generalize x.vn=xvn at *;generalize mkB x.vs=xvb at *;generalize mkB x.s=xb at *;go_enter Tryz.func69,Tryz.ntmps69
 obtain ⟨B,hB⟩:∃B,B=w.heap.size:=⟨_,rfl⟩;have HM:=yb (DvM.start w #[.int .i64 3,.int .i64 f,.int .i64 tt,.int .i64 xvk,.int .i64 xvn,.string xvb,.slice none 0 0,.string xb] hB)
 go_upto_region 2 with fail
 rw [<-hB];clear hB;generalize ((w.alloc _).alloc _).alloc _=W1 at *;obtain ⟨⟨k0,k1,k2,k3,k4,k5,k6,k7⟩,-⟩:=zah HM.out.b0;obtain ⟨⟨n0,n1,n2,n3⟩,-⟩:=zad HM.out.b2;obtain ⟨⟨r0,r1,r2,r3⟩,rf0,rf1,rf2,rf3⟩:=zad HM.out.b1;go_wp2;refine yi (zaf rfl _ _ (B+1) 25 _ (0,0) _ rfl (by exact set4 HM.out.b1 _ _ _ _) Tryz.underlying25 rfl (by exact zav) _ _ rfl rfl) rfl ?_;exact zaJ (R:=(PV.none,0,11)) rfl (HM.out.fin _ _ _ _)
theorem value_k5 {w:World} {a:Option Addr} {cap L:Nat} (yq:Bool) (x:Tk) (f tt D:Int) (hk:x.kind=5) :
  Calls Tryz.prog 69 #[.slice a L cap,.agg (tokN x f tt),.bool yq,.int .i64 D] w (zca w (PV.none,0,11)):=by
 unfold tokN;rw [hk];clear hk;generalize x.vk=xvk at *;generalize x.vn=xvn at *;generalize mkB x.vs=xvb at *;generalize mkB x.s=xb at *;go_enter Tryz.func69,Tryz.ntmps69
 obtain ⟨B,hB⟩:∃B,B=w.heap.size:=⟨_,rfl⟩;have HM:=yb (DvM.start w #[.int .i64 5,.int .i64 f,.int .i64 tt,.int .i64 xvk,.int .i64 xvn,.string xvb,.slice none 0 0,.string xb] hB)
 go_upto_region 2 with fail
 rw [<-hB];clear hB;generalize ((w.alloc _).alloc _).alloc _=W1 at *;obtain ⟨⟨k0,k1,k2,k3,k4,k5,k6,k7⟩,-⟩:=zah HM.out.b0;obtain ⟨⟨n0,n1,n2,n3⟩,-⟩:=zad HM.out.b2;obtain ⟨⟨r0,r1,r2,r3⟩,rf0,rf1,rf2,rf3⟩:=zad HM.out.b1;go_wp2;refine yi (zaf rfl _ _ (B+1) 25 _ (0,0) _ rfl (by exact set4 HM.out.b1 _ _ _ _) Tryz.underlying25 rfl (by exact zav) _ _ rfl rfl) rfl ?_;exact zaJ (R:=(PV.none,0,11)) rfl (HM.out.fin _ _ _ _)
theorem value_d2 {w:World} {a:Option Addr} {cap L:Nat} (yq:Bool) (x:Tk) (f tt D:Int) (hk:x.kind=2) (hD:64<=D) :
  Calls Tryz.prog 69 #[.slice a L cap,.agg (tokN x f tt),.bool yq,.int .i64 D] w (zca w (PV.none,0,15)):=by
 unfold tokN;rw [hk];clear hk;generalize x.vk=xvk at *;generalize x.vn=xvn at *;generalize mkB x.vs=xvb at *;generalize mkB x.s=xb at *;have d1:decide (64<=D)=true:=yd hD;clear hD;go_enter Tryz.func69,Tryz.ntmps69
 obtain ⟨B,hB⟩:∃B,B=w.heap.size:=⟨_,rfl⟩;have HM:=yb (DvM.start w #[.int .i64 2,.int .i64 f,.int .i64 tt,.int .i64 xvk,.int .i64 xvn,.string xvb,.slice none 0 0,.string xb] hB)
 go_upto_region 2 with fail
 rw [<-hB];clear hB;generalize ((w.alloc _).alloc _).alloc _=W1 at *;obtain ⟨⟨k0,k1,k2,k3,k4,k5,k6,k7⟩,-⟩:=zah HM.out.b0;obtain ⟨⟨n0,n1,n2,n3⟩,-⟩:=zad HM.out.b2;obtain ⟨⟨r0,r1,r2,r3⟩,rf0,rf1,rf2,rf3⟩:=zad HM.out.b1;go_wp2;refine yi (zaf rfl _ _ (B+1) 25 _ (0,0) _ rfl (by exact set4 HM.out.b1 _ _ _ _) Tryz.underlying25 rfl (by exact zav) _ _ rfl rfl) rfl ?_;exact zaJ (R:=(PV.none,0,15)) rfl (HM.out.fin _ _ _ _)
theorem value_d4 {w:World} {a:Option Addr} {cap L:Nat} (yq:Bool) (x:Tk) (f tt D:Int) (hk:x.kind=4) (hD:64<=D) :
  Calls Tryz.prog 69 #[.slice a L cap,.agg (tokN x f tt),.bool yq,.int .i64 D] w (zca w (PV.none,0,15)):=by
 unfold tokN;rw [hk];clear hk;generalize x.vk=xvk at *;generalize x.vn=xvn at *;generalize mkB x.vs=xvb at *;generalize mkB x.s=xb at *;have d1:decide (64<=D)=true:=yd hD;clear hD;go_enter Tryz.func69,Tryz.ntmps69
 obtain ⟨B,hB⟩:∃B,B=w.heap.size:=⟨_,rfl⟩;have HM:=yb (DvM.start w #[.int .i64 4,.int .i64 f,.int .i64 tt,.int .i64 xvk,.int .i64 xvn,.string xvb,.slice none 0 0,.string xb] hB)
 go_upto_region 2 with fail
 rw [<-hB];clear hB;generalize ((w.alloc _).alloc _).alloc _=W1 at *;obtain ⟨⟨k0,k1,k2,k3,k4,k5,k6,k7⟩,-⟩:=zah HM.out.b0;obtain ⟨⟨n0,n1,n2,n3⟩,-⟩:=zad HM.out.b2;obtain ⟨⟨r0,r1,r2,r3⟩,rf0,rf1,rf2,rf3⟩:=zad HM.out.b1;go_wp2;refine yi (zaf rfl _ _ (B+1) 25 _ (0,0) _ rfl (by exact set4 HM.out.b1 _ _ _ _) Tryz.underlying25 rfl (by exact zav) _ _ rfl rfl) rfl ?_;exact zaJ (R:=(PV.none,0,15)) rfl (HM.out.fin _ _ _ _)
theorem value_o2 {w:World} {a:Option Addr} {cap L:Nat} (yq:Bool) (x:Tk) (f tt D:Int) (hk:x.kind=2) (hD:¬64<=D) (hD0:0<=D) {R:PV×Int×Int} (hA:∀W,Below w.heap.size w W->Calls Tryz.prog 111 #[.slice a L cap,.int .i64 tt,.bool yq,.int .i64 (D+1)] W (zca W R)) :
  Calls Tryz.prog 69 #[.slice a L cap,.agg (tokN x f tt),.bool yq,.int .i64 D] w (zca w R):=by
 unfold tokN;rw [hk];clear hk;generalize x.vk=xvk at *;generalize x.vn=xvn at *;generalize mkB x.vs=xvb at *;generalize mkB x.s=xb at *;have d1:decide (64<=D)=false:=ye hD;have d2:IntKind.i64.wrap (D+1)=D+1:=IntWalk.i64_in _ (by omega);have d3:D<64:=by omega
 have HA:=yb hA;clear hD hA;go_enter Tryz.func69,Tryz.ntmps69
 obtain ⟨B,hB⟩:∃B,B=w.heap.size:=⟨_,rfl⟩;have HM:=yb (DvM.start w #[.int .i64 2,.int .i64 f,.int .i64 tt,.int .i64 xvk,.int .i64 xvn,.string xvb,.slice none 0 0,.string xb] hB)
 go_upto_region 2 with fail
 rw [<-hB];clear hB;generalize ((w.alloc _).alloc _).alloc _=W1 at *;obtain ⟨⟨k0,k1,k2,k3,k4,k5,k6,k7⟩,-⟩:=zah HM.out.b0;obtain ⟨⟨n0,n1,n2,n3⟩,-⟩:=zad HM.out.b2;obtain ⟨⟨r0,r1,r2,r3⟩,rf0,rf1,rf2,rf3⟩:=zad HM.out.b1;go_wp2_with fail
 refine (HA.out _ HM.out.bel).mono ?_;rintro e w4 ⟨sl,rfl,hV,hb⟩;have QW:=yb (HM.out.keep hb);obtain ⟨sa,sc,rfl,-⟩:=hV.len;have HV:=yb hV;have Zm:B+1<W1.heap.size:=zam HM.out.b1;have HL:=yb Zm;have ZM:=HM.out.hB;have ZN:=yb (show w.heap.size<=W1.heap.size by omega);clear hb hV HA k0 k1 k2 k3 k4 k5 k6 k7 n0 n1 n2 n3 r0 r1 r2 r3 rf0 rf1 rf2 rf3 Zm ZM;obtain ⟨⟨r0,r1,r2,r3⟩,rf0,rf1,rf2,rf3⟩:=zad QW.out.b1;unfold pvA;go_wp2;refine yi (zaf rfl _ _ (B+1) 25 _ (0,0) _ rfl (by exact set4 QW.out.b1 _ _ _ _) Tryz.underlying25 rfl (by exact zav) _ _ rfl rfl) rfl ?_;exact ⟨_,rfl,IsV.keep (F:=fun b=>W1.heap.size<=b) ⟨by rw [za5];exact yp _,fun b _ hb=>zbp (by have:=HL.out;omega) _ _ _ _⟩ (fun b hb=>Nat.le_trans ZN.out hb) _ HV.out,QW.out.fin _ _ _ _⟩
theorem value_o4 {w:World} {a:Option Addr} {cap L:Nat} (yq:Bool) (x:Tk) (f tt D:Int) (hk:x.kind=4) (hD:¬64<=D) (hD0:0<=D) {R:PV×Int×Int} (hA:∀W,Below w.heap.size w W->Calls Tryz.prog 112 #[.slice a L cap,.int .i64 tt,.bool yq,.int .i64 (D+1)] W (zca W R)) :
  Calls Tryz.prog 69 #[.slice a L cap,.agg (tokN x f tt),.bool yq,.int .i64 D] w (zca w R):=by
 unfold tokN;rw [hk];clear hk;generalize x.vk=xvk at *;generalize x.vn=xvn at *;generalize mkB x.vs=xvb at *;generalize mkB x.s=xb at *;have d1:decide (64<=D)=false:=ye hD;have d2:IntKind.i64.wrap (D+1)=D+1:=IntWalk.i64_in _ (by omega);have d3:D<64:=by omega
 have HA:=yb hA;clear hD hA;go_enter Tryz.func69,Tryz.ntmps69
 obtain ⟨B,hB⟩:∃B,B=w.heap.size:=⟨_,rfl⟩;have HM:=yb (DvM.start w #[.int .i64 4,.int .i64 f,.int .i64 tt,.int .i64 xvk,.int .i64 xvn,.string xvb,.slice none 0 0,.string xb] hB)
 go_upto_region 2 with fail
 rw [<-hB];clear hB;generalize ((w.alloc _).alloc _).alloc _=W1 at *;obtain ⟨⟨k0,k1,k2,k3,k4,k5,k6,k7⟩,-⟩:=zah HM.out.b0;obtain ⟨⟨n0,n1,n2,n3⟩,-⟩:=zad HM.out.b2;obtain ⟨⟨r0,r1,r2,r3⟩,rf0,rf1,rf2,rf3⟩:=zad HM.out.b1;go_wp2_with fail
 refine (HA.out _ HM.out.bel).mono ?_;rintro e w4 ⟨sl,rfl,hV,hb⟩;have QW:=yb (HM.out.keep hb);obtain ⟨sa,sc,rfl,-⟩:=hV.len;have HV:=yb hV;have Zm:B+1<W1.heap.size:=zam HM.out.b1;have HL:=yb Zm;have ZM:=HM.out.hB;have ZN:=yb (show w.heap.size<=W1.heap.size by omega);clear hb hV HA k0 k1 k2 k3 k4 k5 k6 k7 n0 n1 n2 n3 r0 r1 r2 r3 rf0 rf1 rf2 rf3 Zm ZM;obtain ⟨⟨r0,r1,r2,r3⟩,rf0,rf1,rf2,rf3⟩:=zad QW.out.b1;unfold pvA;go_wp2;refine yi (zaf rfl _ _ (B+1) 25 _ (0,0) _ rfl (by exact set4 QW.out.b1 _ _ _ _) Tryz.underlying25 rfl (by exact zav) _ _ rfl rfl) rfl ?_;exact ⟨_,rfl,IsV.keep (F:=fun b=>W1.heap.size<=b) ⟨by rw [za5];exact yp _,fun b _ hb=>zbp (by have:=HL.out;omega) _ _ _ _⟩ (fun b hb=>Nat.le_trans ZN.out hb) _ HV.out,QW.out.fin _ _ _ _⟩
def dctV (ps:List (PV×PV)):PV:=.mk 7 0 [] (zaS ps)
theorem IsV.pair {w:World} {F:Nat->Prop} {ps:List (PV×PV)} {a:Option Addr} {n cap:Nat} (h:IsV w F (dctV ps) (.slice a n cap)) {j:Nat} {y:PV×PV} (hy:ps[j]?=some y) :
  ∃b off s1 s2,a=some ⟨b,off,none⟩/\IsV w F y.1 s1/\IsV w F y.2 s2 /\
   w.cell? ⟨b,off+2*j*4,none⟩=some (.int .i64 y.1.kind)/\w.cell? ⟨b,off+2*j*4+1,none⟩=some (.int .i64 y.1.n)/\w.cell? ⟨b,off+2*j*4+2,none⟩=some (.string (mkB y.1.s))/\w.cell? ⟨b,off+2*j*4+3,none⟩=some s1 /\
   w.cell? ⟨b,off+(2*j+1)*4,none⟩=some (.int .i64 y.2.kind)/\w.cell? ⟨b,off+(2*j+1)*4+1,none⟩=some (.int .i64 y.2.n)/\w.cell? ⟨b,off+(2*j+1)*4+2,none⟩=some (.string (mkB y.2.s))/\w.cell? ⟨b,off+(2*j+1)*4+3,none⟩=some s2:=by
 have Qg:=(List.getElem?_eq_some_iff.1 hy).1;have hn:n=(zaS ps).length:=by obtain ⟨a',cap',e,_⟩:=h.len;cases e;rfl
 obtain ⟨-,-,-,b,off,rfl,-,-,hx⟩:=h.at (by rw [hn,zdy];omega);obtain ⟨f1,f2⟩:=flat_at ps j y hy;obtain ⟨s1,h1,c0,c1,c2,c3⟩:=hx _ _ f1;obtain ⟨s2,h2,d0,d1,d2,d3⟩:=hx _ _ f2;exact ⟨b,off,s1,s2,rfl,h1,h2,c0,c1,c2,c3,d0,d1,d2,d3⟩
def zgC (key:List UInt8) (ps:List (PV×PV)):Int:=if fIx key ps<ps.length then ((2*fIx key ps:Nat):Int) else -1
theorem zhW {w:World} {F:Nat->Prop} {ps:List (PV×PV)} {sl:Value} (hv:IsV w F (dctV ps) sl) (h5:∀y∈ps,y.1.kind=5) (key:List UInt8) :
  Calls Tryz.prog 147 #[pvA (dctV ps) sl,.string (mkB key)] w fun e w'=>e=.returned (.int .i64 (zgC key ps))/\Below w.heap.size w w':=by
 obtain ⟨a1,cap1,e1,g1,g2,-⟩:=hv.len;subst e1;obtain ⟨N,hN⟩:∃N,N=(dctV ps).l.length:=⟨_,rfl⟩;have QR:N=2*ps.length:=by rw [hN];exact zdy ps
 rw [<-hN] at hv g1 |-;have HA:=yb hv;have m1:(N:Int)<=9223372036854775807:=by unfold maxLen at g2;omega
 have Qk:=yb QR;have H5:=yb h5;obtain ⟨R,hR⟩:∃R,R=zgC key ps:=⟨_,rfl⟩;have HR:=yb hR;rw [<-hR];unfold pvA;rw [show (dctV ps).kind=7 from rfl,show (dctV ps).n=0 from rfl,show mkB (dctV ps).s=⟨#[]⟩ from rfl];have HE:=yb (fun (x:List UInt8)=>show ((mkB x).toList==(mkB key).toList)=decide (x=key) by rw [zaj key];exact zcl x key);clear hv hN QR h5 hR;generalize mkB key=ks at *;go_enter Tryz.func147,Tryz.ntmps147
 obtain ⟨B,hB⟩:∃B,B=w.heap.size:=⟨_,rfl⟩;have Yv:=yb (zac (w:=w) (b:=B) (.cells #[.int .i64 7,.int .i64 0,.string ⟨#[]⟩,.slice a1 N cap1] 25) hB);have HW:=yb (zai w (.cells #[.int .i64 7,.int .i64 0,.string ⟨#[]⟩,.slice a1 N cap1] 25));go_wp2;rw [<-hB];clear hB;generalize w.alloc _=W1 at *;obtain ⟨⟨c0,c1,c2,c3⟩,-⟩:=zad Yv.out
 go_loopw [5] (fun vk wr=>∃j K:Nat,vk=.int .i64 K/\Hid (K=2*j)/\K<=N/\wr=W1/\Hid (j<=fIx key ps)) (fun vk _=>N-(intOf vk).toNat)
 case atStart=>exact ⟨0,0,rfl,rfl,Nat.zero_le _,rfl,Nat.zero_le _⟩
 case round =>
  obtain ⟨j,K,rfl,HK,hK,Z3,HJ⟩:=hrel;rw [Z3];clear Z3
  by_cases q1:K<N
  case neg =>
   have hd1:decide (K<N)=false:=ye q1;have QJ:decide ((K:Int)<(N:Int))=false:=ye (by omega);have Zd:¬(K:Int)<(N:Int):=by omega
   have hr:R=-1:=by
    rw [HR.out];unfold zgC;have h1:=HK.out;have h2:=Qk.out;have h3:=HJ.out;rw [yh (by omega)]
   subst hr;clear HE H5 HK HJ HR;go_wp2;go_ret;exact ⟨rfl,HW.out⟩
  have Qg:j<ps.length:=by
   have h1:=HK.out;have h2:=Qk.out;omega
  obtain ⟨y,hy⟩:∃y,ps[j]?=some y:=⟨_,List.getElem?_eq_getElem Qg⟩;obtain ⟨b1,o1,sy,sz,rfl,-,-,y0,-,y2,-⟩:=(HA.out.below HW.out).pair hy;rw [H5.out y (List.mem_of_getElem? hy),<-HK.out] at y0;rw [<-HK.out] at y2;have hE:=HE.out y.1.s;have QS:K+2<=N:=by have h1:=HK.out;have h2:=Qk.out;omega
  have Z4:(0:Int)<=(K:Int):=by omega
  have Zn:(K:Int)<(N:Int):=by omega
  have hd1:decide (K<N)=true:=yd q1;have QJ:decide ((K:Int)<(N:Int))=true:=yd Zn
  by_cases hj:j=fIx key ps
  ·have hs:y.1.s=key:=fIx_eq key ps y (by rw [<-hj];exact hy)
   rw [yd hs] at hE
   have hr:R=(K:Int):=by
    rw [HR.out];unfold zgC;rw [yg (by omega),<-hj,HK.out]
   subst hr;generalize mkB y.1.s=ys at *;clear HE H5 HK HJ HR hy hj hs Qg;go_wp2;go_ret;exact ⟨rfl,HW.out⟩
  ·have hj2:j<fIx key ps:=by have:=HJ.out;omega
   have hs:y.1.s≠key:=fIx_ne key ps j y hj2 hy;rw [ye hs] at hE;generalize mkB y.1.s=ys at *;have Yw:=yb hj2;clear HE H5 HR hy hj hs Qg hj2;go_wp2
   go_roundw
   case rel=>exact ⟨j+1,K+2,by go_num,by have:=HK.out;show K+2=2*(j+1);omega,QS,trivial,Yw.out⟩
   case measure=>simp [intOf];omega
theorem one4 (k n:Int) (s:ByteArray) (a:Option Addr) (m c:Nat):∀u∈[Value.int .i64 k,.int .i64 n,.string s,.slice a m c],u.oneCell'=true:=by
 intro u hu;simp at hu;rcases hu with rfl|rfl|rfl|rfl<;>rfl
theorem one8 (k n:Int) (s:ByteArray) (a:Option Addr) (m c:Nat) (k2 n2:Int) (s2:ByteArray) (a2:Option Addr) (m2 c2:Nat):∀u∈[Value.int .i64 k,.int .i64 n,.string s,.slice a m c,.int .i64 k2,.int .i64 n2,.string s2,.slice a2 m2 c2],u.oneCell'=true:=by
 intro u hu;simp at hu;rcases hu with rfl|rfl|rfl|rfl|rfl|rfl|rfl|rfl<;>rfl
theorem zbN (w:World) (cs:Array Value) (e:TypeId) (n:Nat) (hn:cs.size=n):Row (w.alloc (.cells cs e)) n (some ⟨w.heap.size,0,none⟩) 1 1 cs.toList :=
 ⟨by simp [hn],yp _,by simp [maxLen],fun h=>(by cases h),fun _=>⟨w.heap.size,0,rfl,by rw [zaq];omega,fun j u hj=>by
  rw [Nat.zero_add,cell_of_row _ _ _ _ _ _ (zac _ rfl)];simpa using hj⟩⟩
theorem row_newM2 (w:World) (cs:Array Value) (e:TypeId) (hn:cs.size=8):Row (w.alloc (.cells cs e)) 4 (some ⟨w.heap.size,0,none⟩) 2 2 cs.toList :=
 ⟨by simp [hn],yp _,by simp [maxLen],fun h=>(by cases h),fun _=>⟨w.heap.size,0,rfl,by rw [zaq];omega,fun j u hj=>by
  rw [Nat.zero_add,cell_of_row _ _ _ _ _ _ (zac _ rfl)];simpa using hj⟩⟩
theorem put_fin {w wr W:World} {F:Nat->Prop} {L:List PV} {v:Value} {n:Nat} {cs:List Value} {Q:Nat} (hO:wr.ownsRow Q 25 4 v n cs) (hVs:IsVs w F L cs) (hQ:w.heap.size<=Q) (hk:∀b,Q<=b->W.heap[b]?=wr.heap[b]?) (hb:Below w.heap.size w W) (k:Int) :
  IsV W (fun b=>F b\/w.heap.size<=b) (.mk k 0 [] L) v:=by
 obtain ⟨a,cap,rfl,hr,Qn⟩:=Row.of_owns (zbd hO (w':=W) (fun b hb=>hk b (hO.lt b hb).1));have h1:=hVs.length;have h2:cs.length=n*4:=hr.1;have h3:n=L.length:=by omega
 subst h3;exact IsV.mk (v:=.mk k 0 [] L) hr (fun _ x hx=>.inr (Nat.le_trans hQ (Qn x hx))) (IsVs.keep (zaU.of_below hb) (fun b h=>.inl h) _ hVs)
structure PutM (w W:World) (B:Nat) (dc xc:Array Value):Prop where
 b0:W.heap[B]?=some (.cells dc 25 (0,0))
 b1:W.heap[B+1]?=some (.cells xc 25 (0,0))
 b2:W.heap[B+1+1]?=some (.cells #[.int .i64 0,.int .i64 0,.string ⟨#[]⟩,.slice none 0 0] 25 (0,0))
 bel:Below w.heap.size w W
 hB:B=w.heap.size
theorem PutM.keep {w W W':World} {B:Nat} {dc xc:Array Value} (h:PutM w W B dc xc) (hb:Below W.heap.size W W'):PutM w W' B dc xc :=
 ⟨zab hb h.b0,zab hb h.b1,zab hb h.b2,h.bel.trans (hb.mono h.bel.size),h.hB⟩
def PairAt (w:World) (b o K:Nat) (yk yn:Int) (ys:ByteArray) (yv:Value) (zk zn:Int) (zs:ByteArray) (zv:Value):Prop :=
 (w.cell? ⟨b,o+K*4,none⟩=some (.int .i64 yk)/\w.cell? ⟨b,o+K*4+1,none⟩=some (.int .i64 yn)/\w.cell? ⟨b,o+K*4+2,none⟩=some (.string ys)/\w.cell? ⟨b,o+K*4+3,none⟩=some yv) /\
 (w.cell? ⟨b,o+(K+1)*4,none⟩=some (.int .i64 zk)/\w.cell? ⟨b,o+(K+1)*4+1,none⟩=some (.int .i64 zn)/\w.cell? ⟨b,o+(K+1)*4+2,none⟩=some (.string zs)/\w.cell? ⟨b,o+(K+1)*4+3,none⟩=some zv)
theorem PairAt.keep {w W:World} {b o K:Nat} {yk yn:Int} {ys:ByteArray} {yv:Value} {zk zn:Int} {zs:ByteArray} {zv:Value} (h:PairAt w b o K yk yn ys yv zk zn zs zv) (hb:Below w.heap.size w W):PairAt W b o K yk yn ys yv zk zn zs zv :=
 let ⟨⟨a1,a2,a3,a4⟩,c1,c2,c3,c4⟩:=h
 ⟨⟨cell?_keep hb a1,cell?_keep hb a2,cell?_keep hb a3,cell?_keep hb a4⟩,cell?_keep hb c1,cell?_keep hb c2,cell?_keep hb c3,cell?_keep hb c4⟩
theorem zhw {w W2 wr:World} {B:Nat} {dc xc:Array Value} (h:PutM w W2 B dc xc) (hb:Below W2.heap.size W2 wr) (v y0 y1 y2 y3:Value) :
  Below w.heap.size w (((((wr.setCell ⟨B,3,none⟩ v).setCell ⟨B+1+1,0,none⟩ y0).setCell ⟨B+1+1,1,none⟩ y1).setCell ⟨B+1+1,2,none⟩ y2).setCell ⟨B+1+1,3,none⟩ y3) /\
  (∀b,W2.heap.size<=b->(((((wr.setCell ⟨B,3,none⟩ v).setCell ⟨B+1+1,0,none⟩ y0).setCell ⟨B+1+1,1,none⟩ y1).setCell ⟨B+1+1,2,none⟩ y2).setCell ⟨B+1+1,3,none⟩ y3).heap[b]?=wr.heap[b]?) /\
  (((((wr.setCell ⟨B,3,none⟩ v).setCell ⟨B+1+1,0,none⟩ y0).setCell ⟨B+1+1,1,none⟩ y1).setCell ⟨B+1+1,2,none⟩ y2).setCell ⟨B+1+1,3,none⟩ y3).heap[B+1+1]?=some (.cells #[y0,y1,y2,y3] 25 (0,0)):=by
 have h2:=h.keep hb;have hB:=h.hB;have hl:=zam h.b2;refine ⟨zae (h2.bel.setCell (by show w.heap.size<=B;omega) _) (by omega) _ _ _ _,fun b hq=>?_,set4 ((heap_setCell_other _ _ _ _ (by show B+1+1≠B;omega)).trans h2.b2) _ _ _ _⟩;rw [zbp (by omega),heap_setCell_other _ _ _ _ (by show b≠B;omega)]
theorem put_rep {w:World} {F:Nat->Prop} {ps:List (PV×PV)} {sl:Value} (hv:IsV w F (dctV ps) sl) (h5:∀y∈ps,y.1.kind=5) (key:List UInt8) {x:PV} {sx:Value} (hx:IsV w F x sx) (hm:ps.length<=400000) (hh:fIx key ps<ps.length) :
  Calls Tryz.prog 148 #[pvA (dctV ps) sl,.string (mkB key),pvA x sx] w fun e w'=>∃s',e=.returned (pvA (dctV (repK (.mk 5 0 key [],x) ps)) s')/\IsV w' (fun b=>F b\/w.heap.size<=b) (dctV (repK (.mk 5 0 key [],x) ps)) s'/\Below w.heap.size w w':=by
 obtain ⟨a1,cap1,e1,g1,g2,-⟩:=hv.len;subst e1;obtain ⟨ax,cx,ex,-⟩:=hx.len;subst ex;have Qp:=yb (fun (W:World) (h:Below w.heap.size w W)=>zhW (hv.below h) h5 key);obtain ⟨N,hN⟩:∃N,N=(dctV ps).l.length:=⟨_,rfl⟩;have QR:N=2*ps.length:=by rw [hN];exact zdy ps
 rw [<-hN] at hv g1 Qp |-;obtain ⟨A,hA⟩:∃A,A=zgC key ps:=⟨_,rfl⟩;rw [<-hA] at Qp;have HA:=yb hv;have m0:N<=800000:=by omega
 have m1:(N:Int)<=9223372036854775807:=by omega
 have Qk:=yb QR;have H5:=yb h5;have HX:=yb hx;have QT:=yb hh;obtain ⟨X,hX⟩:∃X:PV×PV,X=(.mk 5 0 key [],x):=⟨_,rfl⟩;rw [<-hX];unfold pvA at Qp |-;rw [show (dctV ps).kind=7 from rfl,show (dctV ps).n=0 from rfl,show mkB (dctV ps).s=⟨#[]⟩ from rfl] at Qp |-;obtain ⟨M,hM⟩:∃M,M=x.l.length:=⟨_,rfl⟩;rw [<-hM] at HX |-;obtain ⟨xk,QX⟩:∃k,k=x.kind:=⟨_,rfl⟩;obtain ⟨xn,QY⟩:∃k,k=x.n:=⟨_,rfl⟩;obtain ⟨xs,QZ⟩:∃k,k=mkB x.s:=⟨_,rfl⟩;rw [<-QX,<-QY,<-QZ];have Qu:=yb (show ∀(l:List PV) (cs:List Value),IsVs w F l cs->IsVs w F (l++[x]) (cs++[.int .i64 xk,.int .i64 xn,.string xs,.slice ax M cx]) from fun l cs h=>by rw [QX,QY,QZ];exact h.snoc HX.out);have Zw:=yb (fun (j:Nat) (y:PV×PV) (hy:ps[j]?=some y)=>show zaS ((repK X ps).take (j+1))=zaS ((repK X ps).take j)++[y.1,if j=fIx key ps then x else y.2] by subst hX;exact rep_step _ ps j y hy);have Z5:=yb (show (repK X ps).length=ps.length from rep_len X ps);obtain ⟨A',Yx,Z6⟩:∃A':Nat,A=(A':Int)/\A'=2*fIx key ps:=⟨2*fIx key ps,by rw [hA];unfold zgC;rw [yg hh],rfl⟩;subst Yx;have Qv:=yb Z6;have YQ:decide ((A':Int)<0)=false:=ye (by omega);have YR:(0:Int)<=(A':Int):=by omega
 clear Z6;generalize mkB key=ks at *;clear hv hN QR h5 hx hh hA hX hM QX QY QZ HX g1 g2;go_enter Tryz.func148,Tryz.ntmps148
 obtain ⟨B,hB⟩:∃B,B=w.heap.size:=⟨_,rfl⟩
 have QM:=yb (show PutM w (((w.alloc (.cells #[.int .i64 7,.int .i64 0,.string ⟨#[]⟩,.slice a1 N cap1] 25)).alloc (.cells #[.int .i64 xk,.int .i64 xn,.string xs,.slice ax M cx] 25)).alloc (.cells #[.int .i64 0,.int .i64 0,.string ⟨#[]⟩,.slice none 0 0] 25)) B #[.int .i64 7,.int .i64 0,.string ⟨#[]⟩,.slice a1 N cap1] #[.int .i64 xk,.int .i64 xn,.string xs,.slice ax M cx] from
  ⟨zal _ (zal _ (zac _ hB)),zal _ (zac _ (by rw [zaq,hB])),zac _ (by rw [zaq,zaq,hB]),zfL _ _ _ _,hB⟩)
 go_upto_region 1 with fail
 rw [<-hB];clear hB;generalize ((w.alloc _).alloc _).alloc _=W1 at *;obtain ⟨⟨c0,c1,c2,c3⟩,-⟩:=zad QM.out.b0;go_wp2_with fail
 refine (Qp.out _ QM.out.bel).mono ?_;rintro e W2 ⟨rfl,QB⟩;have HM:=yb (QM.out.keep QB);clear QB c0 c1 c2 c3 Qp QM;go_wp2
 go_loopw [7,9,10] (fun vo vd vk wr=>∃(j K n:Nat) (cs:List Value),vd=.bool false/\vk=.int .i64 K/\Hid (K=2*j)/\K<=N/\n<=K/\Hid (wr.ownsRow W2.heap.size 25 4 vo n cs)/\Hid (IsVs w F (zaS ((repK X ps).take j)) cs)/\Hid (Below W2.heap.size W2 wr)) (fun _ _ vk _=>N-(intOf vk).toNat)
 case atStart=>exact ⟨0,0,0,[],rfl,rfl,rfl,Nat.zero_le _,yp _,World.ownsRow_nil _ _ _ _,rfl,Below.refl _ _⟩
 case round =>
  obtain ⟨j,K,n,cs,rfl,rfl,HK,hK,hn,HO,HV,HB⟩:=hrel
  by_cases q1:K<N
  case neg =>
   have hd1:decide (K<N)=false:=ye q1;have QJ:decide ((K:Int)<(N:Int))=false:=ye (by omega);have Zd:¬(K:Int)<(N:Int):=by omega
   have Z7:zaS ((repK X ps).take j)=zaS (repK X ps):=by
    rw [List.take_of_length_le (by have h1:=HK.out;have h2:=Qk.out;have h3:=Z5.out;omega)]
   have Zo:=yb (Z7▸HV.out);obtain ⟨⟨c0,c1,c2,c3⟩,fz0,fz1,fz2,fz3⟩:=zad (HM.out.keep HB.out).b0;obtain ⟨⟨d0,d1,d2,d3⟩,-⟩:=zad (HM.out.keep HB.out).b1;obtain ⟨⟨x0,x1,x2,x3⟩,gz0,gz1,gz2,gz3⟩:=zad (HM.out.keep HB.out).b2;clear Z7 HK Zw Qv QT HV Qk Z5;obtain ⟨va,vc,Q0,-⟩:=zaB HO.out;subst Q0;go_wp2;obtain ⟨e1,e2,e3⟩:=zhw HM.out HB.out (.slice va n vc) (.int .i64 7) (.int .i64 0) (.string ⟨#[]⟩) (.slice va n vc);refine yi (results_cell_row rfl _ _ (B+1+1) 25 _ (0,0) _ rfl (by exact e3) Tryz.underlying25 rfl (by exact zav)) rfl ?_;exact ⟨(.slice va n vc),rfl,put_fin HO.out Zo.out HM.out.bel.size e2 e1 7,e1⟩
  have Qg:j<ps.length:=by
   have h1:=HK.out;have h2:=Qk.out;omega
  obtain ⟨y,hy⟩:∃y,ps[j]?=some y:=⟨_,List.getElem?_eq_getElem Qg⟩;obtain ⟨b1,o1,sy,sz,rfl,QC,QD,y0,y1,y2,y3,z0,z1,z2,z3⟩:=HA.out.pair hy;obtain ⟨ya,yc,rfl,-⟩:=QC.len;obtain ⟨za,zc,rfl,-⟩:=QD.len;rw [<-HK.out] at y0 y1 y2 y3 z0 z1 z2 z3;rw [H5.out y (List.mem_of_getElem? hy)] at y0;have HP:=yb (show PairAt w b1 o1 K 5 y.1.n (mkB y.1.s) (.slice ya y.1.l.length yc) y.2.kind y.2.n (mkB y.2.s) (.slice za y.2.l.length zc) from ⟨⟨y0,y1,y2,y3⟩,z0,z1,z2,z3⟩);clear y0 y1 y2 y3 z0 z1 z2 z3;have Qw:=yb (show ∀(l:List PV) (cs:List Value),IsVs w F l cs->IsVs w F (l++[y.1]) (cs++[.int .i64 5,.int .i64 y.1.n,.string (mkB y.1.s),.slice ya y.1.l.length yc]) from fun l cs h=>by have h2:=h.snoc QC;unfold pvC at h2;rw [H5.out y (List.mem_of_getElem? hy)] at h2;exact h2);have QE:=yb (show ∀(l:List PV) (cs:List Value),IsVs w F l cs->IsVs w F (l++[y.2]) (cs++[.int .i64 y.2.kind,.int .i64 y.2.n,.string (mkB y.2.s),.slice za y.2.l.length zc]) from fun l cs h=>h.snoc QD);have Z4:(0:Int)<=(K:Int):=by omega
  have Zn:(K:Int)<(N:Int):=by omega
  have hd1:decide (K<N)=true:=yd q1;have QJ:decide ((K:Int)<(N:Int))=true:=yd Zn;have QS:K+2<=N:=by have h1:=HK.out;have h2:=Qk.out;omega
  have ZO:(0:Int)<=(K:Int)+1:=by omega
  have Q1:(K:Int)+1<(N:Int):=by omega
  have Z8:decide ((K:Int)+1<(N:Int))=true:=yd Q1;have Yy:IntKind.i64.wrap ((K:Int)+1)=(K:Int)+1:=IntWalk.i64_in _ (by omega);have Yz:((K:Int)+1).toNat=K+1:=by omega
  have Qh:=Zw.out j y hy;obtain ⟨⟨c0,c1,c2,c3⟩,fz0,fz1,fz2,fz3⟩:=zad (HM.out.keep HB.out).b0;obtain ⟨⟨d0,d1,d2,d3⟩,-⟩:=zad (HM.out.keep HB.out).b1;obtain ⟨⟨y0,y1,y2,y3⟩,z0,z1,z2,z3⟩:=HP.out.keep (HM.out.keep HB.out).bel
  by_cases hj:j=fIx key ps
  ·rw [yg hj] at Qh
   have Ze:K=A':=by have h1:=Qv.out;have h2:=HK.out;omega
   have YA:((K:Int)==(A':Int))=true:=by rw [Ze];exact beq_self_eq_true _
   have YB:decide (K=A')=true:=yd Ze
   have Qf:=yb (show ∀cs',IsVs w F (zaS ((repK X ps).take j)) cs'->IsVs w F (zaS ((repK X ps).take (j+1))) ((cs'++[.int .i64 5,.int .i64 y.1.n,.string (mkB y.1.s),.slice ya y.1.l.length yc])++[.int .i64 xk,.int .i64 xn,.string xs,.slice ax M cx]) from fun cs' h=>by
    rw [Qh];have h2:=Qu.out _ _ (Qw.out _ _ h)
    rwa [List.append_assoc] at h2)
   clear Qh QC QD Qw QE Ze hj Qg hy Zw;generalize y.1.n=yn at *;generalize mkB y.1.s=ys at *;generalize y.1.l.length=yl at *;generalize y.2.kind=zk at *;generalize y.2.n=zn at *;generalize mkB y.2.s=zs at *;generalize y.2.l.length=zl at *
   go_upto_region 13 with (at_builtin;refine zaE EPV rfl _ _ rfl W2.heap.size _ n cs rfl (HO.out.alloc _) _ 1 _ _ rfl (zbN _ #[.int .i64 5,.int .i64 yn,.string ys,.slice ya yl yc] _ 4 rfl) (one4 _ _ _ _ _ _) (by unfold maxLen;omega) (by omega) (by rw [zaq];have:=HB.out.size;omega) ?_;intro v5 w5 hO5 hg5 _;have Ql:=yb hO5;have Qa:=yb (show Below W2.heap.size W2 w5 from (HB.out.alloc HB.out.size _).grown hg5 (by rw [zaq];have:=HB.out.size;omega) (fun q hq=>(HO.out.lt q hq).1));clear hO5 hg5)
   clear c0 c1 c2 c3 d0 d1 d2 d3 fz0 fz1 fz2 fz3 y0 y1 y2 y3 z0 z1 z2 z3;obtain ⟨⟨c0,c1,c2,c3⟩,fz0,fz1,fz2,fz3⟩:=zad (HM.out.keep Qa.out).b0;obtain ⟨⟨d0,d1,d2,d3⟩,-⟩:=zad (HM.out.keep Qa.out).b1;obtain ⟨⟨y0,y1,y2,y3⟩,z0,z1,z2,z3⟩:=HP.out.keep (HM.out.keep Qa.out).bel;go_wp2_with (at_builtin;refine zaE EPV rfl _ _ rfl W2.heap.size v5 (n+1) _ rfl (Ql.out.alloc _) _ 1 _ _ rfl (zbN _ #[.int .i64 xk,.int .i64 xn,.string xs,.slice ax M cx] _ 4 rfl) (one4 _ _ _ _ _ _) (by unfold maxLen;omega) (by omega) (by rw [zaq];have:=Qa.out.size;omega) ?_;intro v6 w6 hO6 hg6 _;have QF:=yb hO6;have Qe:=yb (show Below W2.heap.size W2 w6 from (Qa.out.alloc Qa.out.size _).grown hg6 (by rw [zaq];have:=Qa.out.size;omega) (fun q hq=>(Ql.out.lt q hq).1));clear hO6 hg6)
   go_roundw
   case rel=>exact ⟨j+1,K+2,n+1+1,_,rfl,by go_num,by have:=HK.out;show K+2=2*(j+1);omega,QS,by omega,QF,yb (Qf.out _ HV.out),Qe⟩
   case measure=>simp [intOf];omega
  ·rw [yh hj] at Qh
   have Ze:K≠A':=by have h1:=Qv.out;have h2:=HK.out;omega
   have YA:((K:Int)==(A':Int))=false:=by rw [yf];omega
   have YB:decide (K=A')=false:=ye Ze
   have Qf:=yb (show ∀cs',IsVs w F (zaS ((repK X ps).take j)) cs'->IsVs w F (zaS ((repK X ps).take (j+1))) ((cs'++[.int .i64 5,.int .i64 y.1.n,.string (mkB y.1.s),.slice ya y.1.l.length yc])++[.int .i64 y.2.kind,.int .i64 y.2.n,.string (mkB y.2.s),.slice za y.2.l.length zc]) from fun cs' h=>by
    rw [Qh];have h2:=QE.out _ _ (Qw.out _ _ h)
    rwa [List.append_assoc] at h2)
   clear Qh QC QD Qw QE Ze hj Qg hy Zw;generalize y.1.n=yn at *;generalize mkB y.1.s=ys at *;generalize y.1.l.length=yl at *;generalize y.2.kind=zk at *;generalize y.2.n=zn at *;generalize mkB y.2.s=zs at *;generalize y.2.l.length=zl at *
   go_upto_region 13 with (at_builtin;refine zaE EPV rfl _ _ rfl W2.heap.size _ n cs rfl (HO.out.alloc _) _ 1 _ _ rfl (zbN _ #[.int .i64 5,.int .i64 yn,.string ys,.slice ya yl yc] _ 4 rfl) (one4 _ _ _ _ _ _) (by unfold maxLen;omega) (by omega) (by rw [zaq];have:=HB.out.size;omega) ?_;intro v5 w5 hO5 hg5 _;have Ql:=yb hO5;have Qa:=yb (show Below W2.heap.size W2 w5 from (HB.out.alloc HB.out.size _).grown hg5 (by rw [zaq];have:=HB.out.size;omega) (fun q hq=>(HO.out.lt q hq).1));clear hO5 hg5)
   clear c0 c1 c2 c3 d0 d1 d2 d3 fz0 fz1 fz2 fz3 y0 y1 y2 y3 z0 z1 z2 z3;obtain ⟨⟨c0,c1,c2,c3⟩,fz0,fz1,fz2,fz3⟩:=zad (HM.out.keep Qa.out).b0;obtain ⟨⟨d0,d1,d2,d3⟩,-⟩:=zad (HM.out.keep Qa.out).b1;obtain ⟨⟨y0,y1,y2,y3⟩,z0,z1,z2,z3⟩:=HP.out.keep (HM.out.keep Qa.out).bel;go_wp2_with (at_builtin;refine zaE EPV rfl _ _ rfl W2.heap.size v5 (n+1) _ rfl (Ql.out.alloc _) _ 1 _ _ rfl (zbN _ #[.int .i64 zk,.int .i64 zn,.string zs,.slice za zl zc] _ 4 rfl) (one4 _ _ _ _ _ _) (by unfold maxLen;omega) (by omega) (by rw [zaq];have:=Qa.out.size;omega) ?_;intro v6 w6 hO6 hg6 _;have QF:=yb hO6;have Qe:=yb (show Below W2.heap.size W2 w6 from (Qa.out.alloc Qa.out.size _).grown hg6 (by rw [zaq];have:=Qa.out.size;omega) (fun q hq=>(Ql.out.lt q hq).1));clear hO6 hg6)
   go_roundw
   case rel=>exact ⟨j+1,K+2,n+1+1,_,rfl,by go_num,by have:=HK.out;show K+2=2*(j+1);omega,QS,by omega,QF,yb (Qf.out _ HV.out),Qe⟩
   case measure=>simp [intOf];omega
theorem put_ins {w:World} {F:Nat->Prop} {ps:List (PV×PV)} {sl:Value} (hv:IsV w F (dctV ps) sl) (h5:∀y∈ps,y.1.kind=5) (key:List UInt8) {x:PV} {sx:Value} (hx:IsV w F x sx) (hm:ps.length<=400000) (hh:¬fIx key ps<ps.length) :
  Calls Tryz.prog 148 #[pvA (dctV ps) sl,.string (mkB key),pvA x sx] w fun e w'=>∃s',e=.returned (pvA (dctV (insK (.mk 5 0 key [],x) ps)) s')/\IsV w' (fun b=>F b\/w.heap.size<=b) (dctV (insK (.mk 5 0 key [],x) ps)) s'/\Below w.heap.size w w':=by
 obtain ⟨a1,cap1,e1,g1,g2,-⟩:=hv.len;subst e1;obtain ⟨ax,cx,ex,-⟩:=hx.len;subst ex;have Qp:=yb (fun (W:World) (h:Below w.heap.size w W)=>zhW (hv.below h) h5 key);obtain ⟨N,hN⟩:∃N,N=(dctV ps).l.length:=⟨_,rfl⟩;have QR:N=2*ps.length:=by rw [hN];exact zdy ps
 rw [<-hN] at hv g1 Qp |-;obtain ⟨A,hA⟩:∃A,A=zgC key ps:=⟨_,rfl⟩;rw [<-hA] at Qp;have HA:=yb hv;have m0:N<=800000:=by omega
 have m1:(N:Int)<=9223372036854775807:=by omega
 have Qk:=yb QR;have H5:=yb h5;have HX:=yb hx;have QT:=yb hh;obtain ⟨X,hX⟩:∃X:PV×PV,X=(.mk 5 0 key [],x):=⟨_,rfl⟩;rw [<-hX];unfold pvA at Qp |-;rw [show (dctV ps).kind=7 from rfl,show (dctV ps).n=0 from rfl,show mkB (dctV ps).s=⟨#[]⟩ from rfl] at Qp |-;obtain ⟨M,hM⟩:∃M,M=x.l.length:=⟨_,rfl⟩;rw [<-hM] at HX |-;obtain ⟨xk,QX⟩:∃k,k=x.kind:=⟨_,rfl⟩;obtain ⟨xn,QY⟩:∃k,k=x.n:=⟨_,rfl⟩;obtain ⟨xs,QZ⟩:∃k,k=mkB x.s:=⟨_,rfl⟩;rw [<-QX,<-QY,<-QZ];have Qu:=yb (show ∀(l:List PV) (cs:List Value),IsVs w F l cs->IsVs w F (l++[x]) (cs++[.int .i64 xk,.int .i64 xn,.string xs,.slice ax M cx]) from fun l cs h=>by rw [QX,QY,QZ];exact h.snoc HX.out);obtain rfl:A=-1:=by rw [hA];unfold zgC;rw [yh hh]
 have Qo:=yb (fun (j:Nat) (y:PV×PV) (hy:ps[j]?=some y) (hj:j≠gIx key ps)=>show zaS (insT X ps (j+1))=zaS (insT X ps j)++[y.1,y.2] by subst hX;exact insT_step _ ps j y hy hj);have QN:=yb (fun (j:Nat) (y:PV×PV) (hy:ps[j]?=some y) (hj:j=gIx key ps)=>show zaS (insT X ps (j+1))=zaS (insT X ps j)++[PV.mk 5 0 key [],x,y.1,y.2] by subst hX;subst hj;exact insT_here _ ps y hy);have Zf:=yb (show insK X ps=if gIx key ps<ps.length then insT X ps ps.length else insT X ps ps.length++[(PV.mk 5 0 key [],x)] by subst hX;exact insT_end _ ps);have Q2:=yb (show ∀(l:List PV) (cs:List Value),IsVs w F l cs->IsVs w F (l++[PV.mk 5 0 key []]) (cs++[.int .i64 5,.int .i64 0,.string (mkB key),.slice none 0 0]) from fun l cs h=>h.snoc (IsV.leaf w F (PV.mk 5 0 key []) rfl));have YC:=yb (show insT X ps 0=[] from insT_zero X ps);have Zx:=yb (fun (a:List UInt8)=>show Op.bytesLess (mkB key).toList (mkB a).toList=sLt key a by rw [zaj,zaj,zce]);have Zy:=yb (fun (a:List UInt8)=>show Op.bytesLess (mkB a).toList (mkB key).toList=sLt a key by rw [zaj,zaj,zce]);have Zz:=yb (fun (a:List UInt8)=>show ((mkB a).toList==(mkB key).toList)=decide (a=key) by rw [zaj key];exact zcl a key);have ZA:=yb (fun (a:List UInt8)=>show ((mkB key).toList==(mkB a).toList)=decide (key=a) by rw [zaj a];exact zcl key a);generalize mkB key=ks at *;clear hv hN QR h5 hx hh hA hX hM QX QY QZ HX g1 g2;go_enter Tryz.func148,Tryz.ntmps148
 obtain ⟨B,hB⟩:∃B,B=w.heap.size:=⟨_,rfl⟩
 have QM:=yb (show PutM w (((w.alloc (.cells #[.int .i64 7,.int .i64 0,.string ⟨#[]⟩,.slice a1 N cap1] 25)).alloc (.cells #[.int .i64 xk,.int .i64 xn,.string xs,.slice ax M cx] 25)).alloc (.cells #[.int .i64 0,.int .i64 0,.string ⟨#[]⟩,.slice none 0 0] 25)) B #[.int .i64 7,.int .i64 0,.string ⟨#[]⟩,.slice a1 N cap1] #[.int .i64 xk,.int .i64 xn,.string xs,.slice ax M cx] from
  ⟨zal _ (zal _ (zac _ hB)),zal _ (zac _ (by rw [zaq,hB])),zac _ (by rw [zaq,zaq,hB]),zfL _ _ _ _,hB⟩)
 go_upto_region 1 with fail
 rw [<-hB];clear hB;generalize ((w.alloc _).alloc _).alloc _=W1 at *;obtain ⟨⟨c0,c1,c2,c3⟩,-⟩:=zad QM.out.b0;go_wp2_with fail
 refine (Qp.out _ QM.out.bel).mono ?_;rintro e W2 ⟨rfl,QB⟩;have HM:=yb (QM.out.keep QB);clear QB c0 c1 c2 c3 Qp QM;go_wp2
 go_loopw [7,9,10] (fun vo vd vk wr=>∃(j K n:Nat) (cs:List Value) (d:Bool),vd=.bool d/\vk=.int .i64 K/\Hid (d=decide (gIx key ps<j))/\Hid (K=2*j)/\K<=N/\n<=K+2/\Hid (d=false->n<=K)/\Hid (wr.ownsRow W2.heap.size 25 4 vo n cs)/\Hid (IsVs w F (zaS (insT X ps j)) cs)/\Hid (Below W2.heap.size W2 wr)) (fun _ _ vk _=>N-(intOf vk).toNat)
 case atStart=>exact ⟨0,0,0,[],false,rfl,rfl,yb (ye (Nat.not_lt_zero _)).symm,rfl,Nat.zero_le _,Nat.zero_le _,yb fun _=>yp _,World.ownsRow_nil _ _ _ _,yb (by rw [YC.out];rfl),Below.refl _ _⟩
 case round =>
  obtain ⟨j,K,n,cs,d,rfl,rfl,HD,HK,hK,hn,QU,HO,HV,HB⟩:=hrel
  by_cases q1:K<N
  case neg =>
   have hd1:decide (K<N)=false:=ye q1;have QJ:decide ((K:Int)<(N:Int))=false:=ye (by omega);have Zd:¬(K:Int)<(N:Int):=by omega
   have Qg:j=ps.length:=by have h1:=HK.out;have h2:=Qk.out;omega
   have Zg:=Zf.out;obtain ⟨va,vc,Q0,-⟩:=zaB HO.out;subst Q0
   cases d with
   | true =>
    have hg:gIx key ps<ps.length:=by
     have h1:=of_decide_eq_true HD.out.symm;omega
    rw [yg hg,<-Qg] at Zg;have Zo:=yb (show IsVs w F (zaS (insK X ps)) cs by rw [Zg];exact HV.out);obtain ⟨⟨c0,c1,c2,c3⟩,fz0,fz1,fz2,fz3⟩:=zad (HM.out.keep HB.out).b0;obtain ⟨⟨d0,d1,d2,d3⟩,-⟩:=zad (HM.out.keep HB.out).b1;obtain ⟨⟨x0,x1,x2,x3⟩,gz0,gz1,gz2,gz3⟩:=zad (HM.out.keep HB.out).b2;clear Zg Zf hg Qg HK Qo QN QT HV Qk Zx Zy Zz ZA HD QU Q2 Qu;go_wp2;obtain ⟨e1,e2,e3⟩:=zhw HM.out HB.out (.slice va n vc) (.int .i64 7) (.int .i64 0) (.string ⟨#[]⟩) (.slice va n vc);refine yi (results_cell_row rfl _ _ (B+1+1) 25 _ (0,0) _ rfl (by exact e3) Tryz.underlying25 rfl (by exact zav)) rfl ?_;exact ⟨(.slice va n vc),rfl,put_fin HO.out Zo.out HM.out.bel.size e2 e1 7,e1⟩
   | false =>
    have hg:¬gIx key ps<ps.length:=by
     have h1:=of_decide_eq_false HD.out.symm;omega
    rw [yh hg,<-Qg] at Zg
    have Zo:=yb (show IsVs w F (zaS (insK X ps)) (cs++[.int .i64 5,.int .i64 0,.string ks,.slice none 0 0,.int .i64 xk,.int .i64 xn,.string xs,.slice ax M cx]) by
     rw [Zg,zem];have h2:=Qu.out _ _ (Q2.out _ _ HV.out);rw [List.append_assoc,List.append_assoc] at h2;exact h2)
    have Z9:=QU.out rfl;obtain ⟨⟨c0,c1,c2,c3⟩,fz0,fz1,fz2,fz3⟩:=zad (HM.out.keep HB.out).b0;obtain ⟨⟨d0,d1,d2,d3⟩,-⟩:=zad (HM.out.keep HB.out).b1;obtain ⟨⟨x0,x1,x2,x3⟩,gz0,gz1,gz2,gz3⟩:=zad (HM.out.keep HB.out).b2;clear Zg Zf hg Qg HK Qo QN QT HV Qk Zx Zy Zz ZA HD QU Q2 Qu
    go_upto_region 19 with (at_builtin;refine zaE EPV rfl _ _ rfl W2.heap.size _ n cs rfl (HO.out.alloc _) _ 2 _ _ rfl (row_newM2 _ #[.int .i64 5,.int .i64 0,.string ks,.slice none 0 0,.int .i64 xk,.int .i64 xn,.string xs,.slice ax M cx] _ rfl) (one8 _ _ _ _ _ _ _ _ _ _ _ _) (by unfold maxLen;omega) (by omega) (by rw [zaq];have:=HB.out.size;omega) ?_;intro v5 w5 hO5 hg5 _;have Ql:=yb hO5;have Qa:=yb (show Below W2.heap.size W2 w5 from (HB.out.alloc HB.out.size _).grown hg5 (by rw [zaq];have:=HB.out.size;omega) (fun q hq=>(HO.out.lt q hq).1));clear hO5 hg5)
    obtain ⟨va5,vc5,ZP,-⟩:=zaB Ql.out;subst ZP;clear c0 c1 c2 c3 d0 d1 d2 d3 fz0 fz1 fz2 fz3 x0 x1 x2 x3 gz0 gz1 gz2 gz3;obtain ⟨⟨c0,c1,c2,c3⟩,fz0,fz1,fz2,fz3⟩:=zad (HM.out.keep Qa.out).b0;obtain ⟨⟨d0,d1,d2,d3⟩,-⟩:=zad (HM.out.keep Qa.out).b1;obtain ⟨⟨x0,x1,x2,x3⟩,gz0,gz1,gz2,gz3⟩:=zad (HM.out.keep Qa.out).b2;go_wp2;obtain ⟨e1,e2,e3⟩:=zhw HM.out Qa.out (.slice va5 (n+2) vc5) (.int .i64 7) (.int .i64 0) (.string ⟨#[]⟩) (.slice va5 (n+2) vc5);refine yi (results_cell_row rfl _ _ (B+1+1) 25 _ (0,0) _ rfl (by exact e3) Tryz.underlying25 rfl (by exact zav)) rfl ?_;exact ⟨(.slice va5 (n+2) vc5),rfl,put_fin Ql.out Zo.out HM.out.bel.size e2 e1 7,e1⟩
  have Qg:j<ps.length:=by
   have h1:=HK.out;have h2:=Qk.out;omega
  obtain ⟨y,hy⟩:∃y,ps[j]?=some y:=⟨_,List.getElem?_eq_getElem Qg⟩;obtain ⟨b1,o1,sy,sz,rfl,QC,QD,y0,y1,y2,y3,z0,z1,z2,z3⟩:=HA.out.pair hy;obtain ⟨ya,yc,rfl,-⟩:=QC.len;obtain ⟨za,zc,rfl,-⟩:=QD.len;rw [<-HK.out] at y0 y1 y2 y3 z0 z1 z2 z3;rw [H5.out y (List.mem_of_getElem? hy)] at y0;have HP:=yb (show PairAt w b1 o1 K 5 y.1.n (mkB y.1.s) (.slice ya y.1.l.length yc) y.2.kind y.2.n (mkB y.2.s) (.slice za y.2.l.length zc) from ⟨⟨y0,y1,y2,y3⟩,z0,z1,z2,z3⟩);clear y0 y1 y2 y3 z0 z1 z2 z3;have Qw:=yb (show ∀(l:List PV) (cs:List Value),IsVs w F l cs->IsVs w F (l++[y.1]) (cs++[.int .i64 5,.int .i64 y.1.n,.string (mkB y.1.s),.slice ya y.1.l.length yc]) from fun l cs h=>by have h2:=h.snoc QC;unfold pvC at h2;rw [H5.out y (List.mem_of_getElem? hy)] at h2;exact h2);have QE:=yb (show ∀(l:List PV) (cs:List Value),IsVs w F l cs->IsVs w F (l++[y.2]) (cs++[.int .i64 y.2.kind,.int .i64 y.2.n,.string (mkB y.2.s),.slice za y.2.l.length zc]) from fun l cs h=>h.snoc QD);have Z4:(0:Int)<=(K:Int):=by omega
  have Zn:(K:Int)<(N:Int):=by omega
  have hd1:decide (K<N)=true:=yd q1;have QJ:decide ((K:Int)<(N:Int))=true:=yd Zn;have QS:K+2<=N:=by have h1:=HK.out;have h2:=Qk.out;omega
  have ZO:(0:Int)<=(K:Int)+1:=by omega
  have Q1:(K:Int)+1<(N:Int):=by omega
  have Z8:decide ((K:Int)+1<(N:Int))=true:=yd Q1;have Yy:IntKind.i64.wrap ((K:Int)+1)=(K:Int)+1:=IntWalk.i64_in _ (by omega);have Yz:((K:Int)+1).toNat=K+1:=by omega
  have YS:((K:Int)==-1)=false:=by rw [yf];omega
  have Zh:y.1.s≠key:=fIx_ne key ps j y (by have h1:=QT.out;have h2:=fIx_le key ps;omega) hy;have c4:=Zx.out y.1.s;have c5:=Zy.out y.1.s;have c6:=Zz.out y.1.s;have c7:=ZA.out y.1.s;rw [ye Zh] at c6;rw [ye (fun e=>Zh e.symm)] at c7;clear Zx Zy Zz ZA
  by_cases hj:j=gIx key ps
  ·have Q3:sLt key y.1.s=true:=gIx_yes key ps y (by rw [<-hj];exact hy)
   rw [Q3] at c4;rw [zfb _ _ Q3] at c5;obtain rfl:d=false:=by rw [HD.out];exact ye (by omega)
   have Zp:=yb (show true=decide (gIx key ps<j+1) from (yd (by omega)).symm);have Qh:=QN.out j y hy hj;have Z9:=QU.out rfl
   have Qf:=yb (show ∀cs',IsVs w F (zaS (insT X ps j)) cs'->IsVs w F (zaS (insT X ps (j+1))) (((cs'++[.int .i64 5,.int .i64 0,.string ks,.slice none 0 0,.int .i64 xk,.int .i64 xn,.string xs,.slice ax M cx])++[.int .i64 5,.int .i64 y.1.n,.string (mkB y.1.s),.slice ya y.1.l.length yc])++[.int .i64 y.2.kind,.int .i64 y.2.n,.string (mkB y.2.s),.slice za y.2.l.length zc]) from fun cs' h=>by
    rw [Qh];have h2:=QE.out _ _ (Qw.out _ _ (Qu.out _ _ (Q2.out _ _ h)));rw [List.append_assoc,List.append_assoc,List.append_assoc,List.append_assoc cs'] at h2;exact h2)
   clear Qh QC QD Qw QE Qu Q2 hj Qg hy Qo QN Zf HD QU QT Q3 Zh H5 Qk HA;generalize y.1.n=yn at *;generalize mkB y.1.s=ys at *;generalize y.1.l.length=yl at *;generalize y.2.kind=zk at *;generalize y.2.n=zn at *;generalize mkB y.2.s=zs at *;generalize y.2.l.length=zl at *;obtain ⟨⟨c0,c1,c2,c3⟩,fz0,fz1,fz2,fz3⟩:=zad (HM.out.keep HB.out).b0;obtain ⟨⟨d0,d1,d2,d3⟩,-⟩:=zad (HM.out.keep HB.out).b1;obtain ⟨⟨y0,y1,y2,y3⟩,z0,z1,z2,z3⟩:=HP.out.keep (HM.out.keep HB.out).bel
   go_upto_region 12 with (at_builtin;refine zaE EPV rfl _ _ rfl W2.heap.size _ n _ rfl (HO.out.alloc _) _ 2 _ _ rfl (row_newM2 _ #[.int .i64 5,.int .i64 0,.string ks,.slice none 0 0,.int .i64 xk,.int .i64 xn,.string xs,.slice ax M cx] _ rfl) (one8 _ _ _ _ _ _ _ _ _ _ _ _) (by unfold maxLen;omega) (by omega) (by rw [zaq];have:=HB.out.size;omega) ?_;intro v5 w5 hO5 hg5 _;have Ql:=yb hO5;have Qa:=yb (show Below W2.heap.size W2 w5 from (HB.out.alloc HB.out.size _).grown hg5 (by rw [zaq];have:=HB.out.size;omega) (fun q hq=>(HO.out.lt q hq).1));clear hO5 hg5)
   clear c0 c1 c2 c3 d0 d1 d2 d3 fz0 fz1 fz2 fz3 y0 y1 y2 y3 z0 z1 z2 z3;obtain ⟨⟨c0,c1,c2,c3⟩,fz0,fz1,fz2,fz3⟩:=zad (HM.out.keep Qa.out).b0;obtain ⟨⟨d0,d1,d2,d3⟩,-⟩:=zad (HM.out.keep Qa.out).b1;obtain ⟨⟨y0,y1,y2,y3⟩,z0,z1,z2,z3⟩:=HP.out.keep (HM.out.keep Qa.out).bel
   go_upto_region 13 with (at_builtin;refine zaE EPV rfl _ _ rfl W2.heap.size v5 (n+2) _ rfl (Ql.out.alloc _) _ 1 _ _ rfl (zbN _ #[.int .i64 5,.int .i64 yn,.string ys,.slice ya yl yc] _ 4 rfl) (one4 _ _ _ _ _ _) (by unfold maxLen;omega) (by omega) (by rw [zaq];have:=Qa.out.size;omega) ?_;intro v6 w6 hO6 hg6 _;have QF:=yb hO6;have Qe:=yb (show Below W2.heap.size W2 w6 from (Qa.out.alloc Qa.out.size _).grown hg6 (by rw [zaq];have:=Qa.out.size;omega) (fun q hq=>(Ql.out.lt q hq).1));clear hO6 hg6)
   clear c0 c1 c2 c3 d0 d1 d2 d3 fz0 fz1 fz2 fz3 y0 y1 y2 y3 z0 z1 z2 z3;obtain ⟨⟨c0,c1,c2,c3⟩,fz0,fz1,fz2,fz3⟩:=zad (HM.out.keep Qe.out).b0;obtain ⟨⟨d0,d1,d2,d3⟩,-⟩:=zad (HM.out.keep Qe.out).b1;obtain ⟨⟨y0,y1,y2,y3⟩,z0,z1,z2,z3⟩:=HP.out.keep (HM.out.keep Qe.out).bel;go_wp2_with (at_builtin;refine zaE EPV rfl _ _ rfl W2.heap.size v6 ((n+2)+1) _ rfl (QF.out.alloc _) _ 1 _ _ rfl (zbN _ #[.int .i64 zk,.int .i64 zn,.string zs,.slice za zl zc] _ 4 rfl) (one4 _ _ _ _ _ _) (by unfold maxLen;omega) (by omega) (by rw [zaq];have:=Qe.out.size;omega) ?_;intro v7 w7 hO7 hg7 _;have YD:=yb hO7;have YE:=yb (show Below W2.heap.size W2 w7 from (Qe.out.alloc Qe.out.size _).grown hg7 (by rw [zaq];have:=Qe.out.size;omega) (fun q hq=>(QF.out.lt q hq).1));clear hO7 hg7)
   go_roundw
   case rel=>exact ⟨j+1,K+2,(n+2)+1+1,_,true,rfl,by go_num,Zp,by have:=HK.out;show K+2=2*(j+1);omega,QS,by omega,yb (fun h=>(by cases h)),YD,yb (Qf.out _ HV.out),YE⟩
   case measure=>simp [intOf];omega
  by_cases hj2:j<gIx key ps
  ·have Q3:sLt key y.1.s=false:=gIx_no key ps j y hj2 hy
   have Ya:sLt y.1.s key=true:=zcM _ _ Q3 (fun e=>Zh e.symm);rw [Q3] at c4;rw [Ya] at c5;obtain rfl:d=false:=by rw [HD.out];exact ye (by omega)
   have Zp:=yb (show false=decide (gIx key ps<j+1) from (ye (by omega)).symm);have Z9:=QU.out rfl;have Qh:=Qo.out j y hy hj
   have Qf:=yb (show ∀cs',IsVs w F (zaS (insT X ps j)) cs'->IsVs w F (zaS (insT X ps (j+1))) ((cs'++[.int .i64 5,.int .i64 y.1.n,.string (mkB y.1.s),.slice ya y.1.l.length yc])++[.int .i64 y.2.kind,.int .i64 y.2.n,.string (mkB y.2.s),.slice za y.2.l.length zc]) from fun cs' h=>by
    rw [Qh];have h2:=QE.out _ _ (Qw.out _ _ h)
    rwa [List.append_assoc] at h2)
   clear Qh QC QD Qw QE Qu Q2 hj Qg hy Qo QN Zf HD QU QT Q3 Ya H5 Qk HA hj2 Zh;generalize y.1.n=yn at *;generalize mkB y.1.s=ys at *;generalize y.1.l.length=yl at *;generalize y.2.kind=zk at *;generalize y.2.n=zn at *;generalize mkB y.2.s=zs at *;generalize y.2.l.length=zl at *;obtain ⟨⟨c0,c1,c2,c3⟩,fz0,fz1,fz2,fz3⟩:=zad (HM.out.keep HB.out).b0;obtain ⟨⟨d0,d1,d2,d3⟩,-⟩:=zad (HM.out.keep HB.out).b1;obtain ⟨⟨y0,y1,y2,y3⟩,z0,z1,z2,z3⟩:=HP.out.keep (HM.out.keep HB.out).bel
   go_upto_region 13 with (at_builtin;refine zaE EPV rfl _ _ rfl W2.heap.size _ n _ rfl (HO.out.alloc _) _ 1 _ _ rfl (zbN _ #[.int .i64 5,.int .i64 yn,.string ys,.slice ya yl yc] _ 4 rfl) (one4 _ _ _ _ _ _) (by unfold maxLen;omega) (by omega) (by rw [zaq];have:=HB.out.size;omega) ?_;intro v5 w5 hO5 hg5 _;have Ql:=yb hO5;have Qa:=yb (show Below W2.heap.size W2 w5 from (HB.out.alloc HB.out.size _).grown hg5 (by rw [zaq];have:=HB.out.size;omega) (fun q hq=>(HO.out.lt q hq).1));clear hO5 hg5)
   clear c0 c1 c2 c3 d0 d1 d2 d3 fz0 fz1 fz2 fz3 y0 y1 y2 y3 z0 z1 z2 z3;obtain ⟨⟨c0,c1,c2,c3⟩,fz0,fz1,fz2,fz3⟩:=zad (HM.out.keep Qa.out).b0;obtain ⟨⟨d0,d1,d2,d3⟩,-⟩:=zad (HM.out.keep Qa.out).b1;obtain ⟨⟨y0,y1,y2,y3⟩,z0,z1,z2,z3⟩:=HP.out.keep (HM.out.keep Qa.out).bel;go_wp2_with (at_builtin;refine zaE EPV rfl _ _ rfl W2.heap.size v5 (n+1) _ rfl (Ql.out.alloc _) _ 1 _ _ rfl (zbN _ #[.int .i64 zk,.int .i64 zn,.string zs,.slice za zl zc] _ 4 rfl) (one4 _ _ _ _ _ _) (by unfold maxLen;omega) (by omega) (by rw [zaq];have:=Qa.out.size;omega) ?_;intro v6 w6 hO6 hg6 _;have QF:=yb hO6;have Qe:=yb (show Below W2.heap.size W2 w6 from (Qa.out.alloc Qa.out.size _).grown hg6 (by rw [zaq];have:=Qa.out.size;omega) (fun q hq=>(Ql.out.lt q hq).1));clear hO6 hg6)
   go_roundw
   case rel=>exact ⟨j+1,K+2,n+1+1,_,false,rfl,by go_num,Zp,by have:=HK.out;show K+2=2*(j+1);omega,QS,by omega,yb (fun _=>(by omega)),QF,yb (Qf.out _ HV.out),Qe⟩
   case measure=>simp [intOf];omega
  ·obtain rfl:d=true:=by rw [HD.out];exact yd (by omega)
   have Zp:=yb (show true=decide (gIx key ps<j+1) from (yd (by omega)).symm);have Qh:=Qo.out j y hy hj
   have Qf:=yb (show ∀cs',IsVs w F (zaS (insT X ps j)) cs'->IsVs w F (zaS (insT X ps (j+1))) ((cs'++[.int .i64 5,.int .i64 y.1.n,.string (mkB y.1.s),.slice ya y.1.l.length yc])++[.int .i64 y.2.kind,.int .i64 y.2.n,.string (mkB y.2.s),.slice za y.2.l.length zc]) from fun cs' h=>by
    rw [Qh];have h2:=QE.out _ _ (Qw.out _ _ h)
    rwa [List.append_assoc] at h2)
   clear Qh QC QD Qw QE Qu Q2 hj Qg hy Qo QN Zf HD QU QT  H5 Qk HA hj2 Zh c4 c5 c6 c7;generalize y.1.n=yn at *;generalize mkB y.1.s=ys at *;generalize y.1.l.length=yl at *;generalize y.2.kind=zk at *;generalize y.2.n=zn at *;generalize mkB y.2.s=zs at *;generalize y.2.l.length=zl at *;obtain ⟨⟨c0,c1,c2,c3⟩,fz0,fz1,fz2,fz3⟩:=zad (HM.out.keep HB.out).b0;obtain ⟨⟨d0,d1,d2,d3⟩,-⟩:=zad (HM.out.keep HB.out).b1;obtain ⟨⟨y0,y1,y2,y3⟩,z0,z1,z2,z3⟩:=HP.out.keep (HM.out.keep HB.out).bel
   go_upto_region 13 with (at_builtin;refine zaE EPV rfl _ _ rfl W2.heap.size _ n _ rfl (HO.out.alloc _) _ 1 _ _ rfl (zbN _ #[.int .i64 5,.int .i64 yn,.string ys,.slice ya yl yc] _ 4 rfl) (one4 _ _ _ _ _ _) (by unfold maxLen;omega) (by omega) (by rw [zaq];have:=HB.out.size;omega) ?_;intro v5 w5 hO5 hg5 _;have Ql:=yb hO5;have Qa:=yb (show Below W2.heap.size W2 w5 from (HB.out.alloc HB.out.size _).grown hg5 (by rw [zaq];have:=HB.out.size;omega) (fun q hq=>(HO.out.lt q hq).1));clear hO5 hg5)
   clear c0 c1 c2 c3 d0 d1 d2 d3 fz0 fz1 fz2 fz3 y0 y1 y2 y3 z0 z1 z2 z3;obtain ⟨⟨c0,c1,c2,c3⟩,fz0,fz1,fz2,fz3⟩:=zad (HM.out.keep Qa.out).b0;obtain ⟨⟨d0,d1,d2,d3⟩,-⟩:=zad (HM.out.keep Qa.out).b1;obtain ⟨⟨y0,y1,y2,y3⟩,z0,z1,z2,z3⟩:=HP.out.keep (HM.out.keep Qa.out).bel;go_wp2_with (at_builtin;refine zaE EPV rfl _ _ rfl W2.heap.size v5 (n+1) _ rfl (Ql.out.alloc _) _ 1 _ _ rfl (zbN _ #[.int .i64 zk,.int .i64 zn,.string zs,.slice za zl zc] _ 4 rfl) (one4 _ _ _ _ _ _) (by unfold maxLen;omega) (by omega) (by rw [zaq];have:=Qa.out.size;omega) ?_;intro v6 w6 hO6 hg6 _;have QF:=yb hO6;have Qe:=yb (show Below W2.heap.size W2 w6 from (Qa.out.alloc Qa.out.size _).grown hg6 (by rw [zaq];have:=Qa.out.size;omega) (fun q hq=>(Ql.out.lt q hq).1));clear hO6 hg6)
   go_roundw
   case rel=>exact ⟨j+1,K+2,n+1+1,_,true,rfl,by go_num,Zp,by have:=HK.out;show K+2=2*(j+1);omega,QS,by omega,yb (fun h=>(by cases h)),QF,yb (Qf.out _ HV.out),Qe⟩
   case measure=>simp [intOf];omega
theorem put_any {w:World} {F:Nat->Prop} {ps:List (PV×PV)} {sl:Value} (hv:IsV w F (dctV ps) sl) (h5:∀y∈ps,y.1.kind=5) (key:List UInt8) {x:PV} {sx:Value} (hx:IsV w F x sx) (hm:ps.length<=400000) :
  Calls Tryz.prog 148 #[pvA (dctV ps) sl,.string (mkB key),pvA x sx] w fun e w'=>∃s',e=.returned (pvA (dctV (putK (.mk 5 0 key [],x) ps)) s')/\IsV w' (fun b=>F b\/w.heap.size<=b) (dctV (putK (.mk 5 0 key [],x) ps)) s'/\Below w.heap.size w w':=by
 have hk:=fIx_has key ps;have hu:putK (PV.mk 5 0 key [],x) ps=if hasK key ps then repK (PV.mk 5 0 key [],x) ps else insK (PV.mk 5 0 key [],x) ps:=rfl;rw [hu,hk]
 by_cases h:fIx key ps<ps.length
 ·rw [yg (yd h)]
  exact put_rep hv h5 key hx hm h
 ·rw [yh (by rw [ye h];decide)]
  exact put_ins hv h5 key hx hm h
mutual
theorem IsV.lt {w:World} {F:Nat->Prop}:∀(v:PV) {sl:Value},IsV w F v sl->IsV w (fun b=>F b/\b<w.heap.size) v sl
 | .mk _ _ _ l,_,⟨a,cap,cs,h,hr,hF,hs⟩=>⟨a,cap,cs,h,hr,fun h0 x hx=>⟨hF h0 x hx,by
   obtain ⟨b,off,ha,hb,_⟩:=hr.2.2.2.2 h0;rw [ha] at hx
   cases hx
   exact hb⟩,IsVs.lt l hs⟩
theorem IsVs.lt {w:World} {F:Nat->Prop}:∀(l:List PV) {cs:List Value},IsVs w F l cs->IsVs w (fun b=>F b/\b<w.heap.size) l cs
 | [],_,h=>h
 | v::l,_,⟨sl,t,h,hv,ht⟩=>⟨sl,t,h,IsV.lt v hv,IsVs.lt l ht⟩
end
theorem zaU.weakenF {F G:Nat->Prop} {w w':World} (h:zaU F w w') (hG:∀b,G b->F b):zaU G w w':=⟨h.1,fun b hb hf=>h.2 b hb (hG b hf)⟩
def ArrM (Q:Nat) (w:World) (v:Value) (n:Nat) (l:List PV):Prop:=∃cs,w.ownsRow Q 25 4 v n cs/\IsVs w (fun b=>Q<=b/\b<w.heap.size/\v.ownBlock≠some b) l cs
theorem ArrM.keep {Q:Nat} {w W:World} {v:Value} {n:Nat} {l:List PV} (h:ArrM Q w v n l) (hb:Below w.heap.size w W):ArrM Q W v n l :=
 let ⟨cs,h1,h2⟩:=h
 ⟨cs,zbh h1 hb,IsVs.keep (zaU.of_below hb) (fun _ h=>⟨h.1,Nat.lt_of_lt_of_le h.2.1 hb.size,h.2.2⟩) _ h2⟩
theorem ArrM.push {Q:Nat} {w w':World} {v v':Value} {n:Nat} {l:List PV} {cs:List Value} (h2:IsVs w (fun b=>Q<=b/\b<w.heap.size/\v.ownBlock≠some b) l cs) {x:PV} {sx:Value} (hx:IsV w (fun b=>Q<=b/\b<w.heap.size/\v.ownBlock≠some b) x sx) {o:Obj}
  (hO:w'.ownsRow Q 25 4 v' (n+1) (cs++pvC x sx)) (hg:(w.alloc o).grownBy w' v.ownBlock) (hn:NewAt (w.alloc o) v v'):ArrM Q w' v' (n+1) (l++[x]):=by
 have hs:w.heap.size<=w'.heap.size:=Nat.le_trans (by rw [zaq];omega) hg.size;refine ⟨_,hO,IsVs.keep (F:=fun b=>Q<=b/\b<w.heap.size/\v.ownBlock≠some b) ⟨hs,fun b hb hF=>?_⟩ (fun b hF=>⟨hF.1,Nat.lt_of_lt_of_le hF.2.1 hs,fun e=>?_⟩) _ (h2.snoc hx)⟩
 ·rw [hg.block b (by rw [zaq];omega) (fun e=>hF.2.2 e.symm)]
  exact (zai w o).block b hb
 ·rcases hn b e with e|e
  ·exact hF.2.2 e
  ·rw [zaq] at e;omega
def ValD (bs:List UInt8) (yq:Bool) (d:Nat):Prop:=∀(w:World) (a:Option Addr) (cap:Nat),Row w 1 a bs.length cap (bs.map u8C)->∀(x:Tk) (f tt:Int),
 Calls Tryz.prog 69 #[.slice a bs.length cap,.agg (tokN x f tt),.bool yq,.int .i64 (64-(d:Int))] w (zca w (vlD bs yq d x tt))
theorem array_doc {w:World} {a:Option Addr} {cap:Nat} {bs:List UInt8} (hr:Row w 1 a bs.length cap (bs.map u8C)) (hn:bs.length<=400000) (yq:Bool) (d:Nat) (k0:Int) (hv:ValD bs yq d) :
  Calls Tryz.prog 111 #[.slice a bs.length cap,.int .i64 k0,.bool yq,.int .i64 (64-(d:Int))] w (zca w (arrD bs yq (vlD bs yq d) (bs.length+1) [] k0)):=by
 have HN:=yb (fun (W:World) (h:Below w.heap.size w W) (k:Int)=>zcv (hr.mono h) hn k yq);have QV:=yb (fun (W:World) (h:Below w.heap.size w W) (x:Tk) (f tt:Int)=>hv W a cap (hr.mono h) x f tt);obtain ⟨fn,Yb⟩:∃fn,fn=vlD bs yq d:=⟨_,rfl⟩;rw [<-Yb] at QV |-;obtain ⟨R,hR⟩:∃R,R=arrD bs yq fn (bs.length+1) [] k0:=⟨_,rfl⟩;rw [<-hR];have HR:=yb hR;clear hr hv Yb hR;generalize (64-(d:Int))=D at *;obtain ⟨L,hL⟩:∃L,L=bs.length:=⟨_,rfl⟩;rw [<-hL] at HN QV HR hn |-;clear hL;unfold zaF tokN at HN;unfold tokN at QV;go_enter Tryz.func111,Tryz.ntmps111
 obtain ⟨B,hB⟩:∃B,B=w.heap.size:=⟨_,rfl⟩;have HZ:=yb (zac (w:=w) (b:=B) (.cells #[.int .i64 0,.int .i64 0,.string ⟨#[]⟩,.slice none 0 0] 25) hB);have Q4:=yb (zai w (.cells #[.int .i64 0,.int .i64 0,.string ⟨#[]⟩,.slice none 0 0] 25))
 go_upto_region 1 with fail
 rw [<-hB];have ZB:=yb (Nat.le_of_eq hB.symm);clear hB;generalize w.alloc _=W1 at *;go_wp2
 go_loopw [1,11,12] (fun vat vl vn wr=>∃(k:Int) (i:Nat) (l:List PV),vat=.int .i64 k/\vn=.int .i64 i/\i<=L+1/\Hid (ArrM W1.heap.size wr vl i l)/\Hid (Below W1.heap.size W1 wr)/\Hid (R=arrD bs yq fn (L+1-i) l k)) (fun _ _ vn _=>L+1-(intOf vn).toNat)
 case atStart=>exact ⟨k0,0,[],rfl,rfl,by omega,yb ⟨[],World.ownsRow_nil _ _ _ _,rfl⟩,Below.refl _ _,HR⟩
 case round =>
  obtain ⟨k,i,l,rfl,rfl,hi,HA,HB,Qi⟩:=hrel;obtain ⟨cs0,Yc,-⟩:=HA.out;obtain ⟨va,vc,Q0,-⟩:=zaB Yc;subst Q0;clear Yc cs0;have QG:=yb (Q4.out.trans (HB.out.mono Q4.out.size));have Qx:=yb (zab HB.out HZ.out)
  by_cases q1:i<=L
  case neg =>
   obtain rfl:i=L+1:=by omega
   have hd1:decide (L+1<=L)=false:=ye (by omega);have QJ:decide (((L+1:Nat):Int)<=(L:Int))=false:=ye (by omega);have Z8:decide ((L:Int)+1<=(L:Int))=false:=ye (by omega);have Qd:=Qi.out;rw [Nat.sub_self] at Qd;unfold arrD at Qd;subst Qd;clear Qi HA HR HN QV q1 hi;obtain ⟨⟨r0,r1,r2,r3⟩,rf0,rf1,rf2,rf3⟩:=zad Qx.out;go_wp2;refine yi (zaf rfl _ _ B 25 _ (0,0) _ rfl (by exact set4 Qx.out _ _ _ _) Tryz.underlying25 rfl (by exact zav) _ _ rfl rfl) rfl ?_;exact zaJ (R:=(PV.none,0,10)) rfl (zae QG.out ZB.out _ _ _ _)
  have hd1:decide (i<=L)=true:=yd q1;have QJ:decide ((i:Int)<=(L:Int))=true:=yd (by omega);have Zd:(i:Int)<=(L:Int):=by omega
  have YT:(0:Int)<=(i:Int):=by omega
  have YU:IntKind.i64.wrap ((i:Int)+1)=(i:Int)+1:=IntWalk.i64_in _ (by omega);have Qd:=Qi.out;rw [show L+1-i=(L-i)+1 by omega] at Qd;unfold arrD at Qd;have ZC:=yb (HN.out _ QG.out k);generalize zan bs k yq=V at *;obtain ⟨x,f,t,er⟩:=V;simp only at Qd ZC;have Zq:=yb (fun (W:World) (h:Below w.heap.size w W)=>QV.out W h x f t);replace Qi:=yb Qd;clear Qd HR;obtain ⟨xk,xvk,xvn,xvs,xs⟩:=x;simp only at ZC Zq Qi;generalize hfx:fn { kind:=xk,vk:=xvk,vn:=xvn,vs:=xvs,s:=xs } t=R1 at *;clear hfx;generalize mkB xvs=xvb at *;generalize mkB xs=xb at *;go_wp2_with fail
  refine ZC.out.mono ?_;rintro e w2 ⟨rfl,QB⟩;have Q5:=QB.alloc QB.size (.cells #[.int .i64 xk,.int .i64 f,.int .i64 t,.int .i64 xvk,.int .i64 xvn,.string xvb,.slice none 0 0,.string xb] 81);have Qv:=yb (HA.out.keep Q5);have ZD:=yo HB Q5;have ZQ:=yb (zac (w:=w2) (b:=w2.heap.size) (.cells #[.int .i64 xk,.int .i64 f,.int .i64 t,.int .i64 xvk,.int .i64 xvn,.string xvb,.slice none 0 0,.string xb] 81) rfl);have QN:=yb (show wr.heap.size<=w2.heap.size from QB.size);have QL:=yb (show W1.heap.size<=wr.heap.size from HB.out.size);clear QB Q5 ZC HA HB QG Qx
  go_upto_region 6 with fail
  obtain ⟨r2,Yd⟩:∃r2,r2=w2.heap.size:=⟨_,rfl⟩;rw [<-Yd] at ZQ |-
  have YF:r2≠B:=by
   have h1:=zam HZ.out;have h2:=QN.out;have h3:=QL.out;omega
  clear Yd QN QL;generalize w2.alloc _=W2 at *;have QG:=yb (Q4.out.trans (ZD.out.mono Q4.out.size));have Qx:=yb (zab ZD.out HZ.out);obtain ⟨⟨t0,t1,t2,t3,t4,t5,t6,t7⟩,-⟩:=zah ZQ.out;obtain ⟨⟨r0,r1,r2',r3⟩,rf0,rf1,rf2,rf3⟩:=zad Qx.out
  by_cases her:er=0
  case neg =>
   have e0:(er==0)=false:=by rw [yf];exact her
   have e1:(er != 0)=true:=by simp only [bne,e0,yj]
   have Qd:=Qi.out;rw [yg her] at Qd;subst Qd;clear Qi Qv HN QV her Zq t0 t1 t2 t3 t4 t5 t6 t7;go_wp2;refine yi (zaf rfl _ _ B 25 _ (0,0) _ rfl (by exact set4 Qx.out _ _ _ _) Tryz.underlying25 rfl (by exact zav) _ _ rfl rfl) rfl ?_;exact zaJ (R:=(PV.none,0,er)) rfl (zae QG.out ZB.out _ _ _ _)
  subst her;have Qd:=Qi.out;rw [yh (by simp)] at Qd
  by_cases hk3:xk=3
  ·have e3:(xk==3)=true:=by rw [hk3];rfl
   rw [yg hk3] at Qd;subst Qd;clear Qi HN QV hk3 Zq;obtain ⟨cs,hO,hVs⟩:=Qv.out;obtain ⟨va',vc',Q0,Q6,Qn⟩:=Row.of_owns hO
   cases Q0
   have hlen:=hVs.length;have Zr:cs.length=i*4:=Q6.1;obtain rfl:i=l.length:=by omega
   have ZR:=yb Q6;have Ye:=yb Qn;have YG:=yb hVs;clear hO Q6 Qn hVs hlen Zr Qv;go_wp2
   go_region
   all_goals
    go_wp2;refine yi (zaf rfl _ _ B 25 _ (0,0) _ rfl (by exact set4 Qx.out _ _ _ _) Tryz.underlying25 rfl (by exact zav) _ _ rfl rfl) rfl ?_;have YV:B<W1.heap.size:=zam HZ.out;have Yf:=Q4.out.size;have Qh:∀y0 y1 y2 y3,zaU (fun b=>W1.heap.size<=b) W2 ((((W2.setCell ⟨B,0,none⟩ y0).setCell ⟨B,1,none⟩ y1).setCell ⟨B,2,none⟩ y2).setCell ⟨B,3,none⟩ y3):=fun _ _ _ _=>⟨by rw [za5];exact yp _,fun b _ hb=>zbp (by omega) _ _ _ _⟩;refine ⟨_,rfl,?_,(zae QG.out ZB.out _ _ _ _).drew⟩;exact (IsV.mk (v:=.mk 6 0 [] l) (ZR.out.stays (Qh _ _ _ _) (fun _ x hx=>Ye.out x hx)) (fun _ x hx=>Nat.le_trans Yf (Ye.out x hx)) (IsVs.keep ((Qh _ _ _ _).weakenF fun b h=>h.1) (fun b h=>Nat.le_trans Yf h.1) _ YG.out)).below (Below.refl _ _).drew
  have e3:(xk==3)=false:=by rw [yf];exact hk3
  rw [yh hk3] at Qd;clear YF;replace Qi:=yb Qd;clear Qd hk3;go_wp2_with fail
  refine (Zq.out _ QG.out).mono ?_;rintro e w3 ⟨sl,rfl,ZE,ZS⟩;obtain ⟨sa,sc,rfl,-⟩:=ZE.len;obtain ⟨X,n,ev⟩:=R1;simp only at Qi ZE;have Qt:=yb (IsV.lt _ ZE);have Yg:=yb (Qv.out.keep ZS);have Qj:=yo ZD ZS;have Yh:=yb (show ∀v n l,ArrM W1.heap.size W2 v n l->∀b,v.ownBlock=some b->b<W2.heap.size from fun v n l ⟨cs,h,_⟩ b hb=>(h.lt b hb).2);clear ZE ZS Zq QG Qx ZQ t0 t1 t2 t3 t4 t5 t6 t7 r0 r1 r2' r3 rf0 rf1 rf2 rf3;have YH:=yb ZD.out.size;unfold pvA;generalize hxl:X.l.length=xl at *;obtain ⟨O4,Yi⟩:∃O4:Obj,O4=.cells #[.int .i64 X.kind,.int .i64 X.n,.string (mkB X.s),.slice sa xl sc] 25:=⟨_,rfl⟩;have Zs:=zai w3 O4;have ZF:=yb (Yg.out.keep Zs);have Qm:=yb (IsV.keep (G:=fun b=>W2.heap.size<=b/\b<(w3.alloc O4).heap.size) (zaU.of_below Zs) (fun b h=>⟨h.1,Nat.lt_of_lt_of_le h.2 Zs.size⟩) _ Qt.out);have Qb:=yo Qj Zs;have ZT:=yb (zac (w:=w3) (b:=w3.heap.size) O4 rfl);rw [Yi] at ZF Qm Qb ZT;clear Zs Yi Yg Qt Qj O4
  go_upto_region 11 with fail
  obtain ⟨r4,Yj⟩:∃r4,r4=w3.heap.size:=⟨_,rfl⟩;rw [<-Yj] at ZT |-;clear Yj;generalize w3.alloc _=W4 at *;have QG:=yb (Q4.out.trans (Qb.out.mono Q4.out.size));have Qx:=yb (zab Qb.out HZ.out);obtain ⟨⟨t0,t1,t2,t3⟩,-⟩:=zad ZT.out;obtain ⟨⟨r0,r1,r2',r3⟩,rf0,rf1,rf2,rf3⟩:=zad Qx.out
  by_cases her:ev=0
  case neg =>
   have e0:(ev==0)=false:=by rw [yf];exact her
   have e1:(ev != 0)=true:=by simp only [bne,e0,yj]
   have Qd:=Qi.out;rw [yg her] at Qd;subst Qd;clear Qi Qv ZF HN QV her;go_wp2;refine yi (zaf rfl _ _ B 25 _ (0,0) _ rfl (by exact set4 Qx.out _ _ _ _) Tryz.underlying25 rfl (by exact zav) _ _ rfl rfl) rfl ?_;exact zaJ (R:=(PV.none,0,ev)) rfl (zae QG.out ZB.out _ _ _ _)
  subst her;have Qd:=Qi.out;rw [yh (by simp)] at Qd;replace Qi:=yb Qd;have Yk:=Yh.out _ _ _ Qv.out;obtain ⟨cs,hO,hVs⟩:=ZF.out;have HO:=yb hO;have YI:=yb hVs;have Qu:=yb (IsV.weaken Qm.out (G:=fun b=>W1.heap.size<=b/\b<W4.heap.size/\(Value.slice va i vc).ownBlock≠some b) (fun b h=>⟨Nat.le_trans YH.out h.1,h.2,fun e=>by have:=Yk b e;omega⟩));clear Qd hO hVs Qv ZF Qm Yk Yh;subst hxl;have YJ:=yb (show pvC X (.slice sa X.l.length sc)=[.int .i64 X.kind,.int .i64 X.n,.string (mkB X.s),.slice sa X.l.length sc] from rfl);go_wp2_with (at_builtin;refine zcY EPV rfl _ _ rfl W1.heap.size _ i cs rfl (HO.out.alloc _) _ 1 _ _ rfl (zbN _ #[.int .i64 X.kind,.int .i64 X.n,.string (mkB X.s),.slice sa X.l.length sc] _ 4 rfl) (one4 _ _ _ _ _ _) (by unfold maxLen;omega) (by omega) (by rw [zaq];have:=Qb.out.size;omega) ?_;intro v6 w6 hO6 hg6 hn6;have YK:=yb (ArrM.push YI.out Qu.out (by rw [YJ.out];exact hO6) hg6 hn6);have Qe:=yb (show Below W1.heap.size W1 w6 from (Qb.out.alloc Qb.out.size _).grown hg6 (by rw [zaq];have:=Qb.out.size;omega) (fun q hq=>(HO.out.lt q hq).1));clear hO6 hg6 hn6)
  go_roundw
  case rel=>exact ⟨n,i+1,l++[X],rfl,by go_num,by omega,YK,Qe,by rw [show L+1-(i+1)=L-i by omega];exact Qi⟩
  case measure=>simp [intOf];omega
end Go.Proofs.YtcmoehknppjkiaaGreatDoor
