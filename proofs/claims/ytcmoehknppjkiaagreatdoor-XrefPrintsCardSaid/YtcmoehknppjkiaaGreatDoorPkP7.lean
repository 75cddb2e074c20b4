/-
  Our texts PsB to Pad2, in one.
-/
import Derived.Test.YtcmoehknppjkiaaGreatDoorPkP6
import Derived.Deep.RegionLaw
import Derived.Deep.AppendLies
import Derived.BigQuiet
import Derived.Deep.Cut
import Derived.PlainAid
set_option maxRecDepth 8000
set_option maxHeartbeats 8000000
namespace Go.Proofs.YtcmoehknppjkiaaGreatDoor
open Go.RowKit
section
variable {w0 w w' : World} {F F' G : Nat -> Prop} {p : Nat} {a : Option Addr} {cap : Nat} {bs : List UInt8} {yq : Bool} {st : List Lv} {at_ : Int} {gs : List Nat} {osl : Value}
theorem zaK {w:World} {r b:Nat} (h:b≠r) (y0 y1 y2 y3:Value):((((w.setCell ⟨r,0,none⟩ y0).setCell ⟨r,1,none⟩ y1).setCell ⟨r,2,none⟩ y2).setCell ⟨r,3,none⟩ y3).heap[b]?=w.heap[b]?:=zbL h _ _ _ _
theorem za3 (w:World) (r:Nat) (y0 y1 y2 y3:Value):((((w.setCell ⟨r,0,none⟩ y0).setCell ⟨r,1,none⟩ y1).setCell ⟨r,2,none⟩ y2).setCell ⟨r,3,none⟩ y3).heap.size=w.heap.size:=by simp [World.setCell]
theorem Nxt.fin4 {W1 W2:World} {r:Nat} (h:zap w0 w F G p a cap bs yq st at_ gs osl) (hb:Below w.heap.size w W1) {st2:List Lv} {at2:Int} (N:Nxt w0 W1 F (fun b=>G b\/b=r) p a cap bs yq st2 at2 F' W2) (hr:w.heap.size<=r) (y0 y1 y2 y3:Value) :
  Nxt w0 w F G p a cap bs yq st2 at2 F' ((((W2.setCell ⟨r,0,none⟩ y0).setCell ⟨r,1,none⟩ y1).setCell ⟨r,2,none⟩ y2).setCell ⟨r,3,none⟩ y3):=by
 obtain ⟨gs2,osl2,hs⟩:=N.stk
 have hGl:∀b,G b->b<w.heap.size:=fun b hb=>(h.gb b hb).2
 have hFl:∀b,F b->b<w.heap.size:=fun b hb=>h.Flt hb
 have h1:=hb.size
 have h2:=N.sg.1
 refine ⟨⟨gs2,osl2,(hs.set4 (.inr rfl) _ _ _ _).give fun b hb=>.inl hb⟩,⟨by rw [za3];omega,fun b hb1 hG=>?_⟩,⟨by rw [za3];omega,fun b hb1 hf=>?_⟩,N.ff⟩
 ·rw [zaK (by have:=hGl b hG;omega),N.sg.2 b (by omega) (.inl hG),hb.block b hb1]
 ·rw [zaK (by have:=hFl b hf;omega),N.sf.2 b (by omega) hf,hb.block b hb1]
theorem IsV.fin4 {W2:World} {r:Nat} {st2:List Lv} {at2:Int} {v:PV} {sl:Value} (h:IsV W2 F' v sl) (N:Stk w0 W2 F' (fun b=>G b\/b=r) p a cap bs yq st2 at2) (y0 y1 y2 y3:Value) :
  IsV ((((W2.setCell ⟨r,0,none⟩ y0).setCell ⟨r,1,none⟩ y1).setCell ⟨r,2,none⟩ y2).setCell ⟨r,3,none⟩ y3) F' v sl:=by
 obtain ⟨gs2,osl2,hs⟩:=N
 exact IsV.keep ⟨by rw [za3];exact yp _,fun b _ hf=>zaK (fun e=>(hs.fb b hf).2.1 (.inr e)) _ _ _ _⟩ (fun _ h=>h) v h
theorem Nxt.drew {W:World} (N:Nxt w0 w F G p a cap bs yq st at_ F' W):Nxt w0 w F G p a cap bs yq st at_ F' W.drew:=by
 obtain ⟨gs2,osl2,hs⟩:=N.stk
 exact ⟨⟨gs2,osl2,hs.drewN 1⟩,N.sg,N.sf,N.ff⟩
theorem Nxt.weak {W:World} {F1:Nat->Prop} (N:Nxt w0 w F1 G p a cap bs yq st at_ F' W) (hF:∀b,F b->F1 b):Nxt w0 w F G p a cap bs yq st at_ F' W :=
 ⟨N.stk,N.sg,⟨N.sf.1,fun b hb hf=>N.sf.2 b hb (hF b hf)⟩,fun b hb=>N.ff b (hF b hb)⟩
theorem IsV.of_owns {W:World} {base:Nat} {v:PV} {sl:Value} {cs:List Value} (hO:W.ownsRow base 25 4 sl v.l.length cs) (h:IsVs W F v.l cs) (hF:∀b,sl.ownBlock=some b->F b):IsV W F v sl:=by
 obtain ⟨a,c,rfl,hr,-⟩:=Row.of_owns hO
 refine IsV.mk hr (fun hn x hx=>?_) h
 subst hx
 rcases hO.2 with ⟨e,-⟩|⟨g,cap,cur,e,-⟩
 ·cases e
 ·cases e;exact hF g rfl
theorem zap.popA {v:Lv} {g:Nat} {t:List Nat} {ao:Option Addr} {oc:Nat} {sl:Value} (h:zap w0 w F G p a cap bs yq (v::st) at_ (g::t) (.slice ao (st.length+1) oc)) (hg:w.heap[g]?=some (.cells #[.bool v.dict,sl] 128 (0,0))) :
  ∃F',Nxt w0 w F G p a cap bs yq st at_ F' (w.setCell ⟨p,3,none⟩ (.slice ao st.length oc))/\IsV (w.setCell ⟨p,3,none⟩ (.slice ao st.length oc)) F' (.mk 6 0 [] v.l) sl:=by
 obtain ⟨F',sl',hF,⟨g',t',cs,h1,h2,h3,h4,h5⟩,N⟩:=h.pop rfl
 simp only [List.cons.injEq] at h1
 obtain ⟨rfl,rfl⟩:=h1
 rw [hg] at h2
 obtain rfl:sl=sl':=by simpa using h2
 refine ⟨F',N,IsV.of_owns (v:=.mk 6 0 [] v.l) (base:=w0.heap.size) (cs:=cs) (za0 h3 fun b hb=>?_) (IsVs.keep ⟨by simp [World.setCell],fun b _ hf=>?_⟩ (fun _ h=>h) _ h4) h5⟩
 ·exact heap_setCell_other _ _ _ _ (by obtain ⟨ds,hc⟩:=zaC h3 hb;exact zaW hc h.blk (by decide))
 ·obtain ⟨gs2,osl2,hs⟩:=N.stk
  exact heap_setCell_other _ _ _ _ (hs.notF hf)
theorem IsV.drew {W:World} {v:PV} {sl:Value} (h:IsV W F v sl):IsV W.drew F v sl:=IsV.below h (zad (Below.refl _ _) 1)
theorem zap.popD {v:Lv} {ao:Option Addr} {oc:Nat} {v':PV} {sl:Value} (h:zap w0 w F G p a cap bs yq (v::st) at_ gs (.slice ao (st.length+1) oc)) (hv:IsV w F v' sl) :
  ∃F',Nxt w0 w F G p a cap bs yq st at_ F' (w.setCell ⟨p,3,none⟩ (.slice ao st.length oc))/\IsV (w.setCell ⟨p,3,none⟩ (.slice ao st.length oc)) F' v' sl:=by
 obtain ⟨F',sl',hF,-,N⟩:=h.pop rfl
 exact ⟨F',N,IsV.keep N.sf hF _ hv⟩
theorem zap.lastV {v:Lv} {g:Nat} {t:List Nat} {sl:Value} (h:zap w0 w F G p a cap bs yq (v::st) at_ (g::t) osl) (hg:w.heap[g]?=some (.cells #[.bool v.dict,sl] 128 (0,0))) :
  ∃cs,w.ownsRow w0.heap.size 25 4 sl v.l.length cs/\IsVs w F v.l cs:=by
 obtain ⟨g',t',sl',cs,h1,h2,h3,h4,h5,h6,-⟩:=h.lvs
 simp only [List.cons.injEq] at h1
 obtain ⟨rfl,rfl⟩:=h1
 rw [hg] at h4
 obtain rfl:sl=sl':=by simpa using h4
 exact ⟨cs,h5,h6⟩
theorem zap.gain {W3:World} {m:List PV} {v3:Value} {cs:List Value} (h:zap w0 w F G p a cap bs yq st at_ gs osl) (hb:Below w.heap.size w W3) (hO:W3.ownsRow w.heap.size 25 4 v3 m.length cs) (hV:IsVs W3 F m cs) :
  zap w0 W3 (fun b=>F b\/v3.ownBlock=some b) G p a cap bs yq st at_ gs osl/\IsV W3 (fun b=>F b\/v3.ownBlock=some b) (.mk 7 0 [] m) v3:=by
 refine ⟨h.frame' (zat hb) (fun b hb=>.inl hb) (fun b hb=>.inl hb) (fun b hb'=>?_),IsV.of_owns (v:=.mk 7 0 [] m) hO (hV.weaken fun b hb=>.inl hb) fun b hb=>.inr hb⟩
 rcases hb' with h1|h1
 ·exact .inl h1
 ·refine .inr ⟨(hO.lt b h1).1,fun hG=>?_,zaC hO h1⟩
  have h2:=(h.gb b hG).2
  have h3:=(hO.lt b h1).1
  omega
def EndEnd (w0 w:World) (F G:Nat->Prop) (p:Nat) (a:Option Addr) (cap:Nat) (bs:List UInt8) (yq:Bool) (at_:Int) (R:PV×List Lv×Int) (e:Ending) (w':World):Prop :=
 ∃F' sl,e=.returned (.tuple #[pvA R.1 sl,.int .i64 R.2.2])/\IsV w' F' R.1 sl/\Nxt w0 w F G p a cap bs yq R.2.1 at_ F' w'
theorem end_any (h:zap w0 w F G p a cap bs yq st at_ gs osl) (d:Bool) (hlen:∀v∈st,v.l.length<=400000):Calls Tryz.prog 103 #[.pointer (some ⟨p,0,none⟩),.bool d] w (EndEnd w0 w F G p a cap bs yq at_ (zcf st d)):=by
 obtain ⟨R,hR⟩:∃R,R=zcf st d:=⟨_,rfl⟩
 rw [<-hR]
 have HR:=yb hR
 have HS:=yb h
 obtain ⟨r,hr⟩:∃r,r=w.heap.size:=⟨_,rfl⟩
 have HRR:=yb hr
 have hrl:r<(w.alloc (.cells #[.int .i64 0,.int .i64 0,.string ⟨#[]⟩,.slice none 0 0] 25)).heap.size:=by rw [zaq];omega
 have h1:=h.res (G':=fun b=>G b\/b=r) (zae w (.cells #[.int .i64 0,.int .i64 0,.string ⟨#[]⟩,.slice none 0 0] 25)) (fun b hb=>hb.imp id fun e=>by rw [e];exact ⟨Nat.le_of_eq hr.symm,hrl⟩)
 have hr4:=zab (w:=w) (b:=r) (.cells #[.int .i64 0,.int .i64 0,.string ⟨#[]⟩,.slice none 0 0] 25) hr
 have HW:=yb (zae w (.cells #[.int .i64 0,.int .i64 0,.string ⟨#[]⟩,.slice none 0 0] 25))
 have hpr:p≠r:=by have:=h.lt;omega
 clear h hR hrl
 go_enter Tryz.func103,Tryz.ntmps103
 go_wp2_with fail
 rw [<-hr]
 generalize w.alloc _=W1 at *
 have HTOP:=yb (zfM h1)
 have HS1:=yb h1
 have HR4:=yb hr4
 clear hr h1 hr4
 refine HTOP.out.mono ?_
 rintro e w1 ⟨rfl,q,rfl⟩
 have HS2:=yb (HS1.out.drewN q)
 have HW2:=yb (zad HW.out q)
 have HR2:=yb (show (W1.drewN q).heap[r]?=_ from HR4.out)
 clear HS1 HW HR4 HTOP
 generalize W1.drewN q=W2 at *
 have hbad:R=(PV.none,st,11)->∀y0 y1 y2 y3:Value,(y0=.int .i64 0/\y1=.int .i64 0/\y2=.string ⟨#[]⟩/\y3=.slice none 0 0)->EndEnd w0 w F G p a cap bs yq at_ R (.returned (.tuple #[.agg #[y0,y1,y2,y3],.int .i64 11])) ((((W2.setCell ⟨r,0,none⟩ y0).setCell ⟨r,1,none⟩ y1).setCell ⟨r,2,none⟩ y2).setCell ⟨r,3,none⟩ y3):=by
  rintro e y0 y1 y2 y3 ⟨rfl,rfl,rfl,rfl⟩
  rw [e]
  exact ⟨F,.slice none 0 0,rfl,IsV.leaf _ _ _ rfl,Nxt.fin4 HS.out HW2.out (Nxt.refl HS2.out (Below.refl _ _)) (Nat.le_of_eq HRR.out.symm) _ _ _ _⟩
 have HBAD:=yb hbad
 obtain ⟨⟨q0,q1,q2,q3⟩,n0,n1,n2,n3⟩:=zah HR2.out
 clear hbad
 rcases HS2.out.top with ⟨rfl,rfl⟩|⟨v,st',g,t',sa,sc,rfl,rfl,h1,h2,h3⟩
 ·unfold topP
  go_wp2
  refine yi (zac rfl _ _ r 25 _ (0,0) _ rfl (by exact set4 HR2.out _ _ _ _) Tryz.underlying25 rfl (by exact zaO) _ rfl) rfl ?_
  exact HBAD.out HR.out _ _ _ _ ⟨rfl,rfl,rfl,rfl⟩
 ·obtain ⟨k0,k1⟩:W2.cell? ⟨g,0,none⟩=some (.bool v.dict)/\W2.cell? ⟨g,1,none⟩=some (.slice sa v.l.length sc):=⟨by rw [cell_of_row W2 g 0 _ _ _ h3];rfl,by rw [cell_of_row W2 g 1 _ _ _ h3];rfl⟩
  have HWT:=yb (zeP h3 (by omega))
  have hR:=HR.out
  unfold zcf at hR
  simp only at hR
  have HG:=yb h3
  unfold topP
  have HWV:=yb (show zfp v=(v.dict&&v.l.length % 2==0) from rfl)
  have HLE:=yb (hlen v List.mem_cons_self)
  have hgp:g≠p:=fun e=>by subst e;have:=HS2.out.blk;rw [h3] at this;simp at this
  by_cases hdd:v.dict=d
  case neg =>
   have HB2:=yb (HBAD.out (hR.trans (yg (.inl hdd))))
   have e1:(v.dict==d)=false:=by rw [yf];exact hdd
   have e2:(v.dict != d)=true:=by simp only [bne,e1,yj]
   generalize v.dict=vd at *
   clear hR hdd h1 h2 h3 hlen HBAD
   go_wp2
   refine yi (zac rfl _ _ r 25 _ (0,0) _ rfl (by exact set4 HR2.out _ _ _ _) Tryz.underlying25 rfl (by exact zaO) _ rfl) rfl ?_
   exact HB2.out _ _ _ _ ⟨rfl,rfl,rfl,rfl⟩
  subst hdd
  obtain ⟨ao,oc,rfl,ho1,ho2⟩:=zaG HS2.out.own
  obtain ⟨⟨c0,c1,c2,c3⟩,f0,f1,f2,f3⟩:=HS2.out.cells
  simp only [List.length_cons] at c3 ho1
  have hdp:st'.length<=63:=by have:=HS2.out.deep;simp at this;omega
  have HPG:=yb hgp
  obtain ⟨vd,hvd⟩:∃vd,vd=v.dict:=⟨_,rfl⟩
  rw [<-hvd] at k0 HWT HWV hR
  rw [<-hvd] at HG
  rw [<-hvd]
  have HVD:=yb hvd
  clear hvd h3 hlen
  cases vd with
  | false =>
   have HR5:=yb ((hR.trans (yh (by rintro (h|⟨h,-⟩);exact h rfl;cases h))).trans (yg rfl))
   have i1:(0:Int)<=(st'.length:Int)+1-1:=by omega
   have i2:((st'.length:Int)+1-1).toNat=st'.length:=by omega
   have i3:IntKind.i64.wrap ((st'.length:Int)+1-1)=(st'.length:Int):=by rw [IntWalk.i64_in _ (by omega)];omega
   have i4:(st'.length:Int)<=(oc:Int):=by omega
   have i5:(0:Int)<=(st'.length:Int):=by omega
   have i6:(st'.length:Int).toNat=st'.length:=by omega
   clear hR HBAD HWT
   obtain ⟨F',hN,hV⟩:=HS2.out.popA (by rw [<-HVD.out];exact HG.out)
   have hpg:p≠g:=Ne.symm hgp
   have HRX:=yb (show (W2.setCell ⟨p,3,none⟩ (.slice ao st'.length oc)).heap[r]?=_ from (heap_setCell_other W2 ⟨p,3,none⟩ r _ (Ne.symm hpr)).trans HR2.out)
   have HND:=yb hN
   have HVD2:=yb hV
   clear hN hV
   go_wp2
   go_region
   all_goals
    go_wp2
    refine yi (zac rfl _ _ r 25 _ (0,0) _ rfl (by exact set4 HRX.out _ _ _ _) Tryz.underlying25 rfl (by exact zaO) _ rfl) rfl ?_
    rw [HR5.out]
    exact ⟨F',_,rfl,(IsV.fin4 HVD2.out HND.out.stk _ _ _ _).drew,(Nxt.fin4 HS.out HW2.out HND.out (Nat.le_of_eq HRR.out.symm) _ _ _ _).drew⟩
  | true =>
   cases hev:(v.l.length % 2==0)
   ·rw [hev,Bool.and_false] at HWT HWV
    have HB2:=yb (HBAD.out (hR.trans (yg (.inr ⟨rfl,HWV.out⟩))))
    clear hR HBAD h1 h2 hev
    go_wp2_with (go_at_call 139;refine HWT.out.mono ?_;rintro e w' ⟨rfl,rfl⟩)
    refine yi (zac rfl _ _ r 25 _ (0,0) _ rfl (by exact set4 HR2.out _ _ _ _) Tryz.underlying25 rfl (by exact zaO) _ rfl) rfl ?_
    exact HB2.out _ _ _ _ ⟨rfl,rfl,rfl,rfl⟩
   ·rw [hev,Bool.and_true] at HWT HWV
    have hR6:=(hR.trans (yh (by rintro (h|⟨-,h⟩);exact h rfl;rw [HWV.out] at h;cases h))).trans (yh (by decide))
    have HR6:=yb hR6
    obtain ⟨m,hm⟩:∃m,2*m=v.l.length:=⟨v.l.length / 2,by simp at hev;omega⟩
    obtain ⟨cs,hO,hVs⟩:=HS2.out.lastV (by rw [<-HVD.out];exact HG.out)
    have HP:=yb (pairs_any (m:=m) (by rw [hm];exact (Row.of_own hO).2) hVs hm (by have:=HLE.out;omega))
    rw [<-hm] at k1
    have i1:(0:Int)<=(st'.length:Int)+1-1:=by omega
    have i2:((st'.length:Int)+1-1).toNat=st'.length:=by omega
    have i3:IntKind.i64.wrap ((st'.length:Int)+1-1)=(st'.length:Int):=by rw [IntWalk.i64_in _ (by omega)];omega
    have i4:(st'.length:Int)<=(oc:Int):=by omega
    have i5:(0:Int)<=(st'.length:Int):=by omega
    have i6:(st'.length:Int).toNat=st'.length:=by omega
    have HRP:=yb (show r≠p from Ne.symm hpr)
    clear hR HBAD h1 h2 hev hm hO hVs
    cases hpv:zdi v.l with
    | none =>
     rw [hpv] at hR6 HP
     have HR7:=yb hR6
     clear hR6 hpv HR6
     go_wp2_with (first
      |(go_at_call 139;refine HWT.out.mono ?_;rintro e w' ⟨rfl,rfl⟩)
      |(go_at_call 140;refine HP.out.mono ?_;rintro e w3 ⟨hb3,rfl⟩;have HB3:=yb hb3;have HR23:=yb (zaa hb3 HR2.out);clear hb3 q0 q1 q2 q3 n0 n1 n2 n3 k0 k1 c0 c1 c2 c3 f0 f1 f2 f3;obtain ⟨⟨q0,q1,q2,q3⟩,n0,n1,n2,n3⟩:=zah HR23.out))
     refine yi (zac rfl _ _ r 25 _ (0,0) _ rfl (by exact set4 HR23.out _ _ _ _) Tryz.underlying25 rfl (by exact zaO) _ rfl) rfl ?_
     rw [HR7.out]
     exact ⟨F,.slice none 0 0,rfl,IsV.leaf _ _ _ rfl,Nxt.fin4 HS.out HW2.out (Nxt.refl HS2.out HB3.out) (Nat.le_of_eq HRR.out.symm) _ _ _ _⟩
    | some m2 =>
     rw [hpv] at hR6 HP
     have HR7:=yb hR6
     clear hR6 hpv HR6
     go_wp2_with (first
      |(go_at_call 139;refine HWT.out.mono ?_;rintro e w' ⟨rfl,rfl⟩)
      |(go_at_call 140;refine HP.out.mono ?_;rintro e w3 ⟨hb3,v3,cs3,rfl,hO3,hV3⟩;obtain ⟨a3,cap3,rfl,-,-⟩:=zaG hO3;obtain ⟨hS3,hD3⟩:=HS2.out.gain hb3 hO3 hV3;obtain ⟨F',hN4,hV4⟩:=hS3.popD hD3;have HB3:=yb hb3;have HND:=yb hN4;have HVD2:=yb hV4;have HRX:=yb (show (w3.setCell ⟨p,3,none⟩ (.slice ao st'.length oc)).heap[r]?=_ from (heap_setCell_other w3 ⟨p,3,none⟩ r _ (Ne.symm hpr)).trans (zaa hb3 HR2.out));have HS3:=yb hS3;have HR23:=yb (zaa hb3 HR2.out);clear hb3 hO3 hV3 hS3 hD3 hN4 hV4 q0 q1 q2 q3 n0 n1 n2 n3 k0 k1 c0 c1 c2 c3 f0 f1 f2 f3;obtain ⟨⟨q0,q1,q2,q3⟩,n0,n1,n2,n3⟩:=zah HR23.out;obtain ⟨⟨c0,c1,c2,c3⟩,f0,f1,f2,f3⟩:=HS3.out.cells;simp only [List.length_cons] at c3))
     go_region
     all_goals
      go_wp2
      refine yi (zac rfl _ _ r 25 _ (0,0) _ rfl (by exact set4 HRX.out _ _ _ _) Tryz.underlying25 rfl (by exact zaO) _ rfl) rfl ?_
      rw [HR7.out]
      exact ⟨F',_,rfl,(IsV.fin4 HVD2.out HND.out.stk _ _ _ _).drew,(Nxt.fin4 HS.out (HW2.out.trans (HB3.out.mono HW2.out.size)) (HND.out.weak fun b hb=>.inl hb) (Nat.le_of_eq HRR.out.symm) _ _ _ _).drew⟩
end
section
variable {w0 w w' : World} {F F' G : Nat -> Prop} {p : Nat} {a : Option Addr} {cap : Nat} {bs : List UInt8} {yq : Bool} {st : List Lv} {at_ : Int} {gs : List Nat} {osl : Value}
def PStep (w0 w:World) (F G:Nat->Prop) (p:Nat) (a:Option Addr) (cap:Nat) (bs:List UInt8) (yq:Bool) (R:Option PV×List Lv×Int×Int) (e:Ending) (w':World):Prop :=
 ∃F' sa sn sc V,e=.returned (.tuple #[pvA V (.slice sa sn sc),.bool R.1.isSome,.int .i64 R.2.2.2])/\(∀X,R.1=some X->V=X/\IsV w' F' V (.slice sa sn sc))/\Nxt w0 w F G p a cap bs yq R.2.1 R.2.2.1 F' w'
theorem zce {S:Nat->Prop} {w w':World} (h:zaJ S w w') {b o:Nat} {v:Value} (hc:w.cell? ⟨b,o,none⟩=some v) (hS:S b):w'.cell? ⟨b,o,none⟩=some v:=by
 rw [World.cell?_of_block (w:=w) (a:=⟨b,o,none⟩) (h.2 b (World.block_lt_of_cell? w _ hc) hS)];exact hc
theorem zbM {S:Nat->Prop} {w w':World} (h:zaJ S w w') {b:Nat} {o:Obj} (hc:w.heap[b]?=some o) (hS:S b):w'.heap[b]?=some o:=by
 rw [h.2 b (zal hc) hS];exact hc
def G3 (G:Nat->Prop) (r:Nat):Nat->Prop:=fun b=>G b\/b=r\/b=r+1\/b=r+2
theorem Nxt.fin3 {W1 W2:World} {r:Nat} (h:zap w0 w F G p a cap bs yq st at_ gs osl) (hb:Below w.heap.size w W1) {st2:List Lv} {at2:Int} (N:Nxt w0 W1 F (G3 G r) p a cap bs yq st2 at2 F' W2) (hr:w.heap.size<=r) {k:Nat} (hk:k=r+1) (y0 y1 y2 y3:Value) :
  Nxt w0 w F G p a cap bs yq st2 at2 F' ((((W2.setCell ⟨k,0,none⟩ y0).setCell ⟨k,1,none⟩ y1).setCell ⟨k,2,none⟩ y2).setCell ⟨k,3,none⟩ y3):=by
 subst hk
 obtain ⟨gs2,osl2,hs⟩:=N.stk
 have hGl:∀b,G b->b<w.heap.size:=fun b hb=>(h.gb b hb).2
 have hFl:∀b,F b->b<w.heap.size:=fun b hb=>h.Flt hb
 have h1:=hb.size
 have h2:=N.sg.1
 refine ⟨⟨gs2,osl2,(hs.set4 (.inr (.inr (.inl rfl))) _ _ _ _).give fun b hb=>.inl hb⟩,⟨by rw [za3];omega,fun b hb1 hG=>?_⟩,⟨by rw [za3];omega,fun b hb1 hf=>?_⟩,N.ff⟩
 ·rw [zaK (by have:=hGl b hG;omega),N.sg.2 b (by omega) (.inl hG),hb.block b hb1]
 ·rw [zaK (by have:=hFl b hf;omega),N.sf.2 b (by omega) hf,hb.block b hb1]
theorem Nxt.fin34 {W1 W2:World} {r:Nat} (h:zap w0 w F G p a cap bs yq st at_ gs osl) (hb:Below w.heap.size w W1) {st2:List Lv} {at2:Int} (N:Nxt w0 W1 F (G3 G r) p a cap bs yq st2 at2 F' W2) (hr:w.heap.size<=r) (y0 y1 y2 y3 z0 z1 z2 z3:Value) :
  Nxt w0 w F G p a cap bs yq st2 at2 F' ((((((((W2.setCell ⟨r+1+1,0,none⟩ z0).setCell ⟨r+1+1,1,none⟩ z1).setCell ⟨r+1+1,2,none⟩ z2).setCell ⟨r+1+1,3,none⟩ z3).setCell ⟨r+1,0,none⟩ y0).setCell ⟨r+1,1,none⟩ y1).setCell ⟨r+1,2,none⟩ y2).setCell ⟨r+1,3,none⟩ y3):=by
 obtain ⟨gs2,osl2,hs⟩:=N.stk
 have hGl:∀b,G b->b<w.heap.size:=fun b hb=>(h.gb b hb).2
 have hFl:∀b,F b->b<w.heap.size:=fun b hb=>h.Flt hb
 have h1:=hb.size
 have h2:=N.sg.1
 refine ⟨⟨gs2,osl2,((hs.set4 (r:=r+1+1) (.inr (.inr (.inr rfl))) _ _ _ _).set4 (.inr (.inr (.inl rfl))) _ _ _ _).give fun b hb=>.inl hb⟩,⟨by rw [za3,za3];omega,fun b hb1 hG=>?_⟩,⟨by rw [za3,za3];omega,fun b hb1 hf=>?_⟩,N.ff⟩
 ·rw [zaK (by have:=hGl b hG;omega),zaK (by have:=hGl b hG;omega),N.sg.2 b (by omega) (.inl hG),hb.block b hb1]
 ·rw [zaK (by have:=hFl b hf;omega),zaK (by have:=hFl b hf;omega),N.sf.2 b (by omega) hf,hb.block b hb1]
theorem IsV.fin34 {W2:World} {r:Nat} {st2:List Lv} {at2:Int} {v:PV} {sl:Value} (h:IsV W2 F' v sl) (N:Stk w0 W2 F' (G3 G r) p a cap bs yq st2 at2) (y0 y1 y2 y3 z0 z1 z2 z3:Value) :
  IsV ((((((((W2.setCell ⟨r+1+1,0,none⟩ z0).setCell ⟨r+1+1,1,none⟩ z1).setCell ⟨r+1+1,2,none⟩ z2).setCell ⟨r+1+1,3,none⟩ z3).setCell ⟨r+1,0,none⟩ y0).setCell ⟨r+1,1,none⟩ y1).setCell ⟨r+1,2,none⟩ y2).setCell ⟨r+1,3,none⟩ y3) F' v sl:=by
 obtain ⟨gs2,osl2,hs⟩:=N
 refine IsV.keep ⟨by rw [za3,za3];exact yp _,fun b _ hf=>?_⟩ (fun _ h=>h) v h
 have hn:=(hs.fb b hf).2.1
 rw [zaK (fun e=>hn (.inr (.inr (.inl e)))),zaK (fun e=>hn (.inr (.inr (.inr e))))]
theorem single_leaf (bs:List UInt8) (yq:Bool) (st:List Lv) (at_:Int) (x:Tk):(zaP bs yq st at_ x).1.l=[]:=by
 unfold zaP
 split
 ·rfl
 ·split
  ·split
   ·rfl
   ·rename_i v hv
    unfold zfH at hv
    split at hv
    ·cases hv;rfl
    ·split at hv
     ·cases hv;rfl
     ·split at hv
      ·cases hv;rfl
      ·cases hv
  ·split
   ·unfold refV
    simp only
    split
    ·rfl
    ·split
     ·rfl
     ·split
      ·rfl
      ·rfl
   ·rfl
theorem zax {P:Program} {fn:Func} {p u z:Tmp} {ty:TypeId} (h:fn.results=#[.cell p ty,.tmp u,.tmp z]) (tmps:Array Value) (w:World) (g:Nat) (t:TypeId) (cs:Array Value) (fr:Nat×Nat) (d:TypeDesc)
  (hp:tmps.getD p undef=.pointer (some ⟨g,0,none⟩)) (hg:w.heap[g]?=some (.cells cs t fr))
  (hu:P.underlying ty=some d) (hd:(match d with | .struct _ | .array _ _=>true|_=>false)=true) (hi:(P.info? ty).map (·.size)=some cs.size) (v v2:Value) (hv:tmps.getD u undef=v) (hv2:tmps.getD z undef=v2) :
  (results fn tmps).run P w=.ok (.tuple #[.agg cs,v,v2]) w:=by
 simp only [Array.getD_eq_getD_getElem?] at hp hv hv2
 simp [results,h,hp,hv,hv2,asAddr,Result.andThen,run_loadVar_row w g t ty cs fr d hg hu hd hi]
def S5 (w:World) (r:Nat) (kd:Int):Prop:=w.cell? ⟨r,0,none⟩=some (.int .i64 kd)/\w.cell? ⟨r+2,0,none⟩=some (.int .i64 0)/\w.cell? ⟨r+2,1,none⟩=some (.int .i64 0)/\w.cell? ⟨r+2,2,none⟩=some (.string ⟨#[]⟩)/\w.cell? ⟨r+2,3,none⟩=some (.slice none 0 0)
theorem S5.drew {w:World} {r:Nat} {kd:Int} (h:S5 w r kd):S5 w.drew r kd:=h
theorem S5.stays {w w':World} {r:Nat} {kd:Int} (h:S5 w r kd) (hs:zaJ (G3 G r) w w'):S5 w' r kd:=by
 exact ⟨zce hs h.1 (.inr (.inl rfl)),zce hs h.2.1 (.inr (.inr (.inr rfl))),zce hs h.2.2.1 (.inr (.inr (.inr rfl))),zce hs h.2.2.2.1 (.inr (.inr (.inr rfl))),zce hs h.2.2.2.2 (.inr (.inr (.inr rfl)))⟩
theorem S5.set4 {w:World} {r:Nat} {kd:Int} (h:S5 w r kd) (y0 y1 y2 y3:Value):S5 ((((w.setCell ⟨r+1,0,none⟩ y0).setCell ⟨r+1,1,none⟩ y1).setCell ⟨r+1,2,none⟩ y2).setCell ⟨r+1,3,none⟩ y3) r kd:=by
 have g:∀b o v,b≠r+1->w.cell? ⟨b,o,none⟩=some v->((((w.setCell ⟨r+1,0,none⟩ y0).setCell ⟨r+1,1,none⟩ y1).setCell ⟨r+1,2,none⟩ y2).setCell ⟨r+1,3,none⟩ y3).cell? ⟨b,o,none⟩=some v:=fun b o v hb hc=>by
  rw [World.cell?_of_block (w:=w) (a:=⟨b,o,none⟩) (zaK hb _ _ _ _)];exact hc
 exact ⟨g _ _ _ (by omega) h.1,g _ _ _ (by omega) h.2.1,g _ _ _ (by omega) h.2.2.1,g _ _ _ (by omega) h.2.2.2.1,g _ _ _ (by omega) h.2.2.2.2⟩
theorem step_any (h:zap w0 w F G p a cap bs yq st at_ gs osl) (x:Tk) (f t:Int) (hlen:∀v∈st,v.l.length<=400000) :
  Calls Tryz.prog 64 #[.pointer (some ⟨p,0,none⟩),.agg (tokN x f t)] w (PStep w0 w F G p a cap bs yq (zaX bs yq st at_ x)):=by
 obtain ⟨R,hR⟩:∃R,R=zaX bs yq st at_ x:=⟨_,rfl⟩
 rw [<-hR]
 have HS:=yb h
 obtain ⟨r,hr⟩:∃r,r=w.heap.size:=⟨_,rfl⟩
 have HRR:=yb hr
 have HB1:=yb (zf9 w (.cells (tokN x f t) 112) (.cells #[.int .i64 0,.int .i64 0,.string ⟨#[]⟩,.slice none 0 0] 25) (.cells #[.int .i64 0,.int .i64 0,.string ⟨#[]⟩,.slice none 0 0] 25))
 have h1:=h.res (G':=G3 G r) HB1.out (fun b hb=>by
  rw [zaq,zaq,zaq]
  rcases hb with hb|hb|hb|hb
  ·exact .inl hb
  ·exact .inr (by omega)
  ·exact .inr (by omega)
  ·exact .inr (by omega))
 have k0:=zak (.cells #[.int .i64 0,.int .i64 0,.string ⟨#[]⟩,.slice none 0 0] 25) (zak (.cells #[.int .i64 0,.int .i64 0,.string ⟨#[]⟩,.slice none 0 0] 25) (zab (w:=w) (b:=r) (.cells (tokN x f t) 112) hr))
 have k1:=zak (.cells #[.int .i64 0,.int .i64 0,.string ⟨#[]⟩,.slice none 0 0] 25) (zab (w:=w.alloc (.cells (tokN x f t) 112)) (b:=r+1) (.cells #[.int .i64 0,.int .i64 0,.string ⟨#[]⟩,.slice none 0 0] 25) (by rw [zaq,hr]))
 have k2:=zab (w:=(w.alloc (.cells (tokN x f t) 112)).alloc (.cells #[.int .i64 0,.int .i64 0,.string ⟨#[]⟩,.slice none 0 0] 25)) (b:=r+2) (.cells #[.int .i64 0,.int .i64 0,.string ⟨#[]⟩,.slice none 0 0] 25) (by rw [zaq,zaq,hr])
 have HSG:=yb (fun (W:World) (h:zap w0 W F (G3 G r) p a cap bs yq st at_ gs osl)=>single_any h x f t)
 have hkind:∃q0 q1 q2 q3 q4 q5 q6 q7,tokN x f t=#[q0,q1,q2,q3,q4,q5,q6,q7]/\q0=.int .i64 x.kind:=⟨_,_,_,_,_,_,_,_,rfl,rfl⟩
 obtain ⟨q0,q1,q2,q3,q4,q5,q6,q7,htk,rfl⟩:=hkind
 rw [htk] at HB1 h1 k0 k1 k2 HSG |-
 have HH1:=yb h1
 have K0:=yb k0
 have K1:=yb k1
 have K2:=yb k2
 unfold zaX at hR
 have HR:=yb hR
 have HLEN:=yb hlen
 have hpw:=h.lt
 have hpr:p≠r:=by omega
 have hpr1:p≠r+1:=by omega
 have hpr2:p≠r+2:=by omega
 have hw0:w.heap.size<=r:=by omega
 have HW0:=yb hw0
 clear h1 k0 k1 k2 h hlen htk hR hpw hw0
 go_enter Tryz.func64,Tryz.ntmps64
 go_upto_region 3 with fail
 rw [<-hr]
 generalize ((w.alloc _).alloc _).alloc _=W1 at *
 generalize x.kind=kd at *
 clear hr
 by_cases hk0:kd=0
 ·subst hk0
  have hR2:=yb (HR.out.trans (yg rfl))
  obtain ⟨⟨c0,-⟩,-⟩:=zao K0.out
  obtain ⟨⟨a0,a1,a2,a3⟩,b0,b1,b2,b3⟩:=zah K1.out
  obtain ⟨⟨d0,d1,d2,d3⟩,e0,e1,e2,e3⟩:=zah K2.out
  go_wp2
  refine yi (zax rfl _ _ (r+1) 25 _ (0,0) _ rfl (by exact set4 K1.out _ _ _ _) Tryz.underlying25 rfl (by exact zaO) _ _ rfl rfl) rfl ?_
  rw [hR2.out]
  exact ⟨F,none,0,0,PV.none,rfl,fun X hX=>(by cases hX),Nxt.fin3 HS.out HB1.out (Nxt.refl HH1.out (Below.refl _ _)) HW0.out rfl _ _ _ _⟩
 have hR1:=HR.out.trans (yh hk0)
 have e0:(kd==0)=false:=by rw [yf];exact hk0
 by_cases hk2:kd=2\/kd=4
 ·have hR2:=hR1.trans (yg hk2)
  obtain ⟨dd,hdd⟩:∃dd,dd=(kd==4):=⟨_,rfl⟩
  rw [<-hdd] at hR2
  have HR2:=yb hR2
  have HBG:=yb (begin_any (show zap w0 W1.drew F (G3 G r) p a cap bs yq st at_ gs osl from HH1.out.drewN 1) dd)
  have HK0:=yb (show W1.drew.heap[r+1]?=_ from K1.out)
  clear hR1 hR2 HSG HR
  obtain ⟨⟨c0,-⟩,-⟩:=zao K0.out
  obtain ⟨⟨d0,d1,d2,d3⟩,-⟩:=zah K2.out
  have HC0:Hid (S5 W1 r kd):=yb ⟨c0,d0,d1,d2,d3⟩
  have hgo:∀wN,Nxt w0 W1.drew F (G3 G r) p a cap bs yq (zbR st dd).1 at_ F wN->∀W,W=((((wN.setCell ⟨r+1,0,none⟩ (.int .i64 0)).setCell ⟨r+1,1,none⟩ (.int .i64 0)).setCell ⟨r+1,2,none⟩ (.string ⟨#[]⟩)).setCell ⟨r+1,3,none⟩ (.slice none 0 0)) ->
    PStep w0 w F G p a cap bs yq R (.returned (.tuple #[.agg #[.int .i64 0,.int .i64 0,.string ⟨#[]⟩,.slice none 0 0],.bool false,.int .i64 (zbR st dd).2])) W:=fun wN N W hW=>by
   rw [HR2.out,hW]
   exact ⟨F,none,0,0,PV.none,rfl,fun X hX=>(by cases hX),Nxt.fin3 HS.out HB1.out.drew N HW0.out rfl _ _ _ _⟩
  have HGO:=yb hgo
  have hrr:r+1≠r:=by omega
  clear hgo
  have e4:(kd==4)=dd:=hdd.symm
  have hcase:(kd==2)=true\/((kd==2)=false/\dd=true):=by
   rcases hk2 with rfl|rfl
   ·exact .inl rfl
   ·exact .inr ⟨rfl,hdd⟩
  clear hdd hk2 hk0
  rcases hcase with e2|⟨e2,rfl⟩
  all_goals
   go_wp2
   go_region_held3 (fun w'=>w'.cell? ⟨r,0,none⟩=some (.int .i64 kd)/\w'.cell? ⟨r+2,0,none⟩=some (.int .i64 0)/\w'.cell? ⟨r+2,1,none⟩=some (.int .i64 0)/\w'.cell? ⟨r+2,2,none⟩=some (.string ⟨#[]⟩)/\w'.cell? ⟨r+2,3,none⟩=some (.slice none 0 0))
    ((show S5 _ r kd;(first
     |(with_reducible exact HC0.out.drew)
     |(with_reducible exact HC0.out)
     |(with_reducible exact Hid.out (by assumption))
     |(with_reducible exact S5.set4 (Hid.out (by assumption)) _ _ _ _))))
    ((go_at_call 102;(with_reducible refine HBG.out.mono ?_);rintro e wN ⟨rfl,hN⟩;have HSN:=yb (HC0.out.drew.stays hN.sg);have HN:=yb hN;have HK1:=yb (zbM hN.sg HK0.out (.inr (.inr (.inl rfl))));obtain ⟨⟨a0,a1,a2,a3⟩,b0,b1,b2,b3⟩:=zah HK1.out))
   all_goals
    go_wp2
    refine yi (zax rfl _ _ (r+1) 25 _ (0,0) _ rfl (by exact set4 HK1.out _ _ _ _) Tryz.underlying25 rfl (by exact zaO) _ _ rfl rfl) rfl ?_
    exact HGO.out _ HN.out _ rfl
 have e2:(kd==2)=false:=by rw [yf];intro e;exact hk2 (.inl e)
 have e4:(kd==4)=false:=by rw [yf];intro e;exact hk2 (.inr e)
 have hR2:=hR1.trans (yh hk2)
 obtain ⟨⟨c0,c1,c2,c3,c4,c5,c6,c7⟩,-⟩:=zao K0.out
 have hr12:r+1≠r+2:=by omega
 have hr21:r+2≠r+1:=by omega
 have HFL:=yb (fun b (hb:F b)=>(show b<W1.heap.size/\b≠r+2 by
  have h1:=HS.out.Flt hb
  have h2:=HB1.out.size
  have h3:=HW0.out
  omega))
 by_cases hk3:kd=3\/kd=5
 ·have hR3:=hR2.trans (yg hk3)
  obtain ⟨dd,hdd⟩:∃dd,dd=(kd==5):=⟨_,rfl⟩
  rw [<-hdd] at hR3
  have HR3:=yb hR3
  have HEN:=yb (end_any HH1.out dd HLEN.out)
  have e5:(kd==5)=dd:=hdd.symm
  have hcase:(kd==3)=true\/((kd==3)=false/\dd=true):=by
   rcases hk3 with rfl|rfl
   ·exact .inl rfl
   ·exact .inr ⟨rfl,hdd⟩
  clear hR1 hR2 hR3 HSG HR hk0 hk2 hk3 hdd c1 c2 c3 c4 c5 c6 c7
  rcases hcase with e3|⟨e3,rfl⟩
  all_goals
   go_wp2_with fail
   refine HEN.out.mono ?_
   rintro e wN ⟨F',sl,rfl,hV,hN⟩
   obtain ⟨sa,sc,rfl,-,-,-⟩:=hV.len
   have HN:=yb hN
   have HV:=yb hV
   have HK1:=yb (zbM hN.sg K1.out (.inr (.inr (.inl rfl))))
   have HK2:=yb (zbM hN.sg K2.out (.inr (.inr (.inr rfl))))
   obtain ⟨⟨a0,a1,a2,a3⟩,b0,b1,b2,b3⟩:=zah HK1.out
   obtain ⟨⟨d0,d1,d2,d3⟩,g0,g1,g2,g3⟩:=zah HK2.out
   clear hN hV c0
   generalize zcf st _=Q at *
   obtain ⟨V,st2,er⟩:=Q
   simp only at HR3 HV HN a0
   unfold pvA
   by_cases he:er=0
   ·subst he
    have HR4:=yb (HR3.out.trans (yg rfl))
    go_wp2
    refine yi (zax rfl _ _ (r+1) 25 _ (0,0) _ rfl (by exact set4 ((zaK hr12 _ _ _ _).trans HK1.out) _ _ _ _) Tryz.underlying25 rfl (by exact zaO) _ _ rfl rfl) rfl ?_
    rw [HR4.out]
    exact ⟨F',_,_,_,V,rfl,fun X hX=>⟨Option.some.inj hX,IsV.fin34 HV.out HN.out.stk _ _ _ _ _ _ _ _⟩,Nxt.fin34 HS.out HB1.out HN.out HW0.out _ _ _ _ _ _ _ _⟩
   ·have f1:(er==0)=false:=by rw [yf];exact he
    have HR4:=yb (HR3.out.trans (yh he))
    clear he
    go_wp2
    refine yi (zax rfl _ _ (r+1) 25 _ (0,0) _ rfl (by exact set4 ((zaK hr12 _ _ _ _).trans HK1.out) _ _ _ _) Tryz.underlying25 rfl (by exact zaO) _ _ rfl rfl) rfl ?_
    rw [HR4.out]
    exact ⟨F',_,_,_,V,rfl,fun X hX=>(by cases hX),Nxt.fin34 HS.out HB1.out HN.out HW0.out _ _ _ _ _ _ _ _⟩
 have hR3:=hR2.trans (yh hk3)
 have e3:(kd==3)=false:=by rw [yf];intro e;exact hk3 (.inl e)
 have e5:(kd==5)=false:=by rw [yf];intro e;exact hk3 (.inr e)
 have HR3:=yb hR3
 have HSX:=yb (HSG.out _ HH1.out)
 have HLF:=yb (single_leaf bs yq st at_ x)
 clear hR1 hR2 hR3 HSG HR hk0 hk2 hk3
 go_wp2_with fail
 refine HSX.out.mono ?_
 rintro e wN ⟨he,hs,hkp⟩
 have hN:Nxt w0 W1 F (G3 G r) p a cap bs yq st (zaP bs yq st at_ x).2.1 F wN:=⟨⟨_,_,hs⟩,⟨hkp.size,fun b hb hG=>hkp.block b hb (fun e=>HH1.out.gp (e▸hG))⟩,⟨hkp.size,fun b hb hf=>hkp.block b hb (HH1.out.notF hf)⟩,fun _ h=>h⟩
 have HN:=yb hN
 have HK1:=yb (zbM hN.sg K1.out (.inr (.inr (.inl rfl))))
 have HK2:=yb (zbM hN.sg K2.out (.inr (.inr (.inr rfl))))
 obtain ⟨⟨a0,a1,a2,a3⟩,b0,b1,b2,b3⟩:=zah HK1.out
 obtain ⟨⟨d0,d1,d2,d3⟩,g0,g1,g2,g3⟩:=zah HK2.out
 obtain ⟨ao,oc,rfl,ho1,ho2⟩:=zaG hs.own
 obtain ⟨⟨p0,p1,p2,p3⟩,-⟩:=hs.cells
 clear hN hs hkp c0 c1 c2 c3 c4 c5 c6 c7 HSX
 generalize zaP bs yq st at_ x=Q at *
 obtain ⟨V,at2,er⟩:=Q
 simp only at HR3 HN HLF he p1
 unfold pvA at he
 subst he
 by_cases he:er=0
 case neg =>
  have f1:(er==0)=false:=by rw [yf];exact he
  have HR4:=yb (HR3.out.trans (yg he))
  clear he
  go_wp2
  refine yi (zax rfl _ _ (r+1) 25 _ (0,0) _ rfl (by exact set4 ((zaK hr12 _ _ _ _).trans HK1.out) _ _ _ _) Tryz.underlying25 rfl (by exact zaO) _ _ rfl rfl) rfl ?_
  rw [HR4.out]
  exact ⟨F,_,_,_,V,rfl,fun X hX=>(by cases hX),Nxt.fin34 HS.out HB1.out HN.out HW0.out _ _ _ _ _ _ _ _⟩
 subst he
 by_cases h64:64<=st.length
 ·have hd:decide (64<=st.length)=true:=yd h64
  have hd2:decide ((64:Int)<=(st.length:Int))=true:=yd (by omega)
  have HR4:=yb ((HR3.out.trans (yh (by simp))).trans (yg h64))
  clear h64
  go_wp2
  refine yi (zax rfl _ _ (r+1) 25 _ (0,0) _ rfl (by exact set4 ((zaK hr12 _ _ _ _).trans HK1.out) _ _ _ _) Tryz.underlying25 rfl (by exact zaO) _ _ rfl rfl) rfl ?_
  rw [HR4.out]
  exact ⟨F,_,_,_,V,rfl,fun X hX=>(by cases hX),Nxt.fin34 HS.out HB1.out HN.out HW0.out _ _ _ _ _ _ _ _⟩
 ·have hd:decide (64<=st.length)=false:=ye h64
  have hd2:decide ((64:Int)<=(st.length:Int))=false:=ye (by omega)
  have HR4:=yb ((HR3.out.trans (yh (by simp))).trans (yh h64))
  clear h64
  go_wp2
  refine yi (zax rfl _ _ (r+1) 25 _ (0,0) _ rfl (by exact set4 ((zaK hr12 _ _ _ _).trans HK1.out) _ _ _ _) Tryz.underlying25 rfl (by exact zaO) _ _ rfl rfl) rfl ?_
  rw [HR4.out]
  exact ⟨F,_,_,_,V,rfl,fun X hX=>⟨Option.some.inj hX,IsV.fin34 (IsV.leaf _ _ _ HLF.out) HN.out.stk _ _ _ _ _ _ _ _⟩,Nxt.fin34 HS.out HB1.out HN.out HW0.out _ _ _ _ _ _ _ _⟩
end
def DocEnd (w:World) (R:PV×Int×Int) (e:Ending) (w':World):Prop :=
 ∃sl,e=.returned (.tuple #[pvA R.1 sl,.int .i64 R.2.1,.int .i64 R.2.2])/\IsV w' (fun b=>w.heap.size<=b) R.1 sl/\Below w.heap.size w w'
structure DvM (w W:World) (B:Nat) (tc:Array Value):Prop where
 b0:W.heap[B]?=some (.cells tc 81 (0,0))
 b1:W.heap[B+1]?=some (.cells #[.int .i64 0,.int .i64 0,.string ⟨#[]⟩,.slice none 0 0] 25 (0,0))
 b2:W.heap[B+1+1]?=some (.cells #[.int .i64 0,.int .i64 0,.string ⟨#[]⟩,.slice none 0 0] 25 (0,0))
 bel:Below w.heap.size w W
 hB:B=w.heap.size
theorem DvM.keep {w W W':World} {B:Nat} {tc:Array Value} (h:DvM w W B tc) (hb:Below W.heap.size W W'):DvM w W' B tc :=
 ⟨zaa hb h.b0,zaa hb h.b1,zaa hb h.b2,h.bel.trans (hb.mono h.bel.size),h.hB⟩
theorem DvM.fin {w W:World} {B:Nat} {tc:Array Value} (h:DvM w W B tc) (y0 y1 y2 y3:Value) :
  Below w.heap.size w ((((W.setCell ⟨B+1,0,none⟩ y0).setCell ⟨B+1,1,none⟩ y1).setCell ⟨B+1,2,none⟩ y2).setCell ⟨B+1,3,none⟩ y3):=zan h.bel (by have:=h.hB;omega) _ _ _ _
theorem DvM.start (w:World) (x:Array Value) {B:Nat} (hB:B=w.heap.size):DvM w (((w.alloc (.cells x 81)).alloc (.cells #[.int .i64 0,.int .i64 0,.string ⟨#[]⟩,.slice none 0 0] 25)).alloc (.cells #[.int .i64 0,.int .i64 0,.string ⟨#[]⟩,.slice none 0 0] 25)) B x :=
 ⟨zak _ (zak _ (zab _ hB)),zak _ (zab _ (by rw [zaq,hB])),zab _ (by rw [zaq,zaq,hB]),zf9 _ _ _ _,hB⟩
def dctV (ps:List (PV×PV)):PV:=.mk 7 0 [] (ze6 ps)
structure PutM (w W:World) (B:Nat) (dc xc:Array Value):Prop where
 b0:W.heap[B]?=some (.cells dc 25 (0,0))
 b1:W.heap[B+1]?=some (.cells xc 25 (0,0))
 b2:W.heap[B+1+1]?=some (.cells #[.int .i64 0,.int .i64 0,.string ⟨#[]⟩,.slice none 0 0] 25 (0,0))
 bel:Below w.heap.size w W
 hB:B=w.heap.size
theorem PutM.keep {w W W':World} {B:Nat} {dc xc:Array Value} (h:PutM w W B dc xc) (hb:Below W.heap.size W W'):PutM w W' B dc xc :=
 ⟨zaa hb h.b0,zaa hb h.b1,zaa hb h.b2,h.bel.trans (hb.mono h.bel.size),h.hB⟩
def PairAt (w:World) (b o K:Nat) (yk yn:Int) (ys:ByteArray) (yv:Value) (zk zn:Int) (zs:ByteArray) (zv:Value):Prop :=
 (w.cell? ⟨b,o+K*4,none⟩=some (.int .i64 yk)/\w.cell? ⟨b,o+K*4+1,none⟩=some (.int .i64 yn)/\w.cell? ⟨b,o+K*4+2,none⟩=some (.string ys)/\w.cell? ⟨b,o+K*4+3,none⟩=some yv) /\
 (w.cell? ⟨b,o+(K+1)*4,none⟩=some (.int .i64 zk)/\w.cell? ⟨b,o+(K+1)*4+1,none⟩=some (.int .i64 zn)/\w.cell? ⟨b,o+(K+1)*4+2,none⟩=some (.string zs)/\w.cell? ⟨b,o+(K+1)*4+3,none⟩=some zv)
theorem PairAt.keep {w W:World} {b o K:Nat} {yk yn:Int} {ys:ByteArray} {yv:Value} {zk zn:Int} {zs:ByteArray} {zv:Value} (h:PairAt w b o K yk yn ys yv zk zn zs zv) (hb:Below w.heap.size w W):PairAt W b o K yk yn ys yv zk zn zs zv :=
 let ⟨⟨a1,a2,a3,a4⟩,c1,c2,c3,c4⟩:=h
 ⟨⟨cell?_keep hb a1,cell?_keep hb a2,cell?_keep hb a3,cell?_keep hb a4⟩,cell?_keep hb c1,cell?_keep hb c2,cell?_keep hb c3,cell?_keep hb c4⟩
mutual
theorem IsV.lt {w:World} {F:Nat->Prop}:∀(v:PV) {sl:Value},IsV w F v sl->IsV w (fun b=>F b/\b<w.heap.size) v sl
 | .mk _ _ _ l,_,⟨a,cap,cs,h,hr,hF,hs⟩=>⟨a,cap,cs,h,hr,fun h0 x hx=>⟨hF h0 x hx,by
   obtain ⟨b,off,ha,hb,_⟩:=hr.2.2.2.2 h0
   rw [ha] at hx
   cases hx
   exact hb⟩,IsVs.lt l hs⟩
theorem IsVs.lt {w:World} {F:Nat->Prop}:∀(l:List PV) {cs:List Value},IsVs w F l cs->IsVs w (fun b=>F b/\b<w.heap.size) l cs
 | [],_,h=>h
 | v::l,_,⟨sl,t,h,hv,ht⟩=>⟨sl,t,h,IsV.lt v hv,IsVs.lt l ht⟩
end
def ArrM (Q:Nat) (w:World) (v:Value) (n:Nat) (l:List PV):Prop:=∃cs,w.ownsRow Q 25 4 v n cs/\IsVs w (fun b=>Q<=b/\b<w.heap.size/\v.ownBlock≠some b) l cs
theorem ArrM.keep {Q:Nat} {w W:World} {v:Value} {n:Nat} {l:List PV} (h:ArrM Q w v n l) (hb:Below w.heap.size w W):ArrM Q W v n l :=
 let ⟨cs,h1,h2⟩:=h
 ⟨cs,zaS h1 hb,IsVs.keep (zaJ.of_below hb) (fun _ h=>⟨h.1,Nat.lt_of_lt_of_le h.2.1 hb.size,h.2.2⟩) _ h2⟩
theorem ArrM.push {Q:Nat} {w w':World} {v v':Value} {n:Nat} {l:List PV} {cs:List Value} (h2:IsVs w (fun b=>Q<=b/\b<w.heap.size/\v.ownBlock≠some b) l cs) {x:PV} {sx:Value} (hx:IsV w (fun b=>Q<=b/\b<w.heap.size/\v.ownBlock≠some b) x sx) {o:Obj}
  (hO:w'.ownsRow Q 25 4 v' (n+1) (cs++pvC x sx)) (hg:(w.alloc o).grownBy w' v.ownBlock) (hn:NewAt (w.alloc o) v v'):ArrM Q w' v' (n+1) (l++[x]):=by
 have hs:w.heap.size<=w'.heap.size:=Nat.le_trans (by rw [zaq];omega) hg.size
 refine ⟨_,hO,IsVs.keep (F:=fun b=>Q<=b/\b<w.heap.size/\v.ownBlock≠some b) ⟨hs,fun b hb hF=>?_⟩ (fun b hF=>⟨hF.1,Nat.lt_of_lt_of_le hF.2.1 hs,fun e=>?_⟩) _ (h2.snoc hx)⟩
 ·rw [hg.block b (by rw [zaq];omega) (fun e=>hF.2.2 e.symm)]
  exact (zae w o).block b hb
 ·rcases hn b e with e|e
  ·exact hF.2.2 e
  ·rw [zaq] at e;omega
theorem rep_mem {x:PV×PV}:∀(l:List (PV×PV)) (y:PV×PV),y∈repK x l->∃z∈l,z.1=y.1
 | [],y,h=>by cases h
 | z::l,y,h=>by
  unfold repK at h
  split at h
  ·rcases List.mem_cons.1 h with rfl|h
   ·exact ⟨z,List.mem_cons_self,rfl⟩
   ·exact ⟨y,List.mem_cons_of_mem _ h,rfl⟩
  ·rcases List.mem_cons.1 h with rfl|h
   ·exact ⟨y,List.mem_cons_self,rfl⟩
   ·obtain ⟨u,hu,e⟩:=rep_mem l y h
    exact ⟨u,List.mem_cons_of_mem _ hu,e⟩
theorem put_kind {x:PV×PV} {l:List (PV×PV)} (hx:x.1.kind=5) (h:∀y∈l,y.1.kind=5):∀y∈putK x l,y.1.kind=5:=by
 intro y hy
 unfold putK at hy
 split at hy
 ·obtain ⟨z,hz,e⟩:=rep_mem l y hy
  rw [<-e];exact h z hz
 ·rcases (zfX l).1 hy with rfl|hy
  ·exact hx
  ·exact h y hy
structure DicM (w wr:World) (B:Nat) (sl:Value) (ps:List (PV×PV)):Prop where
 b0:wr.heap[B]?=some (.cells #[.int .i64 0,.int .i64 0,.string ⟨#[]⟩,.slice none 0 0] 25 (0,0))
 b1:wr.heap[B+1]?=some (.cells #[.int .i64 7,.int .i64 0,.string ⟨#[]⟩,sl] 25 (0,0))
 val:IsV wr (fun b=>B+1<b) (dctV ps) sl
 kinds:∀y∈ps,y.1.kind=5
 bel:Below w.heap.size w wr
 hB:w.heap.size<=B
theorem DicM.keep {w wr W:World} {B:Nat} {sl:Value} {ps:List (PV×PV)} (h:DicM w wr B sl ps) (hb:Below wr.heap.size wr W):DicM w W B sl ps :=
 ⟨zaa hb h.b0,zaa hb h.b1,h.val.below hb,h.kinds,h.bel.trans (hb.mono h.bel.size),h.hB⟩
theorem DicM.start (w:World) {B:Nat} (hB:B=w.heap.size):DicM w ((w.alloc (.cells #[.int .i64 0,.int .i64 0,.string ⟨#[]⟩,.slice none 0 0] 25)).alloc (.cells #[.int .i64 7,.int .i64 0,.string ⟨#[]⟩,.slice none 0 0] 25)) B (.slice none 0 0) [] :=
 ⟨zak _ (zab _ hB),zab _ (by rw [zaq,hB]),IsV.leaf _ _ _ rfl,fun y hy=>(by cases hy),zaF _ _ _,Nat.le_of_eq hB.symm⟩
theorem DicM.put {w wr W:World} {B:Nat} {sl s':Value} {ps:List (PV×PV)} {x:PV×PV} (h:DicM w wr B sl ps) (hx:x.1.kind=5) (hv:IsV W (fun b=>B+1<b\/wr.heap.size<=b) (dctV (putK x ps)) s') (hb:Below wr.heap.size wr W) :
  DicM w ((((W.setCell ⟨B+1,0,none⟩ (.int .i64 7)).setCell ⟨B+1,1,none⟩ (.int .i64 0)).setCell ⟨B+1,2,none⟩ (.string ⟨#[]⟩)).setCell ⟨B+1,3,none⟩ s') B s' (putK x ps):=by
 have hl:=zal h.b1
 have hB:=h.hB
 refine ⟨(zbL (by omega) _ _ _ _).trans (zaa hb h.b0),set4 (zaa hb h.b1) _ _ _ _,IsV.keep ⟨by rw [za3];exact yp _,fun b _ hF=>zbL ?_ _ _ _ _⟩ (fun b hF=>?_) _ hv,put_kind hx h.kinds,zan (h.bel.trans (hb.mono h.bel.size)) (by omega) _ _ _ _,h.hB⟩
 ·rcases hF with hF|hF<;>omega
 ·rcases hF with hF|hF
  ·exact hF
  ·show B+1<b
   omega
theorem DicM.fin {w W:World} {B:Nat} {sl:Value} {ps:List (PV×PV)} (h:DicM w W B sl ps) (y0 y1 y2 y3:Value) :
  Below w.heap.size w ((((W.setCell ⟨B,0,none⟩ y0).setCell ⟨B,1,none⟩ y1).setCell ⟨B,2,none⟩ y2).setCell ⟨B,3,none⟩ y3):=zan h.bel h.hB _ _ _ _
structure VAt (w W:World) (F:Nat->Prop) (r p:Nat) (a:Option Addr) (cap:Nat) (bs:List UInt8) (yq:Bool) (V:PV×Int×Int) (n:Nat) (st:List Lv) (at_:Int):Prop where
 stk:Stk w W F (fun b=>b=r) p a cap bs yq st at_
 res:W.heap[r]?=some (.cells #[.int .i64 0,.int .i64 0,.string ⟨#[]⟩,.slice none 0 0] 25 (0,0))
 fuel:valO bs yq n st at_=some V
 len:∀v∈st,(v.l.length:Int)<=at_
 rng:st=[]\/(0<=at_/\at_<=bs.length)
def ValI (w:World) (r p:Nat) (a:Option Addr) (cap:Nat) (bs:List UInt8) (yq:Bool) (at0:Int) (V:PV×Int×Int) (n:Nat) (act:Act) (W:World):Prop :=
 ∃(F:Nat->Prop) (st:List Lv) (at_:Int) (u10 u11 u12 u13 u14 u15 u16 u17 u18 u19 u20 u21 u22 u23 u24 u25 u26 u27 u28 u29 u30 u31 u32 u33 u34 u35 u36 u37 u38 u39 u40 u41 u42 u43 u44 u45 u46 u47 u48 u49 u50 u51 u52 u53 u54 u55 u56 u57 u58 u59 u60 u61:Value),Hid (VAt w W F r p a cap bs yq V n st at_) /\
  act={ tmps:=#[.slice a bs.length cap,.int .i64 at0,.bool yq,undef,undef,undef,.pointer (some ⟨r,0,none⟩),.int .i64 0,.int .i64 0,.pointer (some ⟨p,0,none⟩),u10,u11,u12,u13,u14,u15,u16,u17,u18,u19,u20,u21,u22,u23,u24,u25,u26,u27,u28,u29,u30,u31,u32,u33,u34,u35,u36,u37,u38,u39,u40,u41,u42,u43,u44,u45,u46,u47,u48,u49,u50,u51,u52,u53,u54,u55,u56,u57,u58,u59,u60,u61],defers:=[] }
def ValEnd (w:World) (V:PV×Int×Int) (e:Ending) (w':World):Prop :=
 ∃sl,e=.returned (.tuple #[pvA V.1 sl,.int .i64 V.2.1,.int .i64 V.2.2])/\IsV w' (fun b=>w.heap.size<=b) V.1 sl/\Below w.heap.size w w'
theorem VAt.small {w W:World} {F:Nat->Prop} {r p:Nat} {a:Option Addr} {cap:Nat} {bs:List UInt8} {yq:Bool} {V:PV×Int×Int} {n:Nat} {st:List Lv} {at_:Int} (h:VAt w W F r p a cap bs yq V n st at_):∀v∈st,v.l.length<=400000:=by
 intro v hv
 obtain ⟨gs,osl,hs⟩:=h.stk
 have:=h.len v hv
 have hsm:=hs.small
 rcases h.rng with h0|h0
 ·subst h0;cases hv
 ·omega
theorem stepV_len {bs:List UInt8} {yq:Bool} {st:List Lv} {k:Int} {t:Tk} {N:Int} (hN:0<=N) (h:∀v∈st,(v.l.length:Int)<=N):∀v∈(zaX bs yq st k t).2.1,(v.l.length:Int)<=N:=by
 unfold zaX
 split
 ·exact h
 ·split
  ·show ∀v∈(zbR st _).1,_
   unfold zbR
   split
   ·exact h
   ·split
    ·exact h
    ·intro v hv
     rcases List.mem_cons.1 hv with rfl|hv
     ·exact hN
     ·exact h v hv
  ·split
   ·have he:∀d,∀v∈(zcf st d).2.1,(v.l.length:Int)<=N:=by
     intro d
     unfold zcf
     split
     ·exact h
     ·rename_i v rest
      have hr:∀u∈rest,(u.l.length:Int)<=N:=fun u hu=>h u (List.mem_cons_of_mem _ hu)
      split
      ·exact h
      ·split
       ·exact hr
       ·split
        ·exact h
        ·exact hr
    simp only
    split
    ·exact he _
    ·exact he _
   ·simp only
    split
    ·exact h
    ·split
     ·exact h
     ·exact h
theorem IsV.setr {w W:World} {F:Nat->Prop} {r p:Nat} {a:Option Addr} {cap:Nat} {bs:List UInt8} {yq:Bool} {st:List Lv} {at_:Int} {gs:List Nat} {osl:Value} {v:PV} {sl:Value} (h:IsV W F v sl) (hs:zap w W F (fun b=>b=r) p a cap bs yq st at_ gs osl) (y0 y1 y2 y3:Value) :
  IsV ((((W.setCell ⟨r,0,none⟩ y0).setCell ⟨r,1,none⟩ y1).setCell ⟨r,2,none⟩ y2).setCell ⟨r,3,none⟩ y3) (fun b=>w.heap.size<=b) v sl :=
 IsV.keep ⟨by rw [za3];exact yp _,fun b _ hf=>zaK (fun e=>(hs.fb b hf).2.1 e) _ _ _ _⟩ (fun b hf=>(hs.fb b hf).1) v h
def S5v (w:World) (v:Nat) (y0 y1 y2 y3:Value):Prop:=w.cell? ⟨v,0,none⟩=some y0/\w.cell? ⟨v,1,none⟩=some y1/\w.cell? ⟨v,2,none⟩=some y2/\w.cell? ⟨v,3,none⟩=some y3
theorem S5v.drew {w:World} {v:Nat} {y0 y1 y2 y3:Value} (h:S5v w v y0 y1 y2 y3):S5v w.drew v y0 y1 y2 y3:=h
theorem S5v.alloc {w:World} {v:Nat} {y0 y1 y2 y3:Value} (h:S5v w v y0 y1 y2 y3) (o:Obj):S5v (w.alloc o) v y0 y1 y2 y3 :=
 ⟨zaY o h.1,zaY o h.2.1,zaY o h.2.2.1,zaY o h.2.2.2⟩
theorem S5v.grown {w w':World} {row:Option Nat} {v:Nat} {y0 y1 y2 y3:Value} (h:S5v w v y0 y1 y2 y3) (hg:w.grownBy w' row) (h2:row≠some v):S5v w' v y0 y1 y2 y3:=by
 have k:∀b o y,row≠some b->w.cell? ⟨b,o,none⟩=some y->w'.cell? ⟨b,o,none⟩=some y:=fun b o y hb hc=>by
  rw [World.cell?_of_block (w:=w) (a:=⟨b,o,none⟩) (hg.block b (World.block_lt_of_cell? w _ hc) (fun e=>hb e.symm))];exact hc
 exact ⟨k _ _ _ h2 h.1,k _ _ _ h2 h.2.1,k _ _ _ h2 h.2.2.1,k _ _ _ h2 h.2.2.2⟩
theorem S5v.set {w:World} {v b:Nat} {y0 y1 y2 y3:Value} (h:S5v w v y0 y1 y2 y3) (h2:v≠b) (o:Nat) (z:Value):S5v (w.setCell ⟨b,o,none⟩ z) v y0 y1 y2 y3:=by
 have k:∀c o' y,c≠b->w.cell? ⟨c,o',none⟩=some y->(w.setCell ⟨b,o,none⟩ z).cell? ⟨c,o',none⟩=some y:=fun c o' y hb hc=>by
  rw [World.cell?_of_block (w:=w) (a:=⟨c,o',none⟩) (heap_setCell_other _ _ _ _ hb)];exact hc
 exact ⟨k _ _ _ h2 h.1,k _ _ _ h2 h.2.1,k _ _ _ h2 h.2.2.1,k _ _ _ h2 h.2.2.2⟩
theorem owns_lastC {w:World} {base g n cap:Nat} {cs:List Value} {z0 z1 z2 z3:Value} (h:w.ownsRow base 25 4 (.slice (some ⟨g,0,none⟩) (n+1) cap) (n+1) (cs++[z0,z1,z2,z3])) :
  (w.cell? ⟨g,n*4,none⟩=some z0/\w.cell? ⟨g,n*4+1,none⟩=some z1/\w.cell? ⟨g,n*4+2,none⟩=some z2/\w.cell? ⟨g,n*4+3,none⟩=some z3)/\(∀j,w.frozen? ⟨g,j,none⟩=false):=by
 have hl:cs.length=n*4:=by have:=h.1;simp at this;omega
 rcases h.2 with ⟨e,-⟩|⟨g',cap',cur,e,hb,hh,hn,hm,hs,ht⟩
 ·cases e
 ·simp only [Value.slice.injEq,Option.some.injEq,Addr.mk.injEq] at e
  obtain ⟨⟨rfl,-⟩,-,rfl⟩:=e
  have hc:∀j z,(cs++[z0,z1,z2,z3])[j]?=some z->w.cell? ⟨g,j,none⟩=some z:=fun j z hj=>by
   rw [cell_of_row w g j cur _ _ hh]
   rw [<-ht,List.getElem?_take] at hj
   split at hj
   ·simpa using hj
   ·cases hj
  refine ⟨⟨hc _ _ ?_,hc _ _ ?_,hc _ _ ?_,hc _ _ ?_⟩,fun j=>frozen_of_row w g j cur _ hh⟩
  ·rw [List.getElem?_append_right (by omega)];simp [hl]
  ·rw [List.getElem?_append_right (by omega)];simp [hl]
  ·rw [List.getElem?_append_right (by omega)];simp [hl]
  ·rw [List.getElem?_append_right (by omega)];simp [hl]
theorem owns_setLast {w:World} {base g n cap:Nat} {cs:List Value} {z0 z1 z2 z3 y0 y1 y2 y3:Value} (h:w.ownsRow base 25 4 (.slice (some ⟨g,0,none⟩) (n+1) cap) (n+1) (cs++[z0,z1,z2,z3])) :
  ((((w.setCell ⟨g,n*4,none⟩ y0).setCell ⟨g,n*4+1,none⟩ y1).setCell ⟨g,n*4+2,none⟩ y2).setCell ⟨g,n*4+3,none⟩ y3).ownsRow base 25 4 (.slice (some ⟨g,0,none⟩) (n+1) cap) (n+1) (cs++[y0,y1,y2,y3]):=by
 have hl:cs.length=n*4:=by have:=h.1;simp at this;omega
 rcases h.2 with ⟨e,-⟩|⟨g',cap',cur,e,hb,hh,hn,hm,hs,ht⟩
 ·cases e
 ·simp only [Value.slice.injEq,Option.some.injEq,Addr.mk.injEq] at e
  obtain ⟨⟨rfl,-⟩,-,rfl⟩:=e
  have e0:=heap_setCell_same w g (n*4) cur _ y0 hh
  have e1:=heap_setCell_same _ g (n*4+1) _ _ y1 e0
  have e2:=heap_setCell_same _ g (n*4+2) _ _ y2 e1
  have e3:=heap_setCell_same _ g (n*4+3) _ _ y3 e2
  refine ⟨by simp [hl];omega,.inr ⟨g,cap,_,rfl,hb,e3,hn,hm,by simpa using hs,?_⟩⟩
  have hcur:∀j,j<n*4->cur.toList[j]?=cs[j]?:=fun j hj=>by
   have:=congrArg (fun l=>l[j]?) ht
   simp only [List.getElem?_take] at this
   rw [yg (by omega),List.getElem?_append_left (by omega)] at this
   exact this
  apply List.ext_getElem?
  intro j
  rw [List.getElem?_take]
  simp only [Array.toList_setIfInBounds,List.getElem?_set,List.length_set,Array.length_toList]
  by_cases hj:j<(n+1)*4
  ·rw [yg hj]
   by_cases h3:n*4+3=j
   ·subst h3;rw [List.getElem?_append_right (by omega)];simp [hl];omega
   ·by_cases h2:n*4+2=j
    ·subst h2;rw [List.getElem?_append_right (by omega)];simp [hl];omega
    ·by_cases h1:n*4+1=j
     ·subst h1;rw [List.getElem?_append_right (by omega)];simp [hl];omega
     ·by_cases h0:n*4=j
      ·subst h0;rw [List.getElem?_append_right (by omega)];simp [hl];omega
      ·simp only [h0,h1,h2,h3,if_false]
       rw [List.getElem?_append_left (by omega)];exact hcur j (by omega)
  ·rw [yh hj,List.getElem?_eq_none (by simp [hl];omega)]
theorem zb0 (w:World) {g b:Nat} (h:g≠b) (i j:Nat) (u v:Value):(w.setCell ⟨g,i,none⟩ u).setCell ⟨b,j,none⟩ v=(w.setCell ⟨b,j,none⟩ v).setCell ⟨g,i,none⟩ u:=by
 unfold World.setCell
 simp only
 congr 1
 apply Array.ext_getElem?
 intro k
 simp only [Array.getElem?_modify]
 by_cases h1:g=k
 ·subst h1
  have h2:¬b=g:=fun e=>h e.symm
  simp [h2]
 ·by_cases h2:b=k
  ·subst h2;simp [h1]
  ·simp [h1,h2]
theorem zfY (w:World) {g b:Nat} (h:g≠b) (i j0 j1 j2 j3:Nat) (u v0 v1 v2 v3:Value) :
  ((((w.setCell ⟨g,i,none⟩ u).setCell ⟨b,j0,none⟩ v0).setCell ⟨b,j1,none⟩ v1).setCell ⟨b,j2,none⟩ v2).setCell ⟨b,j3,none⟩ v3=((((w.setCell ⟨b,j0,none⟩ v0).setCell ⟨b,j1,none⟩ v1).setCell ⟨b,j2,none⟩ v2).setCell ⟨b,j3,none⟩ v3).setCell ⟨g,i,none⟩ u:=by
 rw [zb0 w h,zb0 _ h,zb0 _ h,zb0 _ h]
theorem VAt.put {w W5 w7:World} {F:Nat->Prop} {r v4 p:Nat} {a:Option Addr} {cap:Nat} {bs:List UInt8} {yq:Bool} {V:PV×Int×Int} {n:Nat} {top:Lv} {rest:List Lv} {at2:Int} {g:Nat} {t:List Nat} {osl:Value}
  (HG5:zap w W5 F (fun b=>b=r\/b=v4) p a cap bs yq (top::rest) at2 (g::t) osl) (HR5:W5.heap[r]?=some (.cells #[.int .i64 0,.int .i64 0,.string ⟨#[]⟩,.slice none 0 0] 25 (0,0)))
  {ta:Option Addr} {tn tc:Nat} (HGL:W5.heap[g]?=some (.cells #[.bool top.dict,.slice ta tn tc] 128 (0,0))) {cs:List Value} (HVS:IsVs W5 F top.l cs) {X:PV} {sa:Option Addr} {sn sc:Nat} (HX:IsV W5 F X (.slice sa sn sc)) (HTN:tn=top.l.length)
  {o:Obj} (HG7:((W5.alloc o).drew).grownBy w7 (Value.slice ta tn tc).ownBlock) {g7 cap7:Nat} {z0 z1 z2 z3:Value}
  (HO7:w7.ownsRow w.heap.size 25 4 (.slice (some ⟨g7,0,none⟩) (tn+1) cap7) (tn+1) (cs++[z0,z1,z2,z3])) (HAT:(Value.slice ta tn tc).ownBlock=some g7\/g7=W5.heap.size+1)
  (hv:valO bs yq n ({ top with l:=top.l++[X] }::rest) at2=some V) (hlen:∀v∈top::rest,(v.l.length:Int)+1<=at2) (hrng:0<=at2/\at2<=bs.length) :
  VAt w (((((w7.setCell ⟨g7,tn*4,none⟩ (.int .i64 X.kind)).setCell ⟨g7,tn*4+1,none⟩ (.int .i64 X.n)).setCell ⟨g7,tn*4+2,none⟩ (.string (mkB X.s))).setCell ⟨g7,tn*4+3,none⟩ (.slice sa sn sc)).setCell ⟨g,1,none⟩ (.slice (some ⟨g7,0,none⟩) (tn+1) cap7)) F r p a cap bs yq V n ({ top with l:=top.l++[X] }::rest) at2:=by
 subst HTN
 have hk:zaf (fun b=>(Value.slice ta top.l.length tc).ownBlock=some b) W5 ((((w7.setCell ⟨g7,top.l.length*4,none⟩ (.int .i64 X.kind)).setCell ⟨g7,top.l.length*4+1,none⟩ (.int .i64 X.n)).setCell ⟨g7,top.l.length*4+2,none⟩ (.string (mkB X.s))).setCell ⟨g7,top.l.length*4+3,none⟩ (.slice sa sn sc)):=by
  have h0:zaf (fun b=>(Value.slice ta top.l.length tc).ownBlock=some b) W5 w7 :=
   (zat (zae W5 o).drew).grown HG7 fun k hk=>.inl hk
  have hg7:(Value.slice ta top.l.length tc).ownBlock=some g7\/W5.heap.size<=g7:=by rcases HAT with h|h;exact .inl h;exact .inr (by omega)
  exact (((h0.setCell (a:=⟨g7,_,none⟩) hg7 _).setCell (a:=⟨g7,_,none⟩) hg7 _).setCell (a:=⟨g7,_,none⟩) hg7 _).setCell (a:=⟨g7,_,none⟩) hg7 _
 have N:=HG5.put HGL HVS HX (v':=.slice (some ⟨g7,0,none⟩) (top.l.length+1) cap7) (owns_setLast HO7) hk (fun b hb=>by
  have hb:g7=b:=by simpa [Value.ownBlock] using hb
  subst hb
  rcases HAT with h|h;exact .inl h;exact .inr (by omega))
 refine ⟨(let ⟨gs2,osl2,h⟩:=N.stk;⟨gs2,osl2,h.give fun b hb=>.inl hb⟩),zbM N.sg HR5 (.inl rfl),hv,fun v hv=>?_,.inr hrng⟩
 rcases List.mem_cons.1 hv with rfl|hv
 ·have:=hlen top List.mem_cons_self
  simpa using this
 ·have:=hlen v (List.mem_cons_of_mem _ hv)
  omega
set_option maxRecDepth 100000 in
theorem value_any {w:World} {a:Option Addr} {cap:Nat} {bs:List UInt8} (hr:Row w 1 a bs.length cap (bs.map u8C)) (hn:bs.length<=400000) (at0:Int) (yq:Bool) (V:PV×Int×Int) (hV:valO bs yq (bs.length+2) [] at0=some V) :
  Calls Tryz.prog 30 #[.slice a bs.length cap,.int .i64 at0,.bool yq] w (ValEnd w V):=by
 obtain ⟨r,hrr⟩:∃r,r=w.heap.size:=⟨_,rfl⟩
 have hs0:zap w ((w.alloc (.cells #[.int .i64 0,.int .i64 0,.string ⟨#[]⟩,.slice none 0 0] 25)).alloc (.cells #[.slice a bs.length cap,.int .i64 at0,.bool yq,.slice none 0 0] 122)) (fun _=>False) (fun b=>b=r) (r+1) a cap bs yq [] at0 [] (.slice none 0 0) :=
  ⟨zab _ (by rw [zaq,hrr]),by omega,by omega,World.ownsRow_nil _ _ _ _,fun b hb=>(by cases hb),rfl,fun b hb=>hb.elim,fun b hb=>by rw [zaq,zaq];omega,zaF w _ _,hr,hn,by simp⟩
 have HAT:=yb (show VAt w ((w.alloc (.cells #[.int .i64 0,.int .i64 0,.string ⟨#[]⟩,.slice none 0 0] 25)).alloc (.cells #[.slice a bs.length cap,.int .i64 at0,.bool yq,.slice none 0 0] 122)) (fun _=>False) r (r+1) a cap bs yq V (bs.length+2) [] at0 from
  ⟨⟨_,_,hs0⟩,zak _ (zab _ hrr),hV,fun v hv=>(by cases hv),.inl rfl⟩)
 have HRR:=yb hrr
 clear hs0 hV hr hn hrr
 go_enter Tryz.func30,Tryz.ntmps30
 go_wp2
 refine zb2 0 (ValI w r (r+1) a cap bs yq at0 V) rfl ?first ?pass
 case first =>
  intro hpass
  have HPASS:=yb hpass
  clear hpass
  go_wp2
  rw [<-HRR.out]
  refine wp_label ?_
  rename_i K hK
  exact hK _ _ (HPASS.out _ _ _ ⟨_,[],at0,_,_,_,_,_,_,_,_,_,_,_,_,_,_,_,_,_,_,_,_,_,_,_,_,_,_,_,_,_,_,_,_,_,_,_,_,_,_,_,_,_,_,_,_,_,_,_,_,_,_,_,_,HAT,rfl⟩)
 case pass =>
  rintro n act W ⟨F,st,at_,u10,u11,u12,u13,u14,u15,u16,u17,u18,u19,u20,u21,u22,u23,u24,u25,u26,u27,u28,u29,u30,u31,u32,u33,u34,u35,u36,u37,u38,u39,u40,u41,u42,u43,u44,u45,u46,u47,u48,u49,u50,u51,u52,u53,u54,u55,u56,u57,u58,u59,u60,u61,HA,rfl⟩
  obtain ⟨p,hp⟩:∃p,p=r+1:=⟨_,rfl⟩
  rw [<-hp] at HA |-
  have HP:=yb hp
  clear hp HAT
  obtain ⟨gs,osl,hs⟩:=HA.out.stk
  have HS:=yb hs
  have HNX:=yb (pnext_any hs)
  have HFU:=yb HA.out.fuel
  have HRES:=yb HA.out.res
  have hrl:r<W.heap.size:=zal HA.out.res
  have hpr:p≠r:=hs.gp
  have HLEN:=yb HA.out.len
  have HSM:=yb HA.out.small
  have HRNG:=yb HA.out.rng
  have HHR:=yb (show w.heap.size<=r by rw [HRR.out];exact yp _)
  have hfu:=HFU.out
  cases n with
  | zero=>cases hfu
  | succ n =>
  unfold valO at hfu
  simp only at hfu
  obtain ⟨T,hT⟩:∃T,T=zaj bs at_ yq:=⟨_,rfl⟩
  rw [<-hT] at hfu HNX
  have HT:=yb hT
  obtain ⟨x,tf,tt,er⟩:=T
  simp only at hfu HNX
  clear hs hT HFU HA
  by_cases her:er=0
  case neg =>
   have hv:=hfu
   rw [yg her] at hv
   have HV:=yb (Option.some.inj hv).symm
   have e1:(er==0)=false:=by rw [yf];exact her
   have e2:(er != 0)=true:=by simp only [bne,e1,yj]
   clear hfu hv her
   unfold tokN at HNX
   go_wp2_with fail
   refine HNX.out.mono ?_
   rintro e w1 ⟨rfl,hs1,hk1⟩
   have HR1:=yb ((hk1.alloc (.cells (tokN x tf tt) 112)).obj HRES.out (Ne.symm hpr))
   have HB1:=yb (hs1.bel.alloc hs1.bel.size (.cells (tokN x tf tt) 112))
   unfold tokN at HR1 HB1
   obtain ⟨⟨k0,k1,k2,k3⟩,m0,m1,m2,m3⟩:=zah HR1.out
   clear hs1 hk1
   go_upto_region 3 with fail
   generalize w1.alloc _=W2 at *
   go_wp2
   try simp only [Exit.jump]
   refine yi (zax rfl _ _ r 25 _ (0,0) _ rfl (by exact set4 HR1.out _ _ _ _) Tryz.underlying25 rfl (by exact zaO) _ _ rfl rfl) rfl ?_
   rw [HV.out]
   exact ⟨.slice none 0 0,rfl,IsV.leaf _ _ _ rfl,zan HB1.out HHR.out _ _ _ _⟩
  subst her
  have hv:=hfu
  rw [yh (by simp)] at hv
  have hrng:0<=at_/\at_<=bs.length:=by
   have h:=HT.out
   by_cases ho:at_<0\/(bs.length:Int)<at_
   ·unfold zaj at h
    rw [yg ho] at h
    have h2:=congrArg (fun z:Tk×Int×Int×Int=>z.2.2.2) h
    simp at h2
   ·omega
  have hst:=fun w1 (h1:zap w w1 F (fun b=>b=r) p a cap bs yq st tt gs osl)=>step_any h1 x tf tt HSM.out
  have HST:=yb hst
  have hat:=fun h=>zc0 (bs:=bs) (k:=at_) (yq:=yq) hrng.1 hrng.2 (by rw [<-HT.out]) h
  rw [<-HT.out] at hat
  have hto:=za8 (bs:=bs) (k:=at_) yq hrng.1 hrng.2
  rw [<-HT.out] at hto
  simp only at hat hto
  have hsa:=stepV_at (bs:=bs) (yq:=yq) (k:=tt) (by omega) hto.2 st x
  have hsk:=fun h=>zfl (bs:=bs) (yq:=yq) (k:=tt) (st:=st) (t:=x) h
  have hsl:=stepV_len (bs:=bs) (yq:=yq) (st:=st) (k:=tt) (t:=x) (N:=at_) hrng.1 HLEN.out
  obtain ⟨R,hRR⟩:∃R,R=zaX bs yq st tt x:=⟨_,rfl⟩
  rw [<-hRR] at hsa hsk hsl hv
  have HST2:=yb (show ∀w1,zap w w1 F (fun b=>b=r) p a cap bs yq st tt gs osl->Calls Tryz.prog 64 #[.pointer (some ⟨p,0,none⟩),.agg (tokN x tf tt)] w1 (PStep w w1 F (fun b=>b=r) p a cap bs yq R) from fun w1 h1=>by rw [hRR];exact hst w1 h1)
  obtain ⟨o,st2,at2,er2⟩:=R
  simp only at hsa hsk hsl hv
  have HV:=yb hv
  have HSL:=yb hsl
  have HSA:=yb hsa
  have HSK:=yb (fun h=>hat (hsk h))
  have HTO:=yb hto
  have HR0:=yb hrng
  clear hst HST hat hto hsa hsk hsl hRR hv hfu hrng HT
  unfold tokN at HNX HST2
  go_wp2_with fail
  refine HNX.out.mono ?_
  rintro e w1 ⟨rfl,hs1,hk1⟩
  have HR1:=yb (hk1.obj HRES.out (Ne.symm hpr))
  have HS1:=yb hs1
  clear hs1 hk1 HNX
  go_wp2_with fail
  refine (HST2.out _ (HS1.out.alloc _)).mono ?_
  rintro e w3 ⟨F',sa,sn,sc,X,rfl,hX,hN⟩
  have HX:=yb hX
  have HN:=yb hN
  have HR3:=yb (zbM hN.sg (zak (.cells #[.int .i64 x.kind,.int .i64 tf,.int .i64 tt,.int .i64 x.vk,.int .i64 x.vn,.string (mkB x.vs),.slice none 0 0,.string (mkB x.s)] 112) HR1.out) rfl)
  have HB3:=yb (show Below w.heap.size w w3 from (let ⟨_,_,h⟩:=hN.stk;h.bel))
  clear hX hN HST2 HS1 HR1
  unfold pvA
  by_cases her2:er2=0
  case neg =>
   have hv:=HV.out
   rw [yg her2] at hv
   have HVV:=yb (Option.some.inj hv).symm
   have e1:(er2==0)=false:=by rw [yf];exact her2
   have e2:(er2 != 0)=true:=by simp only [bne,e1,yj]
   clear hv her2
   simp only
   generalize o.isSome=io at *
   go_upto_region 6 with fail
   have HR4:=yb (zak (.cells #[.int .i64 X.kind,.int .i64 X.n,.string (mkB X.s),.slice sa sn sc] 25) HR3.out)
   have HB4:=yb (HB3.out.alloc HB3.out.size (.cells #[.int .i64 X.kind,.int .i64 X.n,.string (mkB X.s),.slice sa sn sc] 25))
   generalize w3.alloc _=W4 at *
   obtain ⟨⟨k0,k1,k2,k3⟩,m0,m1,m2,m3⟩:=zah HR4.out
   go_wp2
   refine yi (zax rfl _ _ r 25 _ (0,0) _ rfl (by exact set4 HR4.out _ _ _ _) Tryz.underlying25 rfl (by exact zaO) _ _ rfl rfl) rfl ?_
   rw [HVV.out]
   exact ⟨.slice none 0 0,rfl,IsV.leaf _ _ _ rfl,zan HB4.out HHR.out _ _ _ _⟩
  subst her2
  have hv:=HV.out
  rw [yh (by simp)] at hv
  have hlt:at_<tt:=HSK.out rfl
  have hrng:=HR0.out
  have hsa:=HSA.out
  have hsl:=HSL.out
  cases o with
  | none =>
   simp only at hv
   have HVA:=yb (show ∀o:Obj,VAt w (w3.alloc o) F' r p a cap bs yq V n st2 at2 from fun o =>
    ⟨(let ⟨gs2,osl2,h⟩:=HN.out.stk;⟨gs2,osl2,h.alloc o⟩),zak o HR3.out,hv,fun v hv=>by have:=hsl v hv;omega,.inr ⟨by omega,hsa.2⟩⟩)
   clear hv hlt hsa hsl HN HX hrng
   simp only [Option.isSome_none]
   go_wp2
   go_step3
   exact ⟨rfl,n,Nat.lt_succ_self _,F',st2,at2,_,_,_,_,_,_,_,_,_,_,_,_,_,_,_,_,_,_,_,_,_,_,_,_,_,_,_,_,_,_,_,_,_,_,_,_,_,_,_,_,_,_,_,_,_,_,_,_,_,_,_,_,yb (HVA.out _),rfl⟩
  | some x0 =>
   simp only [Option.isSome_some]
   obtain ⟨rfl,hv0⟩:=HX.out x0 rfl
   have HV0:=yb hv0
   obtain ⟨gs2,osl2,hs2⟩:=HN.out.stk
   have HS2:=yb hs2
   simp only at hv
   go_upto_region 9 with fail
   obtain ⟨v4,hv4⟩:∃v4,v4=w3.heap.size:=⟨_,rfl⟩
   have hb4:=zae w3 (.cells #[.int .i64 X.kind,.int .i64 X.n,.string (mkB X.s),.slice sa sn sc] 25)
   have hk4:=zab (w:=w3) (b:=v4) (.cells #[.int .i64 X.kind,.int .i64 X.n,.string (mkB X.s),.slice sa sn sc] 25) hv4
   have HS4:=yb (hs2.mono hb4)
   have HG4:=yb (hs2.res (G':=fun b=>b=r\/b=v4) hb4 (fun b hb=>hb.imp id fun e=>by rw [e,hv4,zaq];omega))
   have HV4:=yb (hv0.below hb4)
   have HR4:=yb (zaa hb4 HR3.out)
   have HB4:=yo HB3 hb4
   have HK4:=yb hk4
   have HV3:=yb hv4
   have hv4r:v4≠r:=by have:=zal HR3.out;omega
   have hv4p:v4≠p:=by have:=hs2.lt;omega
   rw [<-hv4]
   clear hv0 hs2 HX HN HS2 HV0 HR3 HB3 hb4 hk4
   generalize w3.alloc _=W4 at *
   clear hv4
   have HTOP:=yb (zfM HS4.out)
   go_wp2_with fail
   refine HTOP.out.mono ?_
   rintro e w5 ⟨rfl,q,rfl⟩
   have HS5:=yb (HS4.out.drewN q)
   have HG5:=yb (HG4.out.drewN q)
   have HV5:=yb (HV4.out.below (zad (Below.refl _ _) q))
   have HR5:=yb (show (W4.drewN q).heap[r]?=_ from HR4.out)
   have HB5:=yb (zad HB4.out q)
   have HK5:=yb (show (W4.drewN q).heap[v4]?=_ from HK4.out)
   clear HS4 HG4 HV4 HR4 HB4 HK4 HTOP
   generalize W4.drewN q=W5 at *
   obtain ⟨⟨k0,k1,k2,k3⟩,m0,m1,m2,m3⟩:=zah HR5.out
   obtain ⟨⟨d0,d1,d2,d3⟩,-⟩:=zah HK5.out
   cases st2 with
   | nil =>
    have hg:gs2=[]:=List.eq_nil_of_length_eq_zero (by rw [HS5.out.lvs.len];rfl)
    subst hg
    have HVV:=yb (Option.some.inj hv).symm
    obtain ⟨⟨c0,c1,c2,c3⟩,-⟩:=HS5.out.cells
    clear hv hlt hsa hsl hrng
    unfold topP
    go_wp2
    go_region
    all_goals
     go_wp2
     refine yi (zax rfl _ _ r 25 _ (0,0) _ rfl (by exact set4 HR5.out _ _ _ _) Tryz.underlying25 rfl (by exact zaO) _ _ rfl rfl) rfl ?_
     rw [HVV.out]
     exact ⟨_,rfl,(IsV.setr HV5.out HS5.out _ _ _ _).drew,(zan HB5.out HHR.out _ _ _ _).drew⟩
   | cons top rest =>
    obtain ⟨g,t,ta,tc,cs,rfl,ht1,ht2,hgB,hgG,hgl,hO,hVs,hown⟩:=HG5.out.lastL
    obtain ⟨tn,htn⟩:∃tn,tn=top.l.length:=⟨_,rfl⟩
    rw [<-htn] at ht1 hO hgl hown
    have htn2:tn<=400000:=by
     have h1:=hsl top List.mem_cons_self
     have h2:=HS5.out.small
     omega
    have hgc:W5.cell? ⟨g,1,none⟩=some (.slice ta tn tc):=by rw [cell_of_row W5 g 1 _ _ _ hgl];rfl
    have hgf:W5.frozen? ⟨g,1,none⟩=false:=frozen_of_row W5 g 1 _ _ hgl
    have hv4l:v4<W5.heap.size:=zal HK5.out
    have hgll:g<W5.heap.size:=zal hgl
    have hgt:(Value.slice ta tn tc).ownBlock≠some g:=fun e=>by obtain ⟨ds,hc⟩:=zaC hO e;exact zaW hc hgl (by decide) rfl
    have hvt:(Value.slice ta tn tc).ownBlock≠some v4:=fun e=>(hown v4 e).2 (.inr rfl)
    have HC0:Hid (S5v W5 v4 (.int .i64 X.kind) (.int .i64 X.n) (.string (mkB X.s)) (.slice sa sn sc)):=yb ⟨d0,d1,d2,d3⟩
    have HO:=yb hO
    have HGL:=yb hgl
    have HVS:=yb hVs
    have HTN:=yb htn
    have HBA:=yb (HS5.out.bel.size)
    have HGT:=yb hgt
    have HVT:=yb hvt
    have HVG:=yb (show v4≠g from fun e=>hgG (.inr e.symm))
    clear k0 k1 k2 k3 m0 m1 m2 m3 hO hgl hVs htn hown
    unfold topP
    go_upto_region 11 with fail
    have i1:(0:Int)<=(tn:Int):=by omega
    have i2:(tn:Int)<=400000:=by omega
    have i3:(tn:Int)<(tn:Int)+1:=by omega
    have i4:(tn:Int)<((tn+1:Nat):Int):=by omega
    have i5:tn<tn+1:=by omega
    have i6:(tn:Int).toNat=tn:=by omega
    obtain ⟨iB,hiB,hzB,hsB,hbB⟩:=info_parts EPV.info
    go_region_law (first|(refine step_append_lies _ (by rfl) _ _ _ (by rfl) w.heap.size 25 iB _ 4 56 EPV.und hiB hzB hsB hbB rfl (by omega) (.slice ta tn tc) tn cs (by rfl) ((HO.out.alloc _).drew) ⟨W5.heap.size,0,none⟩ 1 1 [.int .i64 0,.int .i64 0,.string ⟨#[]⟩,.slice none 0 0] (by rfl) (by rfl) (World.news_of_block (cs:=#[.int .i64 0,.int .i64 0,.string ⟨#[]⟩,.slice none 0 0]) (t:=25) (fr:=(0,0)) (heap_alloc_new W5 _)) (by simp [Value.oneCell']) (by omega) (by unfold maxLen;omega) (by omega) (by simp;have:=HBA.out;omega) (W5.heap.size+1) (by simp) ?_;intro g7 cap7 w7 hO7 hgrow hat hlt7;have HGV:Hid (g≠g7/\v4≠g7):=(by rcases hat with e|e;exact yb ⟨fun e2=>hgt (e2▸e),fun e2=>hvt (e2▸e)⟩;exact yb ⟨by omega,by omega⟩);have hs7:=(HC0.out.alloc (.cells #[.int .i64 0,.int .i64 0,.string ⟨#[]⟩,.slice none 0 0] 25)).drew.grown hgrow hvt;obtain ⟨s0,s1,s2,s3⟩:=hs7;obtain ⟨⟨z0,z1,z2,z3⟩,zf⟩:=owns_lastC hO7;have hgl7:=yb ((hgrow.block g (show g<(W5.alloc _).heap.size by rw [zaq];omega) (fun e=>hgt e.symm)).trans (zak (.cells #[.int .i64 0,.int .i64 0,.string ⟨#[]⟩,.slice none 0 0] 25) HGL.out));have hgf7:=frozen_of_row w7 g 1 _ _ hgl7.out;have hgne:g≠g7:=HGV.out.1;have zf0:=zf (tn*4);have zf1:=zf (tn*4+1);have zf2:=zf (tn*4+2);have zf3:=zf (tn*4+3);have hc7:w7.cell? ⟨g,1,none⟩=some (.slice ta tn tc):=(by rw [cell_of_row w7 g 1 _ _ _ hgl7.out];rfl);have HG7:=yb hgrow;have HO7:=yb hO7;have HAT:=yb hat;clear zf hgrow hO7 hat hlt7))
    all_goals
     first
      | rw [zfY w7 hgne]
      | skip
     have HVA:=yb (VAt.put HG5.out HR5.out HGL.out HVS.out HV5.out HTN.out HG7.out HO7.out HAT.out hv (fun v hv=>by have:=hsl v hv;omega) ⟨by omega,hsa.2⟩)
     clear hv hlt hsa hsl hrng HG5 HR5 HGL HVS HV5 HTN HG7 HO7 HAT HO
     go_wp2
     go_step3
     exact ⟨rfl,n,Nat.lt_succ_self _,F',_,at2,_,_,_,_,_,_,_,_,_,_,_,_,_,_,_,_,_,_,_,_,_,_,_,_,_,_,_,_,_,_,_,_,_,_,_,_,_,_,_,_,_,_,_,_,_,_,_,_,_,_,_,_,HVA,rfl⟩
def oneW (p:Tk->Bool) (V:Tk×Int×Int×Int):Tk×Int×Int×Int :=
 if V.2.2.2≠0 then ({ kind:=0 },0,0,V.2.2.2) else if V.1.kind=0 then ({ kind:=0 },0,0,10) else if p V.1=false then ({ kind:=0 },0,0,11) else (V.1,V.2.1,V.2.2.1,0)
def wordT (s:List UInt8) (t:Tk):Bool:=t.kind==6&&t.s==s
def zeN (w:World) (V:Tk×Int×Int×Int) (e:Ending) (w':World):Prop:=e=.returned (.tuple #[.int .i64 V.2.2.1,.int .i64 V.2.2.2])/\Below w.heap.size w w'
def OneEnd (w:World) (V:Tk×Int×Int×Int) (e:Ending) (w':World):Prop:=e=.returned (.tuple #[.agg (tokN V.1 V.2.1 V.2.2.1),.int .i64 V.2.2.2])/\Below w.heap.size w w'
theorem one_any {w:World} {a:Option Addr} {cap:Nat} {bs:List UInt8} (hr:Row w 1 a bs.length cap (bs.map u8C)) (hn:bs.length<=400000) (k:Int) (yq:Bool) (g:FuncId) (cb:Array Value) (p:Tk->Bool)
  (henter:∀args w,(callFunc g args).run Tryz.prog w=.ok (.enter g args) w)
  (hp:∀W,Below w.heap.size w W->∀x f t,Calls Tryz.prog g (#[.agg (tokN x f t)]++cb) W fun e w'=>e=.returned (.bool (p x))/\Below W.heap.size W w') :
  Calls Tryz.prog 58 #[.slice a bs.length cap,.int .i64 k,.bool yq,.func (.func g) #[] cb] w (OneEnd w (oneW p (zaj bs k yq))):=by
 have HN:=yb (fun (W:World) (h:Below w.heap.size w W)=>zdm (hr.mono h) hn k yq)
 obtain ⟨R,hR⟩:∃R,R=oneW p (zaj bs k yq):=⟨_,rfl⟩
 rw [<-hR]
 unfold oneW at hR
 generalize zaj bs k yq=V at *
 obtain ⟨x,f,t,er⟩:=V
 have HP:=yb (fun W h=>hp W h x f t)
 simp only at hR
 unfold zdP tokN at HN
 unfold tokN at HP
 simp only at HN
 have HR:=yb hR
 clear hr hR hn hp
 generalize p x=px at *
 obtain ⟨xk,xvk,xvn,xvs,xs⟩:=x
 simp only at HN HP HR
 generalize bs.length=L at *
 go_enter Tryz.func58,Tryz.ntmps58
 obtain ⟨B,hB⟩:∃B,B=w.heap.size:=⟨_,rfl⟩
 have HZ:=yb (zab (w:=w) (b:=B) (.cells #[.int .i64 0,.int .i64 0,.int .i64 0,.int .i64 0,.int .i64 0,.string ⟨#[]⟩,.slice none 0 0,.string ⟨#[]⟩] 112) hB)
 have HBW:=yb (zae w (.cells #[.int .i64 0,.int .i64 0,.int .i64 0,.int .i64 0,.int .i64 0,.string ⟨#[]⟩,.slice none 0 0,.string ⟨#[]⟩] 112))
 have HBB:=yb (Nat.le_of_eq hB.symm)
 go_upto_region 1 with fail
 rw [<-hB]
 clear hB
 generalize w.alloc _=W1 at *
 go_wp2_with fail
 refine (HN.out _ HBW.out).mono ?_
 rintro e w2 ⟨rfl,hb2⟩
 have hb2a:=hb2.alloc hb2.size (.cells #[.int .i64 xk,.int .i64 f,.int .i64 t,.int .i64 xvk,.int .i64 xvn,.string (mkB xvs),.slice none 0 0,.string (mkB xs)] 112)
 have HB2:=yo HBW hb2a
 have HT2:=yb (zab (w:=w2) (b:=w2.heap.size) (.cells #[.int .i64 xk,.int .i64 f,.int .i64 t,.int .i64 xvk,.int .i64 xvn,.string (mkB xvs),.slice none 0 0,.string (mkB xs)] 112) rfl)
 have HZ2:=yb (zaa hb2a HZ.out)
 clear hb2 hb2a HN HZ
 go_upto_region 2 with fail
 obtain ⟨r2,hr2⟩:∃r2,r2=w2.heap.size:=⟨_,rfl⟩
 rw [<-hr2] at HT2 |-
 clear hr2
 generalize w2.alloc _=W2 at *
 obtain ⟨⟨t0,t1,t2,t3,t4,t5,t6,t7⟩,-⟩:=zao HT2.out
 obtain ⟨⟨z0,z1,z2,z3,z4,z5,z6,z7⟩,zf0,zf1,zf2,zf3,zf4,zf5,zf6,zf7⟩:=zao HZ2.out
 have hR:=HR.out
 by_cases her:er=0
 case neg =>
  have e0:(er==0)=false:=by rw [yf];exact her
  have e1:(er != 0)=true:=by simp only [bne,e0,yj]
  rw [yg her] at hR
  subst hR
  clear HR her HP henter
  go_wp2
  refine yi (zac rfl _ _ B 112 _ (0,0) _ rfl (by exact set8 HZ2.out _ _ _ _ _ _ _ _) Tryz.underlying112 rfl (by exact zav) _ rfl) rfl ?_
  exact ⟨rfl,zba HB2.out HBB.out _ _ _ _ _ _ _ _⟩
 subst her
 rw [yh (by simp)] at hR
 by_cases hk:xk=0
 ·have e0:(xk==0)=true:=by rw [hk];rfl
  rw [yg hk] at hR
  subst hR
  clear HR hk HP henter
  go_wp2
  refine yi (zac rfl _ _ B 112 _ (0,0) _ rfl (by exact set8 HZ2.out _ _ _ _ _ _ _ _) Tryz.underlying112 rfl (by exact zav) _ rfl) rfl ?_
  exact ⟨rfl,zba HB2.out HBB.out _ _ _ _ _ _ _ _⟩
 have e0:(xk==0)=false:=by rw [yf];exact hk
 rw [yh hk] at hR
 clear HR
 have HR:=yb hR
 clear hR hk
 go_wp2_with fail
 refine (HP.out _ HB2.out).mono ?_
 rintro e w3 ⟨rfl,hb3⟩
 have HB3:=yo HB2 hb3
 have HT3:=yb (zaa hb3 HT2.out)
 have HZ3:=yb (zaa hb3 HZ2.out)
 clear hb3 HP henter t0 t1 t2 t3 t4 t5 t6 t7 z0 z1 z2 z3 z4 z5 z6 z7 zf0 zf1 zf2 zf3 zf4 zf5 zf6 zf7
 obtain ⟨⟨t0,t1,t2,t3,t4,t5,t6,t7⟩,-⟩:=zao HT3.out
 obtain ⟨⟨z0,z1,z2,z3,z4,z5,z6,z7⟩,zf0,zf1,zf2,zf3,zf4,zf5,zf6,zf7⟩:=zao HZ3.out
 have hR:=HR.out
 cases px with
 | false =>
  rw [yg rfl] at hR
  subst hR
  clear HR
  go_wp2
  refine yi (zac rfl _ _ B 112 _ (0,0) _ rfl (by exact set8 HZ3.out _ _ _ _ _ _ _ _) Tryz.underlying112 rfl (by exact zav) _ rfl) rfl ?_
  exact ⟨rfl,zba HB3.out HBB.out _ _ _ _ _ _ _ _⟩
 | true =>
  rw [yh (by decide)] at hR
  subst hR
  clear HR
  go_wp2
  refine yi (zac rfl _ _ B 112 _ (0,0) _ rfl (by exact set8 HZ3.out _ _ _ _ _ _ _ _) Tryz.underlying112 rfl (by exact zav) _ rfl) rfl ?_
  exact ⟨rfl,zba HB3.out HBB.out _ _ _ _ _ _ _ _⟩
theorem pword1_any {w:World} {b:Nat} {s:List UInt8} (hb:w.cell? ⟨b,0,none⟩=some (.string (mkB s))) (x:Tk) (f t:Int) :
  Calls Tryz.prog 59 #[.agg (tokN x f t),.pointer (some ⟨b,0,none⟩)] w fun e w'=>e=.returned (.bool (wordT s x))/\Below w.heap.size w w':=by
 have hq:((mkB x.s).toList==(mkB s).toList)=decide (x.s=s):=by rw [zag s];exact zeL x.s s
 have hw:wordT s x=(x.kind==6&&decide (x.s=s)):=by unfold wordT;by_cases e:x.s=s<;>simp [e]
 rw [hw]
 unfold tokN
 have hb2:=cell?_keep (zae w (.cells #[.int .i64 x.kind,.int .i64 f,.int .i64 t,.int .i64 x.vk,.int .i64 x.vn,.string (mkB x.vs),.slice none 0 0,.string (mkB x.s)] 112)) hb
 generalize decide (x.s=s)=ds at *
 clear hw
 generalize x.kind=a0 at *
 generalize x.vk=a1 at *
 generalize x.vn=a2 at *
 generalize mkB x.vs=s1 at *
 generalize mkB x.s=s2 at *
 generalize mkB s=s3 at *
 have HK:=yb (zab (w:=w) (b:=w.heap.size) (.cells #[.int .i64 a0,.int .i64 f,.int .i64 t,.int .i64 a1,.int .i64 a2,.string s1,.slice none 0 0,.string s2] 112) rfl)
 have HB:=yb (zae w (.cells #[.int .i64 a0,.int .i64 f,.int .i64 t,.int .i64 a1,.int .i64 a2,.string s1,.slice none 0 0,.string s2] 112))
 cases h0:(a0==6)
 ·go_enter Tryz.func59,Tryz.ntmps59
  go_upto_region 1 with fail
  obtain ⟨r,hr⟩:∃r,r=w.heap.size:=⟨_,rfl⟩
  rw [<-hr] at HK |-
  clear hr
  generalize w.alloc _=W1 at *
  obtain ⟨⟨k0,k1,k2,k3,k4,k5,k6,k7⟩,-⟩:=zao HK.out
  go_wp2
  go_ret
  exact ⟨rfl,HB.out⟩
 ·cases ds
  ·go_enter Tryz.func59,Tryz.ntmps59
   go_upto_region 1 with fail
   obtain ⟨r,hr⟩:∃r,r=w.heap.size:=⟨_,rfl⟩
   rw [<-hr] at HK |-
   clear hr
   generalize w.alloc _=W1 at *
   obtain ⟨⟨k0,k1,k2,k3,k4,k5,k6,k7⟩,-⟩:=zao HK.out
   go_wp2
   go_ret
   exact ⟨rfl,HB.out⟩
  ·go_enter Tryz.func59,Tryz.ntmps59
   go_upto_region 1 with fail
   obtain ⟨r,hr⟩:∃r,r=w.heap.size:=⟨_,rfl⟩
   rw [<-hr] at HK |-
   clear hr
   generalize w.alloc _=W1 at *
   obtain ⟨⟨k0,k1,k2,k3,k4,k5,k6,k7⟩,-⟩:=zao HK.out
   go_wp2
   go_ret
   exact ⟨rfl,HB.out⟩
theorem pword12_any {w:World} {a:Option Addr} {cap:Nat} {bs:List UInt8} (hr:Row w 1 a bs.length cap (bs.map u8C)) (hn:bs.length<=400000) (k:Int) (yq:Bool) (s:List UInt8) :
  Calls Tryz.prog 28 #[.slice a bs.length cap,.int .i64 k,.bool yq,.string (mkB s)] w (zeN w (oneW (wordT s) (zaj bs k yq))):=by
 have hbw:=zae w (.cells #[.string (mkB s)] 9)
 have hkw:=zab (w:=w) (b:=w.heap.size) (.cells #[.string (mkB s)] 9) rfl
 have hcw:(w.alloc (.cells #[.string (mkB s)] 9)).cell? ⟨w.heap.size,0,none⟩=some (.string (mkB s)):=by rw [cell_of_row _ _ 0 _ _ _ hkw];rfl
 have HO:=yb (one_any (hr.mono hbw) hn k yq 59 #[.pointer (some ⟨w.heap.size,0,none⟩)] (wordT s) (enters_of Tryz.func59 (by kernel_rfl) rfl) (fun W hW x f t=>pword1_any (cell?_keep hW hcw) x f t))
 have HBW:=yb hbw
 generalize oneW (wordT s) (zaj bs k yq)=R at *
 obtain ⟨x,f,t,er⟩:=R
 unfold OneEnd tokN at HO
 unfold zeN
 simp only at HO |-
 clear hr hn hbw hkw hcw
 generalize x.kind=xk at *
 generalize x.vk=xvk at *
 generalize x.vn=xvn at *
 generalize mkB x.vs=xvb at *
 generalize mkB x.s=xb at *
 generalize bs.length=L at *
 generalize mkB s=sb at *
 go_enter Tryz.func28,Tryz.ntmps28
 go_upto_region 1 with fail
 obtain ⟨B,hB⟩:∃B,B=w.heap.size:=⟨_,rfl⟩
 rw [<-hB] at HO |-
 have HBB:=yb (Nat.le_of_eq hB.symm)
 clear hB
 generalize w.alloc _=W1 at *
 go_wp2_with fail
 refine HO.out.mono ?_
 rintro e w2 ⟨rfl,hb2⟩
 have HB2:=yb (HBW.out.trans ((hb2.alloc hb2.size (.cells #[.int .i64 xk,.int .i64 f,.int .i64 t,.int .i64 xvk,.int .i64 xvn,.string xvb,.slice none 0 0,.string xb] 112)).mono HBW.out.size))
 have HT2:=yb (zab (w:=w2) (b:=w2.heap.size) (.cells #[.int .i64 xk,.int .i64 f,.int .i64 t,.int .i64 xvk,.int .i64 xvn,.string xvb,.slice none 0 0,.string xb] 112) rfl)
 clear hb2 HO
 go_upto_region 2 with fail
 obtain ⟨r2,hr2⟩:∃r2,r2=w2.heap.size:=⟨_,rfl⟩
 rw [<-hr2] at HT2 |-
 clear hr2
 generalize w2.alloc _=W2 at *
 obtain ⟨⟨t0,t1,t2,t3,t4,t5,t6,t7⟩,-⟩:=zao HT2.out
 go_wp2
 go_ret2
 exact ⟨rfl,HB2.out⟩
theorem oneX_le {bs:List UInt8} {yq:Bool} {k:Int} {p:Tk->Bool} (h:(oneX p (zaj bs k yq)).2=0):0<=(oneX p (zaj bs k yq)).1/\(oneX p (zaj bs k yq)).1<=bs.length:=by
 by_cases hk:k<0\/(bs.length:Int)<k
 ·unfold oneX zaj at h
  rw [yg hk] at h
  simp at h
 ·obtain ⟨h1,h2⟩:=za8 (bs:=bs) (k:=k) yq (by omega) (by omega)
  unfold oneX at h |-
  split
  ·exact ⟨Int.le_refl _,by show (0:Int)<=_;omega⟩
  ·split
   ·exact ⟨Int.le_refl _,by show (0:Int)<=_;omega⟩
   ·split
    ·exact ⟨Int.le_refl _,by show (0:Int)<=_;omega⟩
    ·exact ⟨by show (0:Int)<=(zaj bs k yq).2.2.1;omega,h2⟩
theorem grps_le {bs:List UInt8} {yq:Bool}:∀(g:Nat) (gs:List Grp) (k:Int),gs.length+g=65->0<=k->k<=bs.length->0<=(zcb bs yq g gs k).2.1/\(zcb bs yq g gs k).2.1<=bs.length
 | 0,_,_,_,_,_=>⟨Int.le_refl _,by show (0:Int)<=_;omega⟩
 | g+1,gs,k,hg,h0,h1=>by
  have hto:=za8 (bs:=bs) (k:=k) yq h0 h1
  rw [<-nxt_3] at hto
  by_cases he:(nxtV bs yq k).2.2.2=0
  case neg=>rw [grps_err he];exact ⟨Int.le_refl _,by show (0:Int)<=_;omega⟩
  cases ht:zd1 (nxtV bs yq k).1 with
  | true=>rw [zfi he ht];exact ⟨by show (0:Int)<=(nxtV bs yq k).2.2.1;omega,hto.2⟩
  | false =>
   by_cases hl:gs.length=64
   ·cases hw:za2 (nxtV bs yq k).1 with
    | false=>rw [grps_bad he ht hw];exact ⟨Int.le_refl _,by show (0:Int)<=_;omega⟩
    | true=>rw [grps_full he ht hw hl];exact ⟨Int.le_refl _,by show (0:Int)<=_;omega⟩
   ·rw [grps_step he ht hl]
    split
    ·exact ⟨Int.le_refl _,by show (0:Int)<=_;omega⟩
    ·obtain ⟨g1,g2⟩:=grp1_le (bs:=bs) (yq:=yq) (x:=(nxtV bs yq k).1) (k:=(nxtV bs yq k).2.2.1) (by omega) hto.2
     exact grps_le g _ _ (by rw [List.length_append];simp;omega) g1 g2
theorem oneW_X (p:Tk->Bool) (V:Tk×Int×Int×Int):(oneW p V).2.2.1=(oneX p V).1/\(oneW p V).2.2.2=(oneX p V).2:=by
 unfold oneW oneX
 split
 ·exact ⟨rfl,rfl⟩
 ·split
  ·exact ⟨rfl,rfl⟩
  ·split
   ·exact ⟨rfl,rfl⟩
   ·exact ⟨rfl,rfl⟩
theorem set5 {w:World} {b:Nat} {x0 x1 x2 x3 x4:Value} {t:TypeId} (h:w.heap[b]?=some (.cells #[x0,x1,x2,x3,x4] t (0,0))) (y0 y1 y2 y3 y4:Value) :
  (((((w.setCell ⟨b,0,none⟩ y0).setCell ⟨b,1,none⟩ y1).setCell ⟨b,2,none⟩ y2).setCell ⟨b,3,none⟩ y3).setCell ⟨b,4,none⟩ y4).heap[b]?=some (.cells #[y0,y1,y2,y3,y4] t (0,0)):=by
 rw [heap_setCell_same _ _ 4 _ _ _ (heap_setCell_same _ _ 3 _ _ _ (heap_setCell_same _ _ 2 _ _ _ (heap_setCell_same _ _ 1 _ _ _ (heap_setCell_same w _ 0 _ _ _ h))))];rfl
theorem zdx {B:Nat} {w0 w:World} (h:Below B w0 w) {b:Nat} (hb:B<=b) (y0 y1 y2 y3 y4:Value):Below B w0 (((((w.setCell ⟨b,0,none⟩ y0).setCell ⟨b,1,none⟩ y1).setCell ⟨b,2,none⟩ y2).setCell ⟨b,3,none⟩ y3).setCell ⟨b,4,none⟩ y4) :=
 ((((h.setCell hb _).setCell hb _).setCell hb _).setCell hb _).setCell hb _
theorem zaL {w:World} {b:Nat} {x0 x1 x2 x3 x4:Value} {t:TypeId} (h:w.heap[b]?=some (.cells #[x0,x1,x2,x3,x4] t (0,0))) :
  (w.cell? ⟨b,0,none⟩=some x0/\w.cell? ⟨b,1,none⟩=some x1/\w.cell? ⟨b,2,none⟩=some x2/\w.cell? ⟨b,3,none⟩=some x3/\w.cell? ⟨b,4,none⟩=some x4) /\
  (w.frozen? ⟨b,0,none⟩=false/\w.frozen? ⟨b,1,none⟩=false/\w.frozen? ⟨b,2,none⟩=false/\w.frozen? ⟨b,3,none⟩=false/\w.frozen? ⟨b,4,none⟩=false):=by
 refine ⟨⟨?_,?_,?_,?_,?_⟩,frozen_of_row w b 0 _ _ h,frozen_of_row w b 1 _ _ h,frozen_of_row w b 2 _ _ h,frozen_of_row w b 3 _ _ h,frozen_of_row w b 4 _ _ h⟩
 ·rw [cell_of_row w b 0 _ _ _ h];rfl
 ·rw [cell_of_row w b 1 _ _ _ h];rfl
 ·rw [cell_of_row w b 2 _ _ _ h];rfl
 ·rw [cell_of_row w b 3 _ _ _ h];rfl
 ·rw [cell_of_row w b 4 _ _ _ h];rfl
theorem sec_set5 {W:World} {s:Sec} {gv sl:Value} {B r:Nat} (h:zbu W (fun b=>B<=b) s gv sl) (hr:r<B) (y0 y1 y2 y3 y4:Value) :
  zbu (((((W.setCell ⟨r,0,none⟩ y0).setCell ⟨r,1,none⟩ y1).setCell ⟨r,2,none⟩ y2).setCell ⟨r,3,none⟩ y3).setCell ⟨r,4,none⟩ y4) (fun b=>B<=b) s gv sl :=
 h.keep ⟨by simp [World.setCell],fun b _ hF=>by
  have hb:b≠r:=by omega
  rw [heap_setCell_other _ _ _ _ hb,heap_setCell_other _ _ _ _ hb,heap_setCell_other _ _ _ _ hb,heap_setCell_other _ _ _ _ hb,heap_setCell_other _ _ _ _ hb]⟩ (fun _ h=>h)
theorem zeM:(Tryz.prog.info? 34).map (·.size)=some 5:=by kernel_rfl
def SecEnd (w:World) (V:Sec×Int×Int) (e:Ending) (w':World):Prop :=
 ∃gv sl,e=.returned (.tuple #[secA V.1 gv sl,.int .i64 V.2.1,.int .i64 V.2.2])/\zbu w' (fun b=>w.heap.size<=b) V.1 gv sl/\Below w.heap.size w w'
theorem sec_no {w W:World} {V:Sec×Int×Int} {e:Int} (hV:V=(Sec.none,0,e)) {r:Nat} (hb:Below w.heap.size w W) (hr:w.heap.size<=r) (y0 y1 y2 y3 y4:Value) :
  SecEnd w V (.returned (.tuple #[.agg #[.slice none 0 0,.int .i64 0,.int .i64 0,.string ⟨#[]⟩,.slice none 0 0],.int .i64 0,.int .i64 e])) (((((W.setCell ⟨r,0,none⟩ y0).setCell ⟨r,1,none⟩ y1).setCell ⟨r,2,none⟩ y2).setCell ⟨r,3,none⟩ y3).setCell ⟨r,4,none⟩ y4):=by
 subst hV
 exact ⟨_,_,rfl,isSec_none _ _,zdx hb hr _ _ _ _ _⟩
theorem xparse_any {w:World} {a:Option Addr} {cap:Nat} {bs:List UInt8} (hr:Row w 1 a bs.length cap (bs.map u8C)) (hn:bs.length<=390000) (k:Int) (yq:Bool) :
  Calls Tryz.prog 10 #[.slice a bs.length cap,.int .i64 k,.bool yq] w (SecEnd w (secV bs yq k)):=by
 have HW:=yb (fun (W:World) (h:Below w.heap.size w W)=>pword12_any (hr.mono h) (by omega) k yq [120,114,101,102])
 have HOL:=yb (fun h=>oneX_le (bs:=bs) (yq:=yq) (k:=k) (p:=xrefT) h)
 obtain ⟨o1,o2⟩:=oneW_X xrefT (zaj bs k yq)
 unfold zeN at HW
 rw [show wordT [120,114,101,102]=xrefT from rfl,o1,o2] at HW
 clear o1 o2
 obtain ⟨V,hV⟩:∃V,V=secV bs yq k:=⟨_,rfl⟩
 rw [<-hV]
 unfold secV at hV
 simp only at hV
 generalize oneX xrefT (zaj bs k yq)=O at *
 obtain ⟨ot,oe⟩:=O
 simp only at hV HW HOL
 have HGV:=yb (fun (W:World) (w0:World) (p:Nat) (h:IsRd w0 W p a cap bs yq ot) (h1:0<=ot) (h2:ot<=bs.length)=>xgroups_any h h1 h2)
 have HGE:=yb (fun (h1:0<=ot) (h2:ot<=bs.length)=>grps_le (bs:=bs) (yq:=yq) 65 [] ot rfl h1 h2)
 generalize zcb bs yq 65 [] ot=G at *
 obtain ⟨gs,gt,ge⟩:=G
 unfold GsEnd at HGV
 simp only at hV HGV HGE
 have HPV:=yb (fun (W:World) (h:Below w.heap.size w W) (h1:0<=gt) (h2:gt<=bs.length)=>show Calls Tryz.prog 30 #[.slice a bs.length cap,.int .i64 gt,.bool yq] W (DocEnd W (zfr bs yq gt)) from value_any (hr.mono h) (by omega) gt yq _ (parse_doc h1 h2))
 generalize zfr bs yq gt=P at *
 obtain ⟨x,xt,xe⟩:=P
 unfold DocEnd at HPV
 simp only at hV HPV
 have HV:=yb hV
 have HRB:=yb hr
 clear hV hr
 obtain ⟨r,hr⟩:∃r,r=w.heap.size:=⟨_,rfl⟩
 have HZ1:=yb (zab (w:=w) (b:=r) (.cells #[.slice none 0 0,.int .i64 0,.int .i64 0,.string ⟨#[]⟩,.slice none 0 0] 34) hr)
 have HB1:=yb (zae w (.cells #[.slice none 0 0,.int .i64 0,.int .i64 0,.string ⟨#[]⟩,.slice none 0 0] 34))
 have HRW:=yb (Nat.le_of_eq hr.symm)
 go_enter Tryz.func10,Tryz.ntmps10
 go_upto_region 1 with fail
 rw [<-hr]
 clear hr
 generalize w.alloc _=W1 at *
 go_wp2_with fail
 refine (HW.out _ HB1.out).mono ?_
 rintro e w2 ⟨rfl,hb2⟩
 have HZ2:=yb (zaa hb2 HZ1.out)
 have HB2:=yo HB1 hb2
 clear HZ1 HB1 HW hb2
 obtain ⟨⟨z0,z1,z2,z3,z4⟩,y0,y1,y2,y3,y4⟩:=zaL HZ2.out
 by_cases hoe:oe=0
 case neg =>
  have HV2:=yb (HV.out.trans (yg hoe))
  have e0:(oe==0)=false:=by rw [yf];exact hoe
  have e1:(oe != 0)=true:=by simp only [bne,e0,yj]
  clear hoe
  go_wp2
  refine yi (zax rfl _ _ r 34 _ (0,0) _ rfl (by exact set5 HZ2.out _ _ _ _ _) Tryz.underlying34 rfl (by exact zeM) _ _ rfl rfl) rfl ?_
  exact sec_no HV2.out HB2.out HRW.out _ _ _ _ _
 subst hoe
 have HV2:=yb (HV.out.trans (yh (by simp)))
 obtain ⟨ho1,ho2⟩:=HOL.out rfl
 have HO:=yb (And.intro ho1 ho2)
 clear HV HOL ho1 ho2
 have HI3:=yb (show IsRd w2 (w2.alloc (.cells #[.slice a bs.length cap,.int .i64 ot,.bool yq] 73)) w2.heap.size a cap bs yq ot from ⟨zab _ rfl,yp _,HRB.out.mono HB2.out,zae _ _,by omega⟩)
 have HZ3:=yb (zak (.cells #[.slice a bs.length cap,.int .i64 ot,.bool yq] 73) HZ2.out)
 have HB3:=yb (HB2.out.alloc HB2.out.size (.cells #[.slice a bs.length cap,.int .i64 ot,.bool yq] 73))
 have HPR:=yb (show r≠w2.heap.size by have:=zal HZ2.out;omega)
 clear HZ2 z0 z1 z2 z3 z4 y0 y1 y2 y3 y4
 go_upto_region 5 with fail
 have HP2:=yb HB2.out.size
 generalize w2.heap.size=p at *
 generalize World.alloc _ _=W3 at *
 go_wp2_with fail
 refine (HGV.out _ _ _ HI3.out HO.out.1 HO.out.2).mono ?_
 rintro e w4 ⟨gv,rfl,hg4,⟨at2,hi4,hat⟩,hk4⟩
 have HZ4:=yb (hk4.obj HZ3.out HPR.out)
 have HB4:=yb (HB3.out.trans (hk4.below (B:=w.heap.size) HB3.out.size (fun b hb=>by rw [hb];exact HP2.out)))
 have HI4:=yb hi4
 have HG4:=yb hg4
 have HAT:=yb hat
 have HW3:=yb (show w.heap.size<=W3.heap.size/\r<W3.heap.size from ⟨HB3.out.size,zal HZ3.out⟩)
 clear HZ3 HB3 HI3 hk4 hi4 hg4 hat HGV
 obtain ⟨⟨z0,z1,z2,z3,z4⟩,y0,y1,y2,y3,y4⟩:=zaL HZ4.out
 obtain ⟨⟨c0,c1,c2⟩,f0,f1,f2⟩:=HI4.out.cells
 by_cases hge:ge=0
 case neg =>
  have HV3:=yb (HV2.out.trans (yg hge))
  have e0:(ge==0)=false:=by rw [yf];exact hge
  have e1:(ge != 0)=true:=by simp only [bne,e0,yj]
  clear hge
  go_wp2
  refine yi (zax rfl _ _ r 34 _ (0,0) _ rfl (by exact set5 HZ4.out _ _ _ _ _) Tryz.underlying34 rfl (by exact zeM) _ _ rfl rfl) rfl ?_
  exact sec_no HV3.out HB4.out HRW.out _ _ _ _ _
 subst hge
 have HV3:=yb (HV2.out.trans (yh (by simp)))
 obtain rfl:at2=gt:=HAT.out rfl
 have HGG:=yb (HGE.out HO.out.1 HO.out.2)
 obtain ⟨ga,gc,rfl,-,-,-⟩:=HG4.out.len
 clear HV2 HAT HGE
 go_wp2_with fail
 refine (HPV.out _ HB4.out HGG.out.1 HGG.out.2).mono ?_
 rintro e w5 ⟨sl,rfl,hx5,hb5⟩
 obtain ⟨sa,sc,rfl,-,-,-⟩:=hx5.len
 simp only [pvA]
 have hb5a:=hb5.alloc hb5.size (.cells #[.int .i64 x.kind,.int .i64 x.n,.string (mkB x.s),.slice sa x.l.length sc] 25)
 have HT5:=yb (zab (w:=w5) (b:=w5.heap.size) (.cells #[.int .i64 x.kind,.int .i64 x.n,.string (mkB x.s),.slice sa x.l.length sc] 25) rfl)
 have HX5:=yb (hx5.below (zae w5 (.cells #[.int .i64 x.kind,.int .i64 x.n,.string (mkB x.s),.slice sa x.l.length sc] 25)))
 have HG5:=yb (HG4.out.below hb5a)
 have HZ5:=yb (zaa hb5a HZ4.out)
 have HB5:=yo HB4 hb5a
 have HW4:=yb (show w.heap.size<=w4.heap.size/\r<w4.heap.size from ⟨HB4.out.size,zal HZ4.out⟩)
 clear hb5 hb5a hx5 HPV HZ4 HB4 HG4 HI4 z0 z1 z2 z3 z4 y0 y1 y2 y3 y4 c0 c1 c2 f0 f1 f2
 go_upto_region 9 with fail
 generalize w5.heap.size=T at *
 generalize World.alloc _ _=W5 at *
 obtain ⟨⟨t0,t1,t2,t3⟩,-⟩:=zah HT5.out
 obtain ⟨⟨z0,z1,z2,z3,z4⟩,y0,y1,y2,y3,y4⟩:=zaL HZ5.out
 by_cases hxe:xe=0
 case neg =>
  have HV4:=yb (HV3.out.trans (yg hxe))
  have e0:(xe==0)=false:=by rw [yf];exact hxe
  have e1:(xe != 0)=true:=by simp only [bne,e0,yj]
  clear hxe HX5 HG5
  go_wp2
  refine yi (zax rfl _ _ r 34 _ (0,0) _ rfl (by exact set5 HZ5.out _ _ _ _ _) Tryz.underlying34 rfl (by exact zeM) _ _ rfl rfl) rfl ?_
  exact sec_no HV4.out HB5.out HRW.out _ _ _ _ _
 subst hxe
 have HV4:=yb (HV3.out.trans (yh (by simp)))
 clear HV3
 by_cases hxk:x.kind=7
 case neg =>
  have HV5:=yb (HV4.out.trans (yg hxk))
  have e0:(x.kind==7)=false:=by rw [yf];exact hxk
  have e1:(x.kind != 7)=true:=by simp only [bne,e0,yj]
  clear hxk HX5 HG5 HV4
  generalize x.kind=xk at *
  go_wp2
  refine yi (zax rfl _ _ r 34 _ (0,0) _ rfl (by exact set5 HZ5.out _ _ _ _ _) Tryz.underlying34 rfl (by exact zeM) _ _ rfl rfl) rfl ?_
  exact sec_no HV5.out HB5.out HRW.out _ _ _ _ _
 have HV5:=yb (HV4.out.trans (yh (fun h=>h hxk)))
 have e0:(x.kind==7)=true:=by rw [beq_iff_eq];exact hxk
 have e1:(x.kind != 7)=false:=by simp only [bne,e0,Bool.not_true]
 clear hxk HV4
 have HSC:=yb (show zbu W5 (fun b=>W3.heap.size<=b\/w4.heap.size<=b) ⟨gs,x⟩ (.slice ga gs.length gc) (.slice sa x.l.length sc) from ⟨HG5.out.keep (zaJ.refl _ _) (fun b hb=>.inl hb),HX5.out.weaken (fun b hb=>.inr hb)⟩)
 have HS2:=yb (fun y0 y1 y2 y3 y4=>sec_set5 (s:=⟨gs,x⟩) (gv:=.slice ga gs.length gc) (sl:=.slice sa x.l.length sc) (B:=r+1) (HSC.out.keep (zaJ.refl _ _) (fun b hb=>by have:=HW3.out.2;have:=HW4.out.2;show r+1<=b;omega)) (Nat.lt_succ_self r) y0 y1 y2 y3 y4)
 clear HX5 HG5 HSC
 have HPA:=yb (show secA ⟨gs,x⟩ (.slice ga gs.length gc) (.slice sa x.l.length sc)=.agg #[.slice ga gs.length gc,.int .i64 x.kind,.int .i64 x.n,.string (mkB x.s),.slice sa x.l.length sc] from rfl)
 generalize x.kind=xk at *
 generalize x.n=xn at *
 generalize mkB x.s=xb at *
 go_wp2
 refine yi (zax rfl _ _ r 34 _ (0,0) _ rfl (by exact set5 HZ5.out _ _ _ _ _) Tryz.underlying34 rfl (by exact zeM) _ _ rfl rfl) rfl ?_
 rw [HV5.out]
 refine ⟨.slice ga gs.length gc,.slice sa x.l.length sc,by rw [HPA.out];rfl,?_,zdx HB5.out HRW.out _ _ _ _ _⟩
 exact (HS2.out _ _ _ _ _).keep (zaJ.refl _ _) (fun b hb=>by have:=HRW.out;show w.heap.size<=b;omega)
theorem find_go {gs:List Grp} {c:Nat} {g:Grp} {n:Int} (hg:gs[c]?=some g) (h:¬(g.first<=n/\n-g.first<(g.es.length:Int))):zeb (gs.drop c) n=zeb (gs.drop (c+1)) n:=by
 obtain ⟨hc,rfl⟩:=List.getElem?_eq_some_iff.1 hg
 rw [List.drop_eq_getElem_cons hc,zeb,yh h]
theorem find_hit {gs:List Grp} {c:Nat} {g:Grp} {n:Int} (hg:gs[c]?=some g) (h:g.first<=n/\n-g.first<(g.es.length:Int)):zeb (gs.drop c) n=some (g.es.getD (n-g.first).toNat {}):=by
 obtain ⟨hc,rfl⟩:=List.getElem?_eq_some_iff.1 hg
 rw [List.drop_eq_getElem_cons hc,zeb,yg h]
def smallG (gs:List Grp):Prop:=∀g∈gs,-2000000000000000000<=g.first/\g.first<=2000000000000000000/\g.es.length<=100000
theorem xfind_any {w:World} {F:Nat->Prop} {s:Sec} {gv sl:Value} (h:zbu w F s gv sl) (n:Int) (hs:smallG s.gs) (hn0:-2000000000000000000<=n) (hn1:n<=2000000000000000000) :
  Calls Tryz.prog 21 #[secA s gv sl,.int .i64 n] w fun e w'=>e=.returned (.tuple #[entA (findP (zeb s.gs n)).1,.bool (findP (zeb s.gs n)).2])/\Below w.heap.size w w':=by
 obtain ⟨gs,x⟩:=s
 simp only at hs |-
 obtain ⟨ga,gc,rfl,hgc,hgm,-⟩:=h.1.len
 simp only at hgc
 obtain ⟨V,hV⟩:∃V,V=zeb gs n:=⟨_,rfl⟩
 rw [<-hV]
 have HV:=yb hV
 have HS:=yb hs
 have HGA:=yb (fun (W:World) (hb:Below w.heap.size w W)=>(h.1.below hb))
 simp only at HGA
 clear hV hs
 unfold secA
 simp only
 obtain ⟨sa,sc,rfl,-,-,-⟩:=h.2.len
 simp only at h |-
 clear h
 have hg63:(gs.length:Int)<=9223372036854775807:=by unfold maxLen at hgm;omega
 generalize x.kind=xk at *
 generalize x.n=xn at *
 generalize mkB x.s=xb at *
 generalize x.l.length=xl at *
 obtain ⟨B,hB⟩:∃B,B=w.heap.size:=⟨_,rfl⟩
 have HB1:=yb (zaF w (.cells #[.slice ga gs.length gc,.int .i64 xk,.int .i64 xn,.string xb,.slice sa xl sc] 34) (.cells #[.int .i64 0,.int .i64 0,.bool false] 45))
 have HX1:=yb (zak (w:=w.alloc (.cells #[.slice ga gs.length gc,.int .i64 xk,.int .i64 xn,.string xb,.slice sa xl sc] 34)) (.cells #[.int .i64 0,.int .i64 0,.bool false] 45) (zab (w:=w) (b:=B) (.cells #[.slice ga gs.length gc,.int .i64 xk,.int .i64 xn,.string xb,.slice sa xl sc] 34) hB))
 have HZ1:=yb (zab (w:=w.alloc (.cells #[.slice ga gs.length gc,.int .i64 xk,.int .i64 xn,.string xb,.slice sa xl sc] 34)) (b:=B+1) (.cells #[.int .i64 0,.int .i64 0,.bool false] 45) (by rw [zaq,hB]))
 have HRW:=yb (show w.heap.size<=B+1 by omega)
 go_enter Tryz.func21,Tryz.ntmps21
 go_upto_region 1 with fail
 try rw [<-hB]
 generalize World.alloc _ _=W1 at *
 clear hB
 generalize B+1=r at *
 obtain ⟨⟨x0,x1,x2,x3,x4⟩,-⟩:=zaL HX1.out
 go_wp2_with fail
 clear x0 x1 x2 x3 x4 HX1
 go_loopw [11] (fun v wr=>∃c:Nat,v=.int .i64 c/\c<=gs.length/\Hid (Below w.heap.size w wr)/\Hid (wr.heap[r]?=some (.cells #[.int .i64 0,.int .i64 0,.bool false] 45 (0,0)))/\Hid (V=zeb (gs.drop c) n)) (fun v _=>gs.length-(intOf v).toNat)
 case atStart=>exact ⟨0,rfl,Nat.zero_le _,HB1,HZ1,HV⟩
 case round =>
  obtain ⟨c,rfl,hc,HB,HZ,HQ⟩:=hrel
  by_cases hlt:c<gs.length
  ·have hcd:decide ((c:Int)<(gs.length:Int))=true:=by simp;omega
   have hcd2:decide (c<gs.length)=true:=by simp;omega
   obtain ⟨-,-,-,b,off,ha,-,-,hat⟩:=(HGA.out wr HB.out).at (by omega)
   subst ha
   obtain ⟨g,hg⟩:∃g,gs[c]?=some g:=⟨_,List.getElem?_eq_getElem hlt⟩
   obtain ⟨v,hv,g0,g1⟩:=hat c g hg
   obtain ⟨ea,ec,rfl,hel,hec,-⟩:=hv.len
   obtain ⟨hs1,hs2,-⟩:=HS.out g (List.mem_of_getElem? hg)
   have HIE:=yb hv
   have HGO:=yb (fun h=>HQ.out.trans (find_go hg h))
   have HHT:=yb (fun h=>HQ.out.trans (find_hit hg h))
   have he63:(g.es.length:Int)<=9223372036854775807:=by unfold maxLen at hec;omega
   clear hat hv hg HQ
   obtain ⟨gf,ge⟩:=g
   simp only at *
   have HBA:=yb (HB.out.alloc HB.out.size (.cells #[.int .i64 gf,.slice ea ge.length ec] 58))
   have HZA:=yb (zak (.cells #[.int .i64 gf,.slice ea ge.length ec] 58) HZ.out)
   by_cases h1:gf<=n
   case neg =>
    have HQ2:=yb (HGO.out (fun h=>h1 h.1))
    have hd:decide (gf<=n)=false:=ye h1
    go_wp2
    go_roundw
    case rel=>exact ⟨c+1,by go_num,by omega,HBA,HZA,HQ2⟩
    case measure=>simp [intOf];omega
   obtain ⟨m,hm⟩:∃m:Nat,n-gf=(m:Int):=⟨(n-gf).toNat,by omega⟩
   have hd:decide (gf<=n)=true:=yd h1
   by_cases h2:m<ge.length
   case neg =>
    have HQ2:=yb (HGO.out (fun h=>h2 (by omega)))
    have hd2:decide (m<ge.length)=false:=ye h2
    have hd3:decide ((m:Int)<(ge.length:Int))=false:=ye (by omega)
    go_wp2
    go_roundw
    case rel=>exact ⟨c+1,by go_num,by omega,HBA,HZA,HQ2⟩
    case measure=>simp [intOf];omega
   have HQ2:=yb (HHT.out ⟨h1,by omega⟩)
   rw [hm,Int.toNat_natCast] at HQ2
   obtain ⟨-,-,-,be,oe,hae,hbe,-,hae2⟩:=HIE.out.at (by omega)
   subst hae
   obtain ⟨ee,hee⟩:∃ee,ge[m]?=some ee:=⟨_,List.getElem?_eq_getElem h2⟩
   obtain ⟨e0,e1,e2⟩:=hae2 m ee hee
   have HEE:=yb (show ge.getD m {}=ee by rw [List.getD_eq_getElem?_getD,hee];rfl)
   rw [HEE.out] at HQ2
   have hd2:decide (m<ge.length)=true:=yd h2
   have hd3:decide ((m:Int)<(ge.length:Int))=true:=yd (by omega)
   clear hae2 hee HEE HIE HGO HHT
   have e0:=zaY (.cells #[.int .i64 gf,.slice (some ⟨be,oe,none⟩) ge.length ec] 58) e0
   have e1:=zaY (.cells #[.int .i64 gf,.slice (some ⟨be,oe,none⟩) ge.length ec] 58) e1
   have e2:=zaY (.cells #[.int .i64 gf,.slice (some ⟨be,oe,none⟩) ge.length ec] 58) e2
   obtain ⟨⟨z0,z1,z2⟩,y0,y1,y2⟩:=zbC HZA.out
   go_wp2
   refine yi (zac rfl _ _ r 45 _ (0,0) _ rfl (by exact set3a HZA.out _ _ _) Tryz.underlying45 rfl (by exact zeK) _ rfl) rfl ?_
   rw [HQ2.out]
   exact ⟨rfl,((HBA.out.setCell HRW.out _).setCell HRW.out _).setCell HRW.out _⟩
  ·have hce:c=gs.length:=by omega
   have hcd:decide ((c:Int)<(gs.length:Int))=false:=ye (by omega)
   have hcd2:decide (c<gs.length)=false:=ye (by omega)
   have HQ2:=yb (HQ.out.trans (show zeb (gs.drop c) n=none by rw [hce,List.drop_length];rfl))
   obtain ⟨⟨z0,z1,z2⟩,y0,y1,y2⟩:=zbC HZ.out
   clear hce
   go_wp2
   refine yi (zac rfl _ _ r 45 _ (0,0) _ rfl (by exact set3a HZ.out _ _ _) Tryz.underlying45 rfl (by exact zeK) _ rfl) rfl ?_
   rw [HQ2.out]
   exact ⟨rfl,((HB.out.setCell HRW.out _).setCell HRW.out _).setCell HRW.out _⟩
def sgB:ByteArray:=⟨#[48,49,50,51,52,53,54,55,56,57,97,98,99,100,101,102]⟩
theorem sg_at:∀(k:Nat) (h:k<sgB.size),(sgB[k]'h).toNat=(hexG k).toNat:=by
 have:∀d:Fin 16,(sgB[d.1]'d.2).toNat=(hexG d.1).toNat:=by decide
 exact fun k h=>this ⟨k,h⟩
theorem sgI (x:Int) (k:Nat) (hx:x.toNat=k) {h:x.toNat<(⟨#[48,49,50,51,52,53,54,55,56,57,97,98,99,100,101,102]⟩:ByteArray).size} :
  (((⟨#[48,49,50,51,52,53,54,55,56,57,97,98,99,100,101,102]⟩:ByteArray)[x.toNat]'h).toNat:Int)=((hexG k).toNat:Int):=by subst hx;exact congrArg Int.ofNat (sg_at _ h)
theorem u8_and15 (n:Nat) (_h:n<256):bits .and .u8 (n:Int) 15=((n % 16:Nat):Int):=by
 have h7:(BitVec.ofInt 8 15).toNat=2 ^ 4-1:=by decide
 have key:(BitVec.ofInt 8 (n:Int) &&& BitVec.ofInt 8 15).toNat=((n:Int) % ((2 ^ 8:Nat):Int)).toNat % 2 ^ 4:=by
  rw [BitVec.toNat_and,BitVec.toNat_ofInt,h7,Nat.and_two_pow_sub_one_eq_mod]
 show IntKind.u8.wrap ((BitVec.ofInt 8 (n:Int) &&& BitVec.ofInt 8 15).toNat:Nat)=_
 rw [key,IntKind.wrap_u8]
 omega
theorem sg_n (q:Nat) {h:q<(⟨#[48,49,50,51,52,53,54,55,56,57,97,98,99,100,101,102]⟩:ByteArray).size} :
  (((⟨#[48,49,50,51,52,53,54,55,56,57,97,98,99,100,101,102]⟩:ByteArray)[q]'h).toNat:Int)=((hexG q).toNat:Int):=congrArg Int.ofNat (sg_at q h)
def chF (c:UInt8):List UInt8:=if c.toNat<33\/126<c.toNat\/c=35\/isDl c=true then 35::hexB c else [c]
theorem zdG:∀ {l:List UInt8} {k:Nat} {c:UInt8},l[k]?=some c->zbl (l.take (k+1))=zbl (l.take k)++chF c
 | [],_,_,h=>by cases h
 | x::l,0,c,h=>by
  have e:x=c:=by simpa using h
  subst e
  simp [zbl,chF]
 | x::l,k+1,c,h=>by
  have:=zdG (l:=l) (k:=k) (c:=c) (by simpa using h)
  simp only [List.take_succ_cons,zbl,this,List.append_assoc]
theorem zcu:∀l:List UInt8,(zbl l).length<=3*l.length
 | []=>yp _
 | c::l=>by
  have:=zcu l
  simp only [zbl,List.length_append,List.length_cons]
  split
  ·simp [hexB];omega
  ·simp;omega
theorem ze2:∀ {l:List UInt8} {k:Nat} {c:UInt8},l[k]?=some c->hexF (l.take (k+1))=hexF (l.take k)++hexB c
 | [],_,_,h=>by cases h
 | x::l,0,c,h=>by
  have e:x=c:=by simpa using h
  subst e
  simp [hexF]
 | x::l,k+1,c,h=>by
  have:=ze2 (l:=l) (k:=k) (c:=c) (by simpa using h)
  simp only [List.take_succ_cons,hexF,this,List.append_assoc]
theorem zc9:∀l:List UInt8,(hexF l).length=2*l.length
 | []=>rfl
 | c::l=>by have:=zc9 l;simp [hexF,hexB,this];omega
def brF (c:UInt8):List UInt8:=if c=40\/c=41\/c=92 then [92,c] else [c]
theorem zdv:∀ {l:List UInt8} {k:Nat} {c:UInt8},l[k]?=some c->zbG (l.take (k+1))=zbG (l.take k)++brF c
 | [],_,_,h=>by cases h
 | x::l,0,c,h=>by
  have e:x=c:=by simpa using h
  subst e
  simp [zbG,brF]
 | x::l,k+1,c,h=>by
  have:=zdv (l:=l) (k:=k) (c:=c) (by simpa using h)
  simp only [List.take_succ_cons,zbG,this,List.append_assoc]
theorem zcw:∀l:List UInt8,(zbG l).length<=2*l.length
 | []=>yp _
 | c::l=>by
  have:=zcw l
  simp only [zbG,List.length_append,List.length_cons]
  split<;>(simp;omega)
theorem ze0 {s:List UInt8} {k:Nat} (h:k<s.length) (h2:k<(mkB s).size):((mkB s)[k]'h2).toNat=(s[k]'h).toNat:=rfl
theorem eq35 {c:UInt8}:c=35↔c.toNat=35:=by constructor<;>intro h;(subst h;rfl);(exact UInt8.toNat_inj.1 h)
theorem eqn {c:UInt8} (d:UInt8):c=d↔c.toNat=d.toNat:=⟨fun h=>by rw [h],fun h=>UInt8.toNat_inj.1 h⟩
theorem zfd {l:List UInt8} {k:Nat} {c:UInt8} (h:l[k]?=some c):zbJ (l.take (k+1))=(zbJ (l.take k)&&(decide (32<=c.toNat)&&decide (c.toNat<=126))):=by
 unfold zbJ
 rw [List.take_add_one,h,List.all_append]
 simp
theorem readF_bad {l:List UInt8} {k:Nat} {c:UInt8} (h:l[k]?=some c) (hb:(decide (32<=c.toNat)&&decide (c.toNat<=126))=false):zbJ l=false:=by
 unfold zbJ
 rw [Bool.eq_false_iff]
 intro ha
 rw [List.all_eq_true] at ha
 have:=ha c (List.mem_of_getElem? h)
 rw [hb] at this
 cases this
theorem zby (v:PV):zaH v=if ownC v≠0 then ownC v else if v.kind=6\/v.kind=7 then za6 v.l else 0:=by obtain ⟨k,n,s,l⟩:=v;simp only [zaH];rfl
def zcx (v:PV):List UInt8×Int:=if zbc v≠0 then ([],zbc v) else (zaz v,0)
theorem zdL {v:PV} (h:ownC v=0) :
  (v.kind=0/\v.n=0/\v.s=[]/\v.l=[])\/(v.kind=1/\(v.n=0\/v.n=1)/\v.s=[]/\v.l=[]) \/
  ((v.kind=2\/v.kind=3)/\zaD v.kind v.n true=0/\v.s=[]/\v.l=[]) \/
  (v.kind=4/\v.n=0/\v.l=[])\/(v.kind=5/\(v.s.length<=127/\(0:UInt8)∉v.s)/\v.n=0/\v.l=[])\/(v.kind=6/\v.n=0/\v.s=[]) \/
  (v.kind=7/\v.n=0/\v.s=[])\/(v.kind=8/\(1<=v.n/\v.n<=4096)/\v.s=[]/\v.l=[]):=by
 obtain ⟨k,n,s,l⟩:=v
 simp only [PV.kind,PV.n,PV.s,PV.l]
 simp only [ownC] at h
 split at h
 ·rename_i e;split at h
  ·exact .inl ⟨e,by assumption⟩
  ·cases h
 split at h
 ·rename_i e;split at h
  ·rename_i g;exact .inr (.inl ⟨e,g⟩)
  ·cases h
 split at h
 ·rename_i e;split at h
  ·rename_i g;exact .inr (.inr (.inl ⟨e,h,g⟩))
  ·cases h
 split at h
 ·rename_i e;split at h
  ·rename_i g;exact .inr (.inr (.inr (.inl ⟨e,g⟩)))
  ·cases h
 split at h
 ·rename_i e;split at h
  ·cases h
  ·rename_i q;split at h
   ·rename_i g;exact .inr (.inr (.inr (.inr (.inl ⟨e,by rw [not_or] at q;exact ⟨by omega,q.2⟩,g⟩))))
   ·cases h
 split at h
 ·rename_i e;split at h
  ·rename_i g;exact .inr (.inr (.inr (.inr (.inr (.inl ⟨e,g⟩)))))
  ·cases h
 split at h
 ·rename_i e;split at h
  ·cases h
  ·rename_i q
   simp only [not_or,Decidable.not_not,ne_eq] at q
   exact .inr (.inr (.inr (.inr (.inr (.inr (.inl ⟨e,q.1,q.2.1⟩))))))
 split at h
 ·rename_i e;split at h
  ·rename_i g;exact .inr (.inr (.inr (.inr (.inr (.inr (.inr ⟨e,⟨g.1,g.2.1⟩,g.2.2⟩))))))
  ·cases h
 cases h
def mkS (l:List UInt8):ByteArray:=⟨l.toArray⟩
theorem zbZ (l:List UInt8):bl (mkS l)=l:=rfl
theorem mkS_bl (s:ByteArray):mkS (bl s)=s:=rfl
theorem zbb (l:List UInt8):(mkS l).size=l.length:=by unfold mkS;simp [ByteArray.size]
theorem zdA (a b:List UInt8):mkS a++mkS b=mkS (a++b):=ByteArray.mk_append_mk a b
theorem zcm {a b:ByteArray} (h:bl a=bl b):a=b:=by rw [<-mkS_bl a,<-mkS_bl b,h]
theorem zb5 {a b:ByteArray} (h:a=b):Ending.returned (.string a)=.returned (.string b):=by rw [h]
theorem zbx {a b:ByteArray} {x y:Int} (h:a=b) (h2:x=y):Ending.returned (.tuple #[.string a,.int .i64 x])=.returned (.tuple #[.string b,.int .i64 y]):=by rw [h,h2]
theorem dig_ext (d:Nat) (h:d<10):(⟨#[48,49,50,51,52,53,54,55,56,57]⟩:ByteArray).extract d (d+1)=mkS [UInt8.ofNat (48+d)]:=by
 have:d=0\/d=1\/d=2\/d=3\/d=4\/d=5\/d=6\/d=7\/d=8\/d=9:=by omega
 rcases this with rfl|rfl|rfl|rfl|rfl|rfl|rfl|rfl|rfl|rfl<;>rfl
def zfF (n:Nat) (w:World) (e:Ending) (w':World):Prop:=e=.returned (.string (mkS (decL n)))/\∃q,w'=w.drewN q
theorem zeI (n:Nat) (hn:n<18446744073709551616) (w:World):Calls Tryz.prog 71 #[.int .u64 n] w (zfF n w):=by
 induction n using Nat.strongRecOn generalizing w with
 | ind n ih =>
  by_cases h:n<10
  ·have HV:=yb (show (⟨#[48,49,50,51,52,53,54,55,56,57]⟩:ByteArray).extract n (n+1)=mkS (decL n) by rw [dig_ext n h,zbs h])
   clear ih
   go_enter Tryz.func71,Tryz.ntmps71
   go_wp2
   go_ret
   exact ⟨zb5 HV.out,0,rfl⟩
  ·have hm:n % 10<10:=by omega
   have hd:n / 10<n:=by omega
   have hlen:=zaM 19 (n / 10) (by omega)
   have HV:=yb (show mkS (decL (n / 10))++(⟨#[48,49,50,51,52,53,54,55,56,57]⟩:ByteArray).extract (n % 10) (n % 10+1)=mkS (decL n) by
    rw [dig_ext _ hm,zdA,zcG (n:=n) (by omega)])
   have HI:=yb (fun W=>ih (n / 10) hd (by omega) W)
   have hsz:(mkS (decL (n / 10))).size<=20:=by rw [zbb];exact hlen
   have hdc:decide ((n:Int)<10)=false:=ye (by omega)
   have h10:(10:Int)<=n:=by omega
   clear ih hlen h
   unfold zfF at HI
   generalize mkS (decL (n / 10))=T at *
   go_enter Tryz.func71,Tryz.ntmps71
   go_wp2
   go_quiet ((go_at_call 71;exact Calls.quiet_of (HI.out _)))
   go_wp2
   go_ret
   exact ⟨zb5 HV.out,_,rfl⟩
theorem zcA (N:Nat) (L:Int) (w:World) (hN:N<9223372036854775808) (hL1:1<=L) (hL2:L<=20) :
  Calls Tryz.prog 73 #[.int .i64 N,.int .i64 L] w fun e w'=>e=.returned (.string (mkS (padL N L.toNat)))/\w=w':=by
 obtain ⟨V,hV⟩:∃V,V=mkS (padL N L.toNat):=⟨_,rfl⟩
 rw [<-hV]
 have HV:=yb hV
 have HNN:=yb hN
 clear hV
 go_enter Tryz.func73,Tryz.ntmps73
 go_wp2
 go_loop [0,5,6] (fun n s i=>∃(k M:Nat) (S:ByteArray),k<=20/\n=.int .i64 M/\s=.string S/\i=.int .i64 k/\M<9223372036854775808/\Hid (M=N / 10 ^ k)/\Hid (S=mkS (fixD N k))/\Hid (L.toNat<k->N / 10 ^ (k-1)≠0)) (fun _ _ i=>20-(intOf i).toNat)
 case atStart=>exact ⟨0,N,⟨#[]⟩,by omega,rfl,rfl,rfl,hN,yb (by simp),yb rfl,yb (fun h=>by omega)⟩
 case round =>
  obtain ⟨k,M,S,hk,rfl,rfl,rfl,hM,HM,HS,HL⟩:=hrel
  have hsz:S.size=k:=by rw [HS.out,zbb,fixD_len]
  have HNEXT:=yb (show (⟨#[48,49,50,51,52,53,54,55,56,57]⟩:ByteArray).extract (M % 10) (M % 10+1)++S=mkS (fixD N (k+1)) by
   rw [dig_ext _ (by omega),HS.out,zdA,HM.out];rfl)
  have HM2:=yb (show M / 10=N / 10 ^ (k+1) by rw [HM.out,Nat.div_div_eq_div_mul,Nat.pow_succ])
  clear hN
  by_cases hk20:k<20
  ·have d1:decide ((k:Int)<20)=true:=by simp;omega
   by_cases hM0:0<M
   ·have d2:decide ((0:Int)<M)=true:=by simp;omega
    have HL2:=yb (show L.toNat<k+1->N / 10 ^ (k+1-1)≠0 from fun _=>by rw [show k+1-1=k from rfl,<-HM.out];omega)
    go_wp2
    go_round
    case rel=>exact ⟨k+1,M / 10,_,by omega,by go_num,rfl,by go_num,by omega,HM2,HNEXT,HL2⟩
    case measure=>simp [intOf];omega
   ·have d2:decide ((0:Int)<M)=false:=ye (by omega)
    have d2':M=0:=by omega
    by_cases hkL:(k:Int)<L
    ·have d3:decide ((k:Int)<L)=true:=by simpa using hkL
     have HL2:=yb (show L.toNat<k+1->N / 10 ^ (k+1-1)≠0 from fun h=>by omega)
     subst d2'
     go_wp2
     go_round
     case rel=>exact ⟨k+1,0,_,by omega,by go_num,rfl,by go_num,by omega,HM2,HNEXT,HL2⟩
     case measure=>simp [intOf];omega
    ·have d3:decide ((k:Int)<L)=false:=by simpa using hkL
     have HE:=yb (show S=V by rw [HV.out,HS.out,fixD_end N L.toNat k (by omega) (by omega) (by rw [<-HM.out];exact d2') HL.out])
     subst d2'
     go_wp2
     go_ret
     exact ⟨zb5 HE.out,rfl⟩
  ·obtain rfl:k=20:=by omega
   have HE:=yb (show S=V by
    rw [HV.out,HS.out,fixD_end N L.toNat 20 (by omega) (by omega) (Nat.div_eq_of_lt (by have:=HNN.out;omega)) HL.out])
   go_wp2
   go_ret
   exact ⟨zb5 HE.out,rfl⟩
def strLen:Value->Nat | .string t=>t.size|_=>0
theorem trimByte_any (s:ByteArray) (w:World) (hs:s.size<=100000) :
  Calls Tryz.prog 157 #[.string s,.int .u8 48] w fun e w'=>e=.returned (.string (mkS (zbN (bl s))))/\w=w':=by
 obtain ⟨V,hV⟩:∃V,V=zbN (bl s):=⟨_,rfl⟩
 rw [<-hV]
 have HV:=yb hV
 clear hV
 go_enter Tryz.func157,Tryz.ntmps157
 go_wp2
 go_loop [0] (fun v=>∃T:ByteArray,v=.string T/\T.size<=100000/\Hid (V=zbN (bl T))) (fun v=>strLen v)
 case atStart=>exact ⟨s,rfl,hs,HV⟩
 case round =>
  obtain ⟨T,rfl,hT,HT⟩:=hrel
  by_cases h0:T.size=0
  ·have HE:=yb (show T=mkS V by
    apply zcm
    have:bl T=[]:=List.eq_nil_of_length_eq_zero (by rw [zaR];exact h0)
    rw [HT.out,this];rfl)
   go_wp2
   go_ret
   exact ⟨zb5 HE.out,rfl⟩
  ·obtain ⟨m,hm⟩:∃m,T.size=m+1:=⟨T.size-1,by omega⟩
   have hgb:=PlainAid.get_bt T
   have hlt:m<T.size:=by omega
   have hx:(T[m].toNat:Int)=PlainAid.bt T m:=hgb m hlt
   have hsp:=zcQ T m hlt
   rw [List.take_of_length_le (by rw [zaR];omega)] at hsp
   have HSP:=yb hsp
   have HX:=yb hx
   clear hsp hx h0
   by_cases h48:PlainAid.bt T m=48
   ·have h48d:(PlainAid.bt T m==48)=true:=by rw [beq_iff_eq];exact h48
    have HN:=yb (show V=zbN (bl (T.extract 0 m)) by
     rw [HT.out,HSP.out,bl_to,show T[m]=48 from UInt8.toNat_inj.1 (Int.ofNat_inj.1 (HX.out.trans h48)),zdw])
    clear h48
    go_wp2
    go_round
    case rel=>exact ⟨_,rfl,by rw [ByteArray.size_extract];omega,HN⟩
    case measure=>simp [strLen,ByteArray.size_extract];omega
   ·have h48d:(PlainAid.bt T m==48)=false:=by rw [yf];exact h48
    have HE:=yb (show T=mkS V by
     apply zcm
     rw [zbZ,HT.out,HSP.out,zdO]
     intro e;exact h48 (by rw [<-HX.out,e];rfl))
    clear h48
    go_wp2
    go_ret
    exact ⟨zb5 HE.out,rfl⟩
theorem zfV (s:ByteArray) (w:World) (hs:s.size<=100000) :
  Calls Tryz.prog 129 #[.string s,.string ⟨#[48]⟩] w fun e w'=>e=.returned (.string (mkS (zbN (bl s))))/\w=w':=by
 have HT:=yb (fun W=>trimByte_any s W hs)
 by_cases he:s.toList=[]
 ·have HE:=yb (show s=mkS (zbN (bl s)) by apply zcm;rw [zbZ,<-toL,he];rfl)
  generalize mkS (zbN (bl s))=V at *
  go_enter Tryz.func129,Tryz.ntmps129
  go_wp2
  go_ret
  exact ⟨zb5 HE.out,rfl⟩
 ·have he2:s.toList.isEmpty=false:=by simpa using he
  generalize mkS (zbN (bl s))=V at *
  clear he
  go_enter Tryz.func129,Tryz.ntmps129
  go_wp2_with (go_at_call 157;refine (HT.out _).mono ?_;rintro e w' ⟨rfl,rfl⟩)
  go_ret
  exact ⟨rfl,rfl⟩
theorem zeros_ext (k:Nat) (h:k<=64):(mkS (List.replicate 64 48)).extract 0 k=mkS (List.replicate k 48):=by
 apply zcm
 rw [bl_to,zbZ,zbZ,List.take_replicate,Nat.min_eq_left h]
theorem case20 (k:Nat) (h:k<20):k=0\/k=1\/k=2\/k=3\/k=4\/k=5\/k=6\/k=7\/k=8\/k=9\/k=10\/k=11\/k=12\/k=13\/k=14\/k=15\/k=16\/k=17\/k=18\/k=19:=by omega
theorem mul64_any (k:Nat) (h:k<20) (w:World):Calls Tryz.prog 150 #[.int .u64 1,.int .u64 k] w fun e w'=>e=.returned (.tuple #[.int .u64 0,.int .u64 k])/\w=w':=by
 rcases case20 k h with rfl|rfl|rfl|rfl|rfl|rfl|rfl|rfl|rfl|rfl|rfl|rfl|rfl|rfl|rfl|rfl|rfl|rfl|rfl|rfl
 all_goals
  go_enter Tryz.func150,Tryz.ntmps150
  go_wp2
  go_ret2
  exact ⟨rfl,rfl⟩
theorem mul_any (k:Nat) (h:k<20) (w:World):Calls Tryz.prog 115 #[.int .u64 1,.int .u64 k] w fun e w'=>e=.returned (.tuple #[.int .u64 0,.int .u64 k])/\w=w':=by
 have HM:=yb (fun W=>mul64_any k h W)
 go_enter Tryz.func115,Tryz.ntmps115
 go_wp2_with (go_at_call 150;refine (HM.out _).mono ?_;rintro e w' ⟨rfl,rfl⟩)
 go_ret2
 exact ⟨rfl,rfl⟩
set_option maxRecDepth 100000 in
theorem repeat_any (k:Nat) (h:k<20) (w:World):Calls Tryz.prog 72 #[.string ⟨#[48]⟩,.int .i64 k] w fun e w'=>e=.returned (.string (mkS (List.replicate k 48)))/\w=w':=by
 have HM:=yb (fun W=>mul_any k h W)
 obtain ⟨V,hV⟩:∃V,V=mkS (List.replicate k 48):=⟨_,rfl⟩
 rw [<-hV]
 have HV:=yb hV
 clear hV
 by_cases h0:k=0
 ·subst h0
  go_enter Tryz.func72,Tryz.ntmps72
  go_wp2
  go_ret
  exact ⟨zb5 HV.out.symm,rfl⟩
 by_cases h1:k=1
 ·subst h1
  go_enter Tryz.func72,Tryz.ntmps72
  go_wp2
  go_ret
  exact ⟨zb5 HV.out.symm,rfl⟩
 have h0d:((k:Int)==0)=false:=by rw [yf];omega
 have h1d:((k:Int)==1)=false:=by rw [yf];omega
 have hn:decide ((k:Int)<0)=false:=ye (by omega)
 have hk19:(k:Int)<=19:=by omega
 have hk0:(0:Int)<=k:=by omega
 have h128:decide ((k:Int)<=128)=true:=yd (by omega)
 have h64:decide ((k:Int)<=64)=true:=yd (by omega)
 have HE:=yb (show (mkS (List.replicate 64 48)).extract 0 k=V by rw [HV.out];exact zeros_ext k (by omega))
 clear h0 h1
 go_enter Tryz.func72,Tryz.ntmps72
 go_wp2_with fail
 refine (HM.out _).mono ?_
 rintro e w' ⟨rfl,rfl⟩
 go_wp2_with fail
 refine (ze3 _ 48 _ (by decide)).mono ?_
 rintro e w' ⟨rfl,rfl⟩
 rw [show hd1 _ 48=false from rfl]
 go_wp2_with fail
 refine (ze3 _ 48 _ (by decide)).mono ?_
 rintro e w' ⟨rfl,rfl⟩
 rw [show hd1 _ 48=false from rfl]
 go_wp2_with fail
 refine (ze3 _ 48 _ (by decide)).mono ?_
 rintro e w' ⟨rfl,rfl⟩
 rw [show hd1 _ 48=true from rfl]
 go_wp2
 go_ret
 exact ⟨zb5 HE.out,rfl⟩
end Go.Proofs.YtcmoehknppjkiaaGreatDoor
