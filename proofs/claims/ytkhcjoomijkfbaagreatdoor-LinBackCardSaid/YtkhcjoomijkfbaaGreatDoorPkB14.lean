/-
  Our texts Rp3 to ArgsZ, in one.
-/
import Derived.Test.YtkhcjoomijkfbaaGreatDoorPkB13
import Derived.Deep.AppendSrc
import Derived.Lib.AppendZeros
import Derived.Lib.SlBytesConst
import Derived.Test.YtkhcjoomijkfbaaGreatDoorRows
import Derived.ProofKit
import Derived.OpenShut
import Derived.Lib.SmallJoins
import Derived.Test.YtkhcjoomijkfbaaGreatDoorProg
import Derived.ChangeSlices
set_option maxRecDepth 8000
set_option maxHeartbeats 8000000
namespace Go.Proofs.YtkhcjoomijkfbaaGreatDoor
open Go.RowKit
theorem found_b {o:Option Nat}:decide (zfb o<0)=!o.isSome:=by
 cases o with
 | none=>rfl
 | some k=>show decide ((k:Int)<0)=false;exact decide_eq_false (by omega)
structure OdM (w W:World) (F:Nat→Prop) (v:PV) (sl:Value) (st:Bool) (d:ByteArray) (q o l:Nat) (cs:Array Value):Prop where
 bel:Below w.heap.size w W
 val:IsV W F v sl
 obj:W.heap[o]?=some (.cells (obC v sl st d) 56 (0,0))
 res:W.heap[q]?=some (.cells #[.int .i64 0,.int .i64 0,.int .i64 0,.int .i64 0,.int .i64 0,.int .i64 0,.int .i64 0] 23 (0,0))
 row:W.heap[l]?=some (.cells cs 23 (0,0))
 nq:w.heap.size≤q
 nl:w.heap.size≤l
 ol:o≠l
 ql:q≠l
 okF:∀b,F b→b≠l
theorem OdM.next {w W W':World} {F:Nat→Prop} {v:PV} {sl:Value} {st:Bool} {d:ByteArray} {q o l:Nat} {cs:Array Value} (h:OdM w W F v sl st d q o l cs) (hb:Below W.heap.size W W'):OdM w W' F v sl st d q o l cs :=
 { h with bel:=h.bel.trans (hb.mono h.bel.size),val:=h.val.below hb,obj:=zab hb h.obj,res:=zab hb h.res,row:=zab hb h.row }
theorem OdM.put {w W:World} {F:Nat→Prop} {v:PV} {sl:Value} {st:Bool} {d:ByteArray} {q o l:Nat} {x0 x1 x2 x3 x4 x5 x6:Value} (h:OdM w W F v sl st d q o l #[x0,x1,x2,x3,x4,x5,x6]) (k:Nat) (y:Value):OdM w (W.setCell ⟨l,k,none⟩ y) F v sl st d q o l (#[x0,x1,x2,x3,x4,x5,x6].setIfInBounds k y) :=
 { h with
   bel:=h.bel.setCell h.nl _
   val:=IsV.keep (F:=F) ⟨by simp,fun b hb hF=>heap_setCell_other _ _ _ _ (h.okF b hF)⟩ (fun _ h=>h) v h.val
   obj:=(heap_setCell_other _ _ _ _ h.ol).trans h.obj
   res:=(heap_setCell_other _ _ _ _ h.ql).trans h.res
   row:=heap_setCell_same W l k _ _ _ h.row }
theorem odd_bad {v:PV} (h:(zcr v kLin).isSome=false):(ofV v).2=false:=by
 rw [zcM (.inl (by rw [named_is];exact h))]
theorem ofV_good {v:PV} (h1:(getP (getV v kLin)).2=true) (h2:(zcG v).2.2=true) (h3:intK v kL=true) (h4:intK v kO=true) (h5:intK v kE=true) (h6:intK v kN=true) (h7:intK v kT=true) :
   ofV v=({ len:=intN v kL,at_:=(zcG v).1,n:=(zcG v).2.1,obj:=intN v kO,fin:=intN v kE,pages:=intN v kN,main:=intN v kT },true):=by
 unfold ofV
 rw [if_pos ⟨h1,h2,h3,h4,h5,h6,h7⟩]
theorem rlparse_any {w:World} {a:Option Addr} {cap:Nat} {bs:List UInt8} {last:Bool} (hr:Row w 1 a bs.length cap (bs.map u8C)) (hn:bs.length≤399999) (HST:(frE bs last).1=true→RstreamC a cap bs last) (total:Int) :
   Calls Tryz.prog 14 #[.slice a bs.length cap,.bool last,.int .i64 total] w (LpEnd w (linV bs last total)):=by
 have hb1:=zam w (.cells #[.int .i64 0,.int .i64 0,.int .i64 0,.int .i64 0,.int .i64 0,.int .i64 0,.int .i64 0] 23)
 have HP:=Lib.hid (rparse14 (hr.mono hb1) hn HST)
 have HQ:=Lib.hid (zac (w:=w) (b:=w.heap.size) (.cells #[.int .i64 0,.int .i64 0,.int .i64 0,.int .i64 0,.int .i64 0,.int .i64 0,.int .i64 0] 23) rfl)
 have HB:=Lib.hid hb1
 have HRES:=Lib.hid (fun er st v=>lin_res (bs:=bs) (last:=last) (total:=total) (er:=er) (st:=st) (v:=v))
 have HEE:=Lib.hid (show linA ({}:LinD)=.agg #[.int .i64 0,.int .i64 0,.int .i64 0,.int .i64 0,.int .i64 0,.int .i64 0,.int .i64 0] from rfl)
 unfold zbM at HP
 unfold LpEnd
 generalize linV bs last total=L at *
 generalize frR bs last=R at *
 generalize (frD bs last).1=V at *
 clear hr hn HST hb1
 generalize bs.length=n at *
 go_enter Tryz.func14,Tryz.ntmps14
 go_upto_region 1 with fail
 obtain ⟨q,hq⟩:∃q,q=w.heap.size:=⟨_,rfl⟩
 rw [←hq] at HQ ⊢
 have HN:=Lib.hid (show w.heap.size≤q from Nat.le_of_eq hq.symm)
 clear hq
 generalize w.alloc _=W1 at *
 go_wp2_with fail
 refine HP.out.mono ?_
 rintro e w2 ⟨v,sl,st,d,n2,at2,er,rfl,hx,hev,hb,e6,e0,e1⟩
 have HRS:=Lib.hid (HRES.out er st v e6 e0 e1)
 obtain ⟨sa,sc,rfl,-,-,-⟩:=hx.len
 have hb3:=hb.alloc hb.size (.cells (obC v (.slice sa v.l.length sc) st d) 56)
 have HB3:=Lib.hid (HB.out.trans (hb3.mono HB.out.size))
 have HQ3:=Lib.hid (zab hb3 HQ.out)
 have HO3:=Lib.hid (zac (w:=w2) (b:=w2.heap.size) (.cells (obC v (.slice sa v.l.length sc) st d) 56) rfl)
 have HX3:=Lib.hid ((IsV.under _ hx).below (zam w2 (.cells (obC v (.slice sa v.l.length sc) st d) 56)))
 have HEV:=Lib.hid hev
 have HS23:=Lib.hid (show w2.heap.size≤(w2.alloc (.cells (obC v (.slice sa v.l.length sc) st d) 56)).heap.size from (zam w2 _).size)
 clear HP HB HQ HRES hb hb3 hx e6 e0 e1 hev
 unfold obC at HB3 HQ3 HO3 HX3 HS23 ⊢
 go_upto_region 2 with fail
 obtain ⟨o,ho⟩:∃o,o=w2.heap.size:=⟨_,rfl⟩
 rw [←ho] at HO3 ⊢
 clear ho
 generalize w2.alloc _=W3 at *
 obtain ⟨⟨o0,o1,o2,o3,o4,o5⟩,-⟩:=zaJ HO3.out
 obtain ⟨g0,g1,g2,g3,g4,g5,g6⟩:=zbg HQ3.out
 obtain ⟨z0,z1,z2,z3,z4,z5,z6⟩:=zaE HQ3.out
 have HZ:=Lib.hid (fun y0 y1 y2 y3 y4 y5 y6=>And.intro (set7 HQ3.out y0 y1 y2 y3 y4 y5 y6) (zaY HB3.out HN.out y0 y1 y2 y3 y4 y5 y6))
 by_cases h6:er=6
 case pos =>
   have hL:L=({},6):=by
     rcases HRS.out with ⟨-,h⟩|⟨h,-⟩|⟨h,-⟩|⟨h,-⟩
     · exact h
     · exact absurd h6 h
     · omega
     · omega
   subst h6
   have HL:=Lib.hid hL
   clear HRS HB3 HQ3 HO3 HX3 HEV hL
   go_wp2_with fail
   refine bodyPost_ret (zaa rfl _ _ q 23 _ (0,0) _ rfl (by exact (HZ.out _ _ _ _ _ _ _).1) Tryz.underlying23 rfl (by kernel_rfl) _ rfl) rfl ?_
   rw [HL.out,HEE.out]
   exact ⟨rfl,(HZ.out _ _ _ _ _ _ _).2⟩
 have k6:(er==6)=false:=by rw [beq_eq_false_iff_ne];exact h6
 by_cases h0:er=0
 case neg =>
   have hL:L=({},28):=by
     rcases HRS.out with ⟨h,-⟩|⟨-,-,h⟩|⟨h,-⟩|⟨h,-⟩
     · exact absurd h h6
     · exact h
     · exact absurd h h0
     · exact absurd h h0
   obtain ⟨k1,k2⟩:=zds h0
   have HL:=Lib.hid hL
   clear HRS HB3 HQ3 HO3 HX3 HEV hL h0 h6
   go_wp2_with fail
   refine bodyPost_ret (zaa rfl _ _ q 23 _ (0,0) _ rfl (by exact (HZ.out _ _ _ _ _ _ _).1) Tryz.underlying23 rfl (by kernel_rfl) _ rfl) rfl ?_
   rw [HL.out,HEE.out]
   exact ⟨rfl,(HZ.out _ _ _ _ _ _ _).2⟩
 subst h0
 clear h6 k6
 have HLB := Lib.hid (fun h : (if st = true then (({}, false) : LinD × Bool) else ofV v).2 = false => show L = ({}, 28) from by
   rcases HRS.out with ⟨h1,-⟩|⟨-,h1,-⟩|⟨-,-,h1⟩|⟨-,h1,-⟩
   · omega
   · exact absurd rfl h1
   · exact h1
   · rw [h] at h1;cases h1)
 have HLG := Lib.hid (fun h : (if st = true then (({}, false) : LinD × Bool) else ofV v).2 = true => show L = (if chkL (if st = true then (({}, false) : LinD × Bool) else ofV v).1 ≠ 0 ∨ (if st = true then (({}, false) : LinD × Bool) else ofV v).1.len ≠ total then ({}, 28) else ((if st = true then (({}, false) : LinD × Bool) else ofV v).1, 0)) from by
   rcases HRS.out with ⟨h1,-⟩|⟨-,h1,-⟩|⟨-,h1,-⟩|⟨-,-,h1⟩
   · omega
   · exact absurd rfl h1
   · rw [h] at h1;cases h1
   · exact h1)
 clear HRS
 cases st with
 | true =>
   have HL:=Lib.hid (HLB.out rfl)
   clear HLB HLG HB3 HQ3 HO3 HX3 HEV
   go_wp2_with fail
   refine bodyPost_ret (zaa rfl _ _ q 23 _ (0,0) _ rfl (by exact (HZ.out _ _ _ _ _ _ _).1) Tryz.underlying23 rfl (by kernel_rfl) _ rfl) rfl ?_
   rw [HL.out,HEE.out]
   exact ⟨rfl,(HZ.out _ _ _ _ _ _ _).2⟩
 | false =>
 simp only [Bool.false_eq_true,if_false] at HLB HLG
 by_cases h7:v.kind=7
 case neg =>
   have HL:=Lib.hid (HLB.out (odd_bad (by unfold zcr;rw [if_neg h7];rfl)))
   have k1:(v.kind==7)=false:=by rw [beq_eq_false_iff_ne];exact h7
   have k2:(v.kind != 7)=true:=by simp only [bne,k1,Bool.not_false]
   clear HLB HLG HB3 HQ3 HO3 HX3 HEV h7
   generalize v.kind=vk at *
   go_wp2_with fail
   refine bodyPost_ret (zaa rfl _ _ q 23 _ (0,0) _ rfl (by exact (HZ.out _ _ _ _ _ _ _).1) Tryz.underlying23 rfl (by kernel_rfl) _ rfl) rfl ?_
   rw [HL.out,HEE.out]
   exact ⟨rfl,(HZ.out _ _ _ _ _ _ _).2⟩
 have k1:(v.kind==7)=true:=by rw [h7];rfl
 have k2:(v.kind != 7)=false:=by simp only [bne,k1,Bool.not_true]
 have HF:=Lib.hid (rfind_any HX3.out HEV.out kLin)
 unfold zfh at HF
 have hfb:=found_b (o:=zcr v kLin)
 have HFB:=Lib.hid (fun h:(zcr v kLin).isSome=false=>HLB.out (odd_bad h))
 have HFG:=Lib.hid (named_is v kLin)
 generalize zfb (zcr v kLin)=fi at *
 generalize (zcr v kLin).isSome=fs at *
 clear h7
 unfold pvA at HF
 go_wp2_with fail
 refine HF.out.mono ?_
 rintro e w4 ⟨rfl,hb4⟩
 have HB4:=Lib.hid (HB3.out.trans (hb4.mono HB3.out.size))
 have HQ4:=Lib.hid (zab hb4 HQ3.out)
 have HO4:=Lib.hid (zab hb4 HO3.out)
 have HX4:=Lib.hid (HX3.out.below hb4)
 have HSZ:=Lib.hid hb4.size
 have HO33:=Lib.hid (zaj HO3.out)
 have HW23:=Lib.hid (show w2.heap.size≤W3.heap.size from HS23.out)
 have HQ33:=Lib.hid (zaj HQ3.out)
 clear HZ hb4 HB3 HQ3 HO3 HX3 HF o0 o1 o2 o3 o4 o5 g0 g1 g2 g3 g4 g5 g6 z0 z1 z2 z3 z4 z5 z6 k1 k2
 obtain ⟨⟨o0,o1,o2,o3,o4,o5⟩,-⟩:=zaJ HO4.out
 obtain ⟨g0,g1,g2,g3,g4,g5,g6⟩:=zbg HQ4.out
 obtain ⟨z0,z1,z2,z3,z4,z5,z6⟩:=zaE HQ4.out
 cases fs with
 | false =>
   have hfb2:decide (fi<0)=true:=hfb
   have HL:=Lib.hid (HFB.out rfl)
   have HZ:=Lib.hid (fun y0 y1 y2 y3 y4 y5 y6=>And.intro (set7 HQ4.out y0 y1 y2 y3 y4 y5 y6) (zaY HB4.out HN.out y0 y1 y2 y3 y4 y5 y6))
   clear HLB HLG HB4 HQ4 HO4 HX4 HEV HFB hfb
   go_wp2_with fail
   refine bodyPost_ret (zaa rfl _ _ q 23 _ (0,0) _ rfl (by exact (HZ.out _ _ _ _ _ _ _).1) Tryz.underlying23 rfl (by kernel_rfl) _ rfl) rfl ?_
   rw [HL.out,HEE.out]
   exact ⟨rfl,(HZ.out _ _ _ _ _ _ _).2⟩
 | true =>
 have hfb2:decide (fi<0)=false:=hfb
 clear hfb HFB
 have hb5:=zam w4 (.cells #[.int .i64 0,.int .i64 0,.int .i64 0,.int .i64 0,.int .i64 0,.int .i64 0,.int .i64 0] 23)
 have HM := Lib.hid (show OdM w (w4.alloc (.cells #[.int .i64 0, .int .i64 0, .int .i64 0, .int .i64 0, .int .i64 0, .int .i64 0, .int .i64 0] 23)) (fun b => anyF b ∧ b < w2.heap.size) v (.slice sa v.l.length sc) false d q o w4.heap.size #[.int .i64 0, .int .i64 0, .int .i64 0, .int .i64 0, .int .i64 0, .int .i64 0, .int .i64 0] from
   { bel:=HB4.out.trans (hb5.mono HB4.out.size),val:=HX4.out.below hb5,obj:=zab hb5 HO4.out,res:=zab hb5 HQ4.out,row:=zac _ rfl,nq:=HN.out,nl:=HB4.out.size
     ol:=by have:=HO33.out;have:=HSZ.out;omega
     ql:=by have:=HQ33.out;have:=HSZ.out;omega
     okF:=fun b hb=>by have h1:=hb.2;have:=HW23.out;have:=HSZ.out;omega })
 have HWH:=Lib.hid (fun (W:World) (hx:IsV W (fun b=>anyF b∧b<w2.heap.size) v (.slice sa v.l.length sc)) key=>rwhole29 hx HEV.out key)
 have HGH:=Lib.hid (fun (W:World) (hx:IsV W (fun b=>anyF b∧b<w2.heap.size) v (.slice sa v.l.length sc))=>rget_any hx HEV.out kH)
 unfold WhlEnd pvA at HWH
 unfold zfE at HGH
 unfold pvA at HGH
 have HFT:=Lib.hid (show (getP (getV v kLin)).2=true from HFG.out)
 clear hb5 HB4 HQ4 HO4 HX4 HO33 HQ33 HSZ HW23 HFG HEV
 go_upto_region 8 with fail
 obtain ⟨l,hl⟩:∃l,l=w4.heap.size:=⟨_,rfl⟩
 rw [←hl] at HM ⊢
 clear hl o0 o1 o2 o3 o4 o5 g0 g1 g2 g3 g4 g5 g6 z0 z1 z2 z3 z4 z5 z6
 generalize w4.alloc _=W5 at *
 obtain ⟨⟨o0,o1,o2,o3,o4,o5⟩,-⟩:=zaJ HM.out.obj
 go_wp2_with fail
 refine (HWH.out _ HM.out.val kL).mono ?_
 rintro e x0 ⟨rfl,hbx⟩
 have HMa0:=Lib.hid (HM.out.next hbx)
 clear hbx o0 o1 o2 o3 o4 o5 HM
 obtain ⟨r0,r1,r2,r3,r4,r5,r6⟩:=zaE HMa0.out.row
 obtain ⟨f0,f1,f2,f3,f4,f5,f6⟩:=zbg HMa0.out.row
 have HMb0:=Lib.hid (show OdM w (x0.setCell ⟨l,0,none⟩ (.int .i64 (intN v kL))) (fun b=>anyF b∧b<w2.heap.size) v (.slice sa v.l.length sc) false d q o l #[.int .i64 (intN v kL),.int .i64 0,.int .i64 0,.int .i64 0,.int .i64 0,.int .i64 0,.int .i64 0] from HMa0.out.put 0 _)
 go_upto_region 9 with fail
 clear r0 r1 r2 r3 r4 r5 r6 f0 f1 f2 f3 f4 f5 f6 HMa0
 generalize World.setCell _ _ _=X0 at *
 obtain ⟨⟨o0,o1,o2,o3,o4,o5⟩,-⟩:=zaJ HMb0.out.obj
 go_wp2_with fail
 refine (HWH.out _ HMb0.out.val kO).mono ?_
 rintro e x1 ⟨rfl,hbx⟩
 have HMa1:=Lib.hid (HMb0.out.next hbx)
 clear hbx o0 o1 o2 o3 o4 o5 HMb0
 obtain ⟨r0,r1,r2,r3,r4,r5,r6⟩:=zaE HMa1.out.row
 obtain ⟨f0,f1,f2,f3,f4,f5,f6⟩:=zbg HMa1.out.row
 have HMb1:=Lib.hid (show OdM w (x1.setCell ⟨l,3,none⟩ (.int .i64 (intN v kO))) (fun b=>anyF b∧b<w2.heap.size) v (.slice sa v.l.length sc) false d q o l #[.int .i64 (intN v kL),.int .i64 0,.int .i64 0,.int .i64 (intN v kO),.int .i64 0,.int .i64 0,.int .i64 0] from HMa1.out.put 3 _)
 go_upto_region 10 with fail
 clear r0 r1 r2 r3 r4 r5 r6 f0 f1 f2 f3 f4 f5 f6 HMa1
 generalize World.setCell _ _ _=X1 at *
 obtain ⟨⟨o0,o1,o2,o3,o4,o5⟩,-⟩:=zaJ HMb1.out.obj
 go_wp2_with fail
 refine (HWH.out _ HMb1.out.val kE).mono ?_
 rintro e x2 ⟨rfl,hbx⟩
 have HMa2:=Lib.hid (HMb1.out.next hbx)
 clear hbx o0 o1 o2 o3 o4 o5 HMb1
 obtain ⟨r0,r1,r2,r3,r4,r5,r6⟩:=zaE HMa2.out.row
 obtain ⟨f0,f1,f2,f3,f4,f5,f6⟩:=zbg HMa2.out.row
 have HMb2:=Lib.hid (show OdM w (x2.setCell ⟨l,4,none⟩ (.int .i64 (intN v kE))) (fun b=>anyF b∧b<w2.heap.size) v (.slice sa v.l.length sc) false d q o l #[.int .i64 (intN v kL),.int .i64 0,.int .i64 0,.int .i64 (intN v kO),.int .i64 (intN v kE),.int .i64 0,.int .i64 0] from HMa2.out.put 4 _)
 go_upto_region 11 with fail
 clear r0 r1 r2 r3 r4 r5 r6 f0 f1 f2 f3 f4 f5 f6 HMa2
 generalize World.setCell _ _ _=X2 at *
 obtain ⟨⟨o0,o1,o2,o3,o4,o5⟩,-⟩:=zaJ HMb2.out.obj
 go_wp2_with fail
 refine (HWH.out _ HMb2.out.val kN).mono ?_
 rintro e x3 ⟨rfl,hbx⟩
 have HMa3:=Lib.hid (HMb2.out.next hbx)
 clear hbx o0 o1 o2 o3 o4 o5 HMb2
 obtain ⟨r0,r1,r2,r3,r4,r5,r6⟩:=zaE HMa3.out.row
 obtain ⟨f0,f1,f2,f3,f4,f5,f6⟩:=zbg HMa3.out.row
 have HMb3:=Lib.hid (show OdM w (x3.setCell ⟨l,5,none⟩ (.int .i64 (intN v kN))) (fun b=>anyF b∧b<w2.heap.size) v (.slice sa v.l.length sc) false d q o l #[.int .i64 (intN v kL),.int .i64 0,.int .i64 0,.int .i64 (intN v kO),.int .i64 (intN v kE),.int .i64 (intN v kN),.int .i64 0] from HMa3.out.put 5 _)
 go_upto_region 12 with fail
 clear r0 r1 r2 r3 r4 r5 r6 f0 f1 f2 f3 f4 f5 f6 HMa3
 generalize World.setCell _ _ _=X3 at *
 obtain ⟨⟨o0,o1,o2,o3,o4,o5⟩,-⟩:=zaJ HMb3.out.obj
 go_wp2_with fail
 refine (HWH.out _ HMb3.out.val kT).mono ?_
 rintro e x4 ⟨rfl,hbx⟩
 have HMa4:=Lib.hid (HMb3.out.next hbx)
 clear hbx o0 o1 o2 o3 o4 o5 HMb3
 obtain ⟨r0,r1,r2,r3,r4,r5,r6⟩:=zaE HMa4.out.row
 obtain ⟨f0,f1,f2,f3,f4,f5,f6⟩:=zbg HMa4.out.row
 have HMb4:=Lib.hid (show OdM w (x4.setCell ⟨l,6,none⟩ (.int .i64 (intN v kT))) (fun b=>anyF b∧b<w2.heap.size) v (.slice sa v.l.length sc) false d q o l #[.int .i64 (intN v kL),.int .i64 0,.int .i64 0,.int .i64 (intN v kO),.int .i64 (intN v kE),.int .i64 (intN v kN),.int .i64 (intN v kT)] from HMa4.out.put 6 _)
 go_upto_region 13 with fail
 clear r0 r1 r2 r3 r4 r5 r6 f0 f1 f2 f3 f4 f5 f6 HMa4
 generalize World.setCell _ _ _=X4 at *
 obtain ⟨⟨o0,o1,o2,o3,o4,o5⟩,-⟩:=zaJ HMb4.out.obj
 go_wp2_with fail
 refine (HGH.out _ HMb4.out.val).mono ?_
 rintro e x5 ⟨slh,rfl,hxh,hbx⟩
 have HHV:=Lib.hid (hintV_is v)
 generalize getP (getV v kH)=G at *
 obtain ⟨g,is⟩:=G
 dsimp only at hxh HHV ⊢
 obtain ⟨ta,tc,rfl,hcp1,hcp2,-⟩:=hxh.len
 have hbg:=hbx.alloc hbx.size (.cells #[.int .i64 g.kind,.int .i64 g.n,.string (mkB g.s),.slice ta g.l.length tc] 48)
 have HMC:=Lib.hid (HMb4.out.next hbg)
 have HHK:=Lib.hid (zac (w:=x5) (b:=x5.heap.size) (.cells #[.int .i64 g.kind,.int .i64 g.n,.string (mkB g.s),.slice ta g.l.length tc] 48) rfl)
 have HHX:=Lib.hid (hxh.below (zam x5 (.cells #[.int .i64 g.kind,.int .i64 g.n,.string (mkB g.s),.slice ta g.l.length tc] 48)))
 have HLT:=Lib.hid (Nat.lt_of_lt_of_le (zaj HMb4.out.row) hbx.size)
 clear hbx hbg hxh HMb4 o0 o1 o2 o3 o4 o5 HWH HGH
 go_upto_region 14 with fail
 obtain ⟨hh,hhh⟩:∃hh,hh=x5.heap.size:=⟨_,rfl⟩
 rw [←hhh] at HHK HLT ⊢
 clear hhh
 generalize x5.alloc _=X5 at *
 obtain ⟨⟨t0,t1,t2,t3⟩,-⟩:=zae HHK.out
 obtain ⟨⟨o0,o1,o2,o3,o4,o5⟩,-⟩:=zaJ HMC.out.obj
 obtain ⟨f0,f1,f2,f3,f4,f5,f6⟩:=zbg HMC.out.res
 obtain ⟨z0,z1,z2,z3,z4,z5,z6⟩:=zaE HMC.out.res
 obtain ⟨r0,r1,r2,r3,r4,r5,r6⟩:=zaE HMC.out.row
 have HZ:=Lib.hid (fun y0 y1 y2 y3 y4 y5 y6=>And.intro (set7 HMC.out.res y0 y1 y2 y3 y4 y5 y6) (zaY HMC.out.bel HMC.out.nq y0 y1 y2 y3 y4 y5 y6))
 have HOF:=Lib.hid (ofV_good (v:=v))
 have HOB:=Lib.hid (zcM (v:=v))
 obtain ⟨ka,hka⟩:∃b,b=intK v kL:=⟨_,rfl⟩
 obtain ⟨kc,hkc⟩:∃b,b=intK v kO:=⟨_,rfl⟩
 obtain ⟨kd,hkd⟩:∃b,b=intK v kE:=⟨_,rfl⟩
 obtain ⟨kf,hkf⟩:∃b,b=intK v kN:=⟨_,rfl⟩
 obtain ⟨kg,hkg⟩:∃b,b=intK v kT:=⟨_,rfl⟩
 rw [←hka,←hkc,←hkd,←hkf,←hkg] at HOF HOB
 rw [←hka,←hkc,←hkd,←hkf,←hkg]
 clear hka hkc hkd hkf hkg
 unfold maxLen at hcp2
 cases ka with
 | false =>
   have HL:=Lib.hid (HLB.out (by rw [HOB.out (.inr (.inr (.inl rfl)))]))
   clear HLB HLG HOF HOB HHK HHX HFT HHV HLT
   clear HMC
   go_wp2_with fail
   refine bodyPost_ret (zaa rfl _ _ q 23 _ (0,0) _ rfl (by exact (HZ.out _ _ _ _ _ _ _).1) Tryz.underlying23 rfl (by kernel_rfl) _ rfl) rfl ?_
   rw [HL.out,HEE.out]
   exact ⟨rfl,(HZ.out _ _ _ _ _ _ _).2⟩
 | true =>
 cases kc with
 | false =>
   have HL:=Lib.hid (HLB.out (by rw [HOB.out (.inr (.inr (.inr (.inl rfl))))]))
   clear HLB HLG HOF HOB HHK HHX HFT HHV HLT
   clear HMC
   go_wp2_with fail
   refine bodyPost_ret (zaa rfl _ _ q 23 _ (0,0) _ rfl (by exact (HZ.out _ _ _ _ _ _ _).1) Tryz.underlying23 rfl (by kernel_rfl) _ rfl) rfl ?_
   rw [HL.out,HEE.out]
   exact ⟨rfl,(HZ.out _ _ _ _ _ _ _).2⟩
 | true =>
 cases kd with
 | false =>
   have HL:=Lib.hid (HLB.out (by rw [HOB.out (.inr (.inr (.inr (.inr (.inl rfl)))))]))
   clear HLB HLG HOF HOB HHK HHX HFT HHV HLT
   clear HMC
   go_wp2_with fail
   refine bodyPost_ret (zaa rfl _ _ q 23 _ (0,0) _ rfl (by exact (HZ.out _ _ _ _ _ _ _).1) Tryz.underlying23 rfl (by kernel_rfl) _ rfl) rfl ?_
   rw [HL.out,HEE.out]
   exact ⟨rfl,(HZ.out _ _ _ _ _ _ _).2⟩
 | true =>
 cases kf with
 | false =>
   have HL:=Lib.hid (HLB.out (by rw [HOB.out (.inr (.inr (.inr (.inr (.inr (.inl rfl))))))]))
   clear HLB HLG HOF HOB HHK HHX HFT HHV HLT
   clear HMC
   go_wp2_with fail
   refine bodyPost_ret (zaa rfl _ _ q 23 _ (0,0) _ rfl (by exact (HZ.out _ _ _ _ _ _ _).1) Tryz.underlying23 rfl (by kernel_rfl) _ rfl) rfl ?_
   rw [HL.out,HEE.out]
   exact ⟨rfl,(HZ.out _ _ _ _ _ _ _).2⟩
 | true =>
 cases kg with
 | false =>
   have HL:=Lib.hid (HLB.out (by rw [HOB.out (.inr (.inr (.inr (.inr (.inr (.inr rfl))))))]))
   clear HLB HLG HOF HOB HHK HHX HFT HHV HLT
   clear HMC
   go_wp2_with fail
   refine bodyPost_ret (zaa rfl _ _ q 23 _ (0,0) _ rfl (by exact (HZ.out _ _ _ _ _ _ _).1) Tryz.underlying23 rfl (by kernel_rfl) _ rfl) rfl ?_
   rw [HL.out,HEE.out]
   exact ⟨rfl,(HZ.out _ _ _ _ _ _ _).2⟩
 | true =>
 have hcs:=zfF g
 rcases hcs with h6|⟨h6,hl⟩|⟨x,y,t,h6,hl,hk⟩|⟨x,y,t,h6,hl,hk,hk2⟩|⟨x,y,t,h6,hl,hk,hk2⟩
 · have e1 : (g.kind == 6) = false := by rw [beq_eq_false_iff_ne]; exact h6
   have e2:(g.kind != 6)=true:=by simp only [bne,e1,Bool.not_false]
   have HR:=Lib.hid (show zd5 g=(0,0,false) from if_neg fun h=>h6 h.1)
   have HL:=Lib.hid (HLB.out (by rw [HOB.out (.inr (.inl (by rw [HHV.out,HR.out])))]))
   clear h6 HHX HR HLB HLG HOF HOB HHK HFT HHV HLT
   generalize g.kind=gk at *
   clear HMC
   go_wp2_with fail
   refine bodyPost_ret (zaa rfl _ _ q 23 _ (0,0) _ rfl (by exact (HZ.out _ _ _ _ _ _ _).1) Tryz.underlying23 rfl (by kernel_rfl) _ rfl) rfl ?_
   rw [HL.out,HEE.out]
   exact ⟨rfl,(HZ.out _ _ _ _ _ _ _).2⟩
 · have e1 : (g.kind == 6) = true := by rw [h6]; rfl
   have e2:(g.kind != 6)=false:=by simp only [bne,e1,Bool.not_true]
   have e3:decide ((g.l.length:Int)<2)=true:=decide_eq_true (by omega)
   have HR:=Lib.hid (show zd5 g=(0,0,false) from if_neg fun h=>by have:=h.2.1;omega)
   have HL:=Lib.hid (HLB.out (by rw [HOB.out (.inr (.inl (by rw [HHV.out,HR.out])))]))
   clear h6 hl HHX HR HLB HLG HOF HOB HHK HFT HHV HLT
   generalize g.kind=gk at *
   generalize g.l.length=gl at *
   clear HMC
   go_wp2_with fail
   refine bodyPost_ret (zaa rfl _ _ q 23 _ (0,0) _ rfl (by exact (HZ.out _ _ _ _ _ _ _).1) Tryz.underlying23 rfl (by kernel_rfl) _ rfl) rfl ?_
   rw [HL.out,HEE.out]
   exact ⟨rfl,(HZ.out _ _ _ _ _ _ _).2⟩
 all_goals
   have e1:(g.kind==6)=true:=by rw [h6];rfl
   have e2:(g.kind != 6)=false:=by simp only [bne,e1,Bool.not_true]
   have hlen:g.l.length=t.length+2:=by rw [hl];simp
   have e3:decide ((g.l.length:Int)<2)=false:=decide_eq_false (by omega)
   obtain ⟨-,-,-,b,off,rfl,hbW,hbF,hat⟩:=HHX.out.at (by omega)
   obtain ⟨s0,-,x0,x1,-,-⟩:=hat 0 x (by rw [hl];rfl)
   obtain ⟨s1,-,y0,y1,-,-⟩:=hat 1 y (by rw [hl];rfl)
   rw [Nat.zero_mul,Nat.add_zero] at x0 x1
   rw [Nat.one_mul] at y0 y1
   have hn0:(0:Int)<(g.l.length:Int):=by omega
   have hn1:(1:Int)<(g.l.length:Int):=by omega
   clear hat
 · have HR := Lib.hid (show zd5 g = (0, 0, false) from if_neg fun h => hk (by have := h.2.2.1; rw [hl] at this; exact this))
   have HL:=Lib.hid (HLB.out (by rw [HOB.out (.inr (.inl (by rw [HHV.out,HR.out])))]))
   have e4:(x.kind==2)=false:=by rw [beq_eq_false_iff_ne];exact hk
   have e5:(x.kind != 2)=true:=by simp only [bne,e4,Bool.not_false]
   clear h6 hl HHX hk hlen HR HLB HLG HOF HOB HHK HFT HHV HLT
   generalize g.kind=gk at *
   generalize g.l.length=gl at *
   generalize x.kind=xk at *
   clear HMC
   go_wp2_with fail
   refine bodyPost_ret (zaa rfl _ _ q 23 _ (0,0) _ rfl (by exact (HZ.out _ _ _ _ _ _ _).1) Tryz.underlying23 rfl (by kernel_rfl) _ rfl) rfl ?_
   rw [HL.out,HEE.out]
   exact ⟨rfl,(HZ.out _ _ _ _ _ _ _).2⟩
 · have HR := Lib.hid (show zd5 g = (0, 0, false) from if_neg fun h => hk2 (by have := h.2.2.2; rw [hl] at this; exact this))
   have HL:=Lib.hid (HLB.out (by rw [HOB.out (.inr (.inl (by rw [HHV.out,HR.out])))]))
   have e4:(x.kind==2)=true:=by rw [hk];rfl
   have e5:(x.kind != 2)=false:=by simp only [bne,e4,Bool.not_true]
   have e6:(y.kind==2)=false:=by rw [beq_eq_false_iff_ne];exact hk2
   have e7:(y.kind != 2)=true:=by simp only [bne,e6,Bool.not_false]
   clear h6 hl HHX hk hk2 hlen HR HLB HLG HOF HOB HHK HFT HHV HLT
   generalize g.kind=gk at *
   generalize g.l.length=gl at *
   generalize x.kind=xk at *
   generalize y.kind=yk at *
   clear HMC
   go_wp2_with fail
   refine bodyPost_ret (zaa rfl _ _ q 23 _ (0,0) _ rfl (by exact (HZ.out _ _ _ _ _ _ _).1) Tryz.underlying23 rfl (by kernel_rfl) _ rfl) rfl ?_
   rw [HL.out,HEE.out]
   exact ⟨rfl,(HZ.out _ _ _ _ _ _ _).2⟩
 · have HR := Lib.hid (show zd5 g = (x.n, y.n, true) from by unfold zd5; rw [hl]; exact if_pos ⟨h6, by simp, hk, hk2⟩)
   have e4:(x.kind==2)=true:=by rw [hk];rfl
   have e5:(x.kind != 2)=false:=by simp only [bne,e4,Bool.not_true]
   have e6:(y.kind==2)=true:=by rw [hk2];rfl
   have e7:(y.kind != 2)=false:=by simp only [bne,e6,Bool.not_true]
   have HOO:=Lib.hid (HOF.out HFT.out (by rw [HHV.out,HR.out]) rfl rfl rfl rfl rfl)
   rw [HHV.out,HR.out] at HOO
   dsimp only at HOO
   have HLL:=Lib.hid (show L=(if chkL ({ len:=intN v kL,at_:=x.n,n:=y.n,obj:=intN v kO,fin:=intN v kE,pages:=intN v kN,main:=intN v kT }:LinD)≠0∨intN v kL≠total then ({},28) else (({ len:=intN v kL,at_:=x.n,n:=y.n,obj:=intN v kO,fin:=intN v kE,pages:=intN v kN,main:=intN v kT }:LinD),0)) from by
     have h:=HLG.out (by rw [HOO.out])
     rw [HOO.out] at h
     exact h)
   have hbl:b≠l:=HMC.out.okF b hbF
   have hhl:hh≠l:=Nat.ne_of_gt HLT.out
   have HME:=Lib.hid (show OdM w ((X5.setCell ⟨l,1,none⟩ (.int .i64 x.n)).setCell ⟨l,2,none⟩ (.int .i64 y.n)).drew (fun b=>anyF b∧b<w2.heap.size) v (.slice sa v.l.length sc) false d q o l #[.int .i64 (intN v kL),.int .i64 x.n,.int .i64 y.n,.int .i64 (intN v kO),.int .i64 (intN v kE),.int .i64 (intN v kN),.int .i64 (intN v kT)] from ((HMC.out.put 1 (.int .i64 x.n)).put 2 (.int .i64 y.n)).next (Below.refl _ _).drew)
   obtain ⟨p0,p1,p2,p3,p4,p5,p6⟩:=zbg HMC.out.row
   clear HMC HZ h6 hl hk hk2 hlen HR HOO HHV HFT HHK HLT HLB HLG HOF HOB HHX o0 o1 o2 o3 o4 o5 f0 f1 f2 f3 f4 f5 f6 z0 z1 z2 z3 z4 z5 z6
   generalize g.kind=gk at *
   generalize g.l.length=gl at *
   generalize x.kind=xk at *
   generalize y.kind=yk at *
   generalize x.n=xn at *
   generalize y.n=yn at *
   go_upto_region 16 with fail
   go_region
   generalize World.drew _=X6 at *
   have HMM:=HME
   clear HME x0 x1 y0 y1 t0 t1 t2 t3 r0 r1 r2 r3 r4 r5 r6 p0 p1 p2 p3 p4 p5 p6 e1 e2 e3 e4 e5 e6 e7 hn0 hn1
   have HCK:=Lib.hid (fun W=>show Calls Tryz.prog 11 #[.agg #[.int .i64 (intN v kL),.int .i64 xn,.int .i64 yn,.int .i64 (intN v kO),.int .i64 (intN v kE),.int .i64 (intN v kN),.int .i64 (intN v kT)]] W (zen W ({ len:=intN v kL,at_:=xn,n:=yn,obj:=intN v kO,fin:=intN v kE,pages:=intN v kN,main:=intN v kT }:LinD)) from zeZ ({ len:=intN v kL,at_:=xn,n:=yn,obj:=intN v kO,fin:=intN v kE,pages:=intN v kN,main:=intN v kT }:LinD) W)
   unfold zen at HCK
   have HES:=Lib.hid (show linA ({ len:=intN v kL,at_:=xn,n:=yn,obj:=intN v kO,fin:=intN v kE,pages:=intN v kN,main:=intN v kT }:LinD)=.agg #[.int .i64 (intN v kL),.int .i64 xn,.int .i64 yn,.int .i64 (intN v kO),.int .i64 (intN v kE),.int .i64 (intN v kN),.int .i64 (intN v kT)] from rfl)
   generalize ({ len:=intN v kL,at_:=xn,n:=yn,obj:=intN v kO,fin:=intN v kE,pages:=intN v kN,main:=intN v kT }:LinD)=S1 at *
   generalize chkL S1=ck at *
   generalize intN v kL=m1 at *
   generalize intN v kO=m2 at *
   generalize intN v kE=m3 at *
   generalize intN v kN=m4 at *
   generalize intN v kT=m5 at *
   obtain ⟨r0,r1,r2,r3,r4,r5,r6⟩:=zaE HMM.out.row
   go_wp2_with fail
   refine (HCK.out _).mono ?_
   rintro e w6 ⟨rfl,hb6⟩
   have HMN:=Lib.hid (HMM.out.next hb6)
   clear hb6 HMM HCK r0 r1 r2 r3 r4 r5 r6
   obtain ⟨r0,r1,r2,r3,r4,r5,r6⟩:=zaE HMN.out.row
   obtain ⟨f0,f1,f2,f3,f4,f5,f6⟩:=zbg HMN.out.res
   obtain ⟨z0,z1,z2,z3,z4,z5,z6⟩:=zaE HMN.out.res
   have HZ:=Lib.hid (fun y0 y1 y2 y3 y4 y5 y6=>And.intro (set7 HMN.out.res y0 y1 y2 y3 y4 y5 y6) (zaY HMN.out.bel HMN.out.nq y0 y1 y2 y3 y4 y5 y6))
   have hc2:(¬ck=0)∨(ck=0∧¬m1=total)∨(ck=0∧m1=total):=by
     by_cases h1:ck=0
     · by_cases h2:m1=total
       · exact .inr (.inr ⟨h1,h2⟩)
       · exact .inr (.inl ⟨h1,h2⟩)
     · exact .inl h1
   clear HMN
   rcases hc2 with k0|⟨k0,k1⟩|⟨k0,k1⟩
   · have HL:=Lib.hid (show L=({},28) from HLL.out.trans (if_pos (.inl k0)))
     obtain ⟨k2,k3⟩:=zds k0
     clear HLL k0 HES
     go_wp2_with fail
     refine bodyPost_ret (zaa rfl _ _ q 23 _ (0,0) _ rfl (by exact (HZ.out _ _ _ _ _ _ _).1) Tryz.underlying23 rfl (by kernel_rfl) _ rfl) rfl ?_
     rw [HL.out,HEE.out]
     exact ⟨rfl,(HZ.out _ _ _ _ _ _ _).2⟩
   · have HL:=Lib.hid (show L=({},28) from HLL.out.trans (if_pos (.inr k1)))
     have k2:(m1==total)=false:=by rw [beq_eq_false_iff_ne];exact k1
     have k3:(m1 != total)=true:=by simp only [bne,k2,Bool.not_false]
     subst k0
     clear HLL k1 HES
     go_wp2_with fail
     refine bodyPost_ret (zaa rfl _ _ q 23 _ (0,0) _ rfl (by exact (HZ.out _ _ _ _ _ _ _).1) Tryz.underlying23 rfl (by kernel_rfl) _ rfl) rfl ?_
     rw [HL.out,HEE.out]
     exact ⟨rfl,(HZ.out _ _ _ _ _ _ _).2⟩
   · have HL := Lib.hid (show L = (S1, 0) from HLL.out.trans (if_neg (by rintro (h | h) <;> exact h (by assumption))))
     have k2:(m1==total)=true:=by rw [beq_iff_eq];exact k1
     have k3:(m1 != total)=false:=by simp only [bne,k2,Bool.not_true]
     subst k0
     clear HLL k1
     go_wp2_with fail
     refine bodyPost_ret (zaa rfl _ _ q 23 _ (0,0) _ rfl (by exact (HZ.out _ _ _ _ _ _ _).1) Tryz.underlying23 rfl (by kernel_rfl) _ rfl) rfl ?_
     rw [HL.out,HES.out]
     exact ⟨rfl,(HZ.out _ _ _ _ _ _ _).2⟩
theorem EByteQ:ElemT Tryz.prog 24 5 (.int .u8 0) 1 1:=⟨Tryz.underlying24,by kernel_rfl,rfl,by omega⟩
theorem zee {B g:Nat} (hg:B≤g):∀(vs:List Value) (o:Nat) (w:World),Below B w (w.setCells g o vs)
 | [],_,_=>Below.refl _ _
 | v::vs,o,w=>(show Below B w (w.setCell ⟨g,o,none⟩ v) from (Below.refl B w).setCell hg v).trans (zee hg vs (o+1) _)
theorem zfO {g k:Nat} (hk:k≠g):∀(vs:List Value) (o:Nat) (w:World),(w.setCells g o vs).heap[k]?=w.heap[k]?
 | [],_,_=>rfl
 | v::vs,o,w=>(zfO hk vs (o+1) (w.setCell ⟨g,o,none⟩ v)).trans (heap_setCell_other _ _ _ _ hk)
theorem zeI.keep {W W':World} {g L c:Nat} (h:zeI W g L c) (hb:W'.heap[g]?=W.heap[g]?):zeI W' g L c:=fun j hj =>
 ⟨by rw [World.cell?_of_block (w:=W) (a:=⟨g,L+j,none⟩) hb];exact (h j hj).1,by rw [World.frozen?_of_block (w:=W) (a:=⟨g,L+j,none⟩) hb];exact (h j hj).2⟩
theorem src29 {W:World} {a:Option Addr} {cap:Nat} {bs:List UInt8} (hr:Row W 1 a bs.length cap (bs.map u8C)):Go.Src Tryz.prog 1 24 (.slice a bs.length cap) bs.length (bs.map u8C) W:=by
 have h1:∀u∈bs.map u8C,u.oneCell'=true:=fun u hu=>by obtain ⟨x,_,rfl⟩:=List.mem_map.1 hu;rfl
 cases a with
 | none =>
   have h0:=hr.2.2.2.1 rfl
   have hle:=hr.2.1
   have ho:bs=[]:=List.eq_nil_of_length_eq_zero (by omega)
   subst ho
   exact Go.Src.ofNil W Tryz.underlying24 cap
 | some ad =>
   refine Go.Src.ofSlice (size:=1) W Tryz.underlying24 ad bs.length cap _ (by simp) (fun j u hj=>?_) h1
   have hlt:0<bs.length:=by have:=(List.getElem?_eq_some_iff.1 hj).1;rw [List.length_map] at this;omega
   obtain ⟨b,off,hab,_,hc⟩:=hr.2.2.2.2 hlt
   obtain rfl:=Option.some.inj hab
   rw [Addr.add_lit];exact hc j u hj
theorem run_app29 {W:World} {g c:Nat} {T bs:List UInt8} {a:Option Addr} {cap:Nat} (hT:Row W 1 (some ⟨g,0,none⟩) T.length c (T.map u8C)) (hT0:0<T.length) (hroom:zeI W g T.length c) (hr:Row W 1 a bs.length cap (bs.map u8C)) (hl:T.length+bs.length≤390000) (ty:TypeId) :
   ∃a' c' w',(Builtin.append_ #[24,24] ty #[.slice (some ⟨g,0,none⟩) T.length c,.slice a bs.length cap]).run Tryz.prog W=.ok (.slice (some a') (T++bs).length c') w'∧Row w' 1 (some a') (T++bs).length c' ((T++bs).map u8C)∧(∀B,B≤g→B≤W.heap.size→Below B W w')∧(∀k,k<W.heap.size→k≠g→w'.heap[k]?=W.heap[k]?):=by
 obtain ⟨i,hi,hz,hs',hb⟩:=info_parts (EByteQ).info
 have hsrc:=src29 hr
 have hcm:=hT.2.2.1
 have hcl:=hT.2.1
 obtain ⟨b,off,hab,hlt,hcells⟩:=hT.2.2.2.2 hT0
 simp only [Option.some.injEq,Addr.mk.injEq,and_true] at hab
 obtain ⟨rfl,rfl⟩:=hab
 simp only [Nat.zero_add] at hcells
 by_cases hrm:T.length+bs.length≤c
 · have hst : ∀ j, j < (bs.map u8C).length → (W.cell? ⟨g, 0 + T.length * i.size + j, none⟩).isSome = true ∧ W.frozen? ⟨g, 0 + T.length * i.size + j, none⟩ = false := fun j hj => by
     rw [List.length_map] at hj
     rw [hs',Nat.mul_one,Nat.zero_add]
     exact hroom j (by omega)
   have hrun:=run_append_room_src (P:=Tryz.prog) W 24 24 ty 5 i Tryz.underlying24 hi g 0 T.length c (.slice a bs.length cap) bs.length (bs.map u8C) (by rw [hs'];exact hsrc) hrm (fun j hj=>(hst j hj).1) (fun j hj=>(hst j hj).2)
   rw [hs',Nat.mul_one,Nat.zero_add] at hrun
   refine ⟨⟨g,0,none⟩,c,_,by rw [List.length_append];exact hrun,⟨by simp,by rw [List.length_append];exact hrm,hcm,fun h=>(by cases h),fun _=>⟨g,0,rfl,Nat.lt_of_lt_of_le hlt (zee (B:=0) (Nat.zero_le _) _ _ _).size,fun j u hj=>?_⟩⟩,fun B hB _=>zee hB _ _ _,fun k _ hk=>zfO hk _ _ _⟩
   rw [Nat.zero_add]
   rw [List.map_append] at hj
   by_cases hjt:j<T.length
   · rw [List.getElem?_append_left (by rw [List.length_map]; exact hjt)] at hj
     rw [World.cell?_setCells_out g _ _ _ _ (fun _ _=>.inl hjt)]
     exact hcells j u hj
   · rw [List.getElem?_append_right (by rw [List.length_map]; omega), List.length_map] at hj
     obtain ⟨hj1,hj2⟩:=List.getElem?_eq_some_iff.1 hj
     have h:=World.cell?_setCells_in g (bs.map u8C) T.length W (fun j hj=>by rw [List.length_map] at hj;exact (hroom j (by omega)).1) (j-T.length) hj1
     rw [show T.length+(j-T.length)=j from by omega] at h
     rw [h,hj2]
 · have hold:(Builtin.firstCells i.size T.length (.slice (some ⟨g,0,none⟩) T.length c)).run Tryz.prog W.drew=.ok (T.map u8C).toArray W.drew:=by
     rw [hs']
     refine run_firstCells_some (P:=Tryz.prog) W.drew 1 T.length ⟨g,0,none⟩ T.length c (T.map u8C) (by simp) (fun j u hj=>?_)
     rw [Addr.add_lit,Nat.zero_add]
     exact hcells j u hj
   have hrun:=run_append_grow_src (P:=Tryz.prog) W 24 24 ty 5 i _ Tryz.underlying24 hi hz (some ⟨g,0,none⟩) T.length c (T.map u8C) hold (.slice a bs.length cap) bs.length (bs.map u8C) (by rw [hs'];exact hsrc) (by omega) (by omega) (growslice_fits (by omega) (by rw [hb];omega))
   have hge:=grownCap_ge W (T.length+bs.length) c 5
   have hle:=grownCap_le_maxLen W (T.length+bs.length) c 5 (by unfold maxLen;omega)
   rw [←List.length_append] at hrun hge hle
   refine ⟨_,_,_,hrun,⟨by simp,hge,hle,fun h=>(by cases h),fun _=>⟨W.heap.size,0,rfl,by rw [zas];exact Nat.lt_succ_self _,fun j u hj=>?_⟩⟩,fun B _ hB=>⟨rfl,rfl,rfl,by rw [zas];exact Nat.le_succ _,fun k hk=>Below.heap_alloc W.drew _ k (show k<W.drew.heap.size from Nat.lt_of_lt_of_le hk hB)⟩,fun k hk _=>Below.heap_alloc W.drew _ k hk⟩
   rw [Nat.zero_add,cell_of_row _ W.heap.size j _ 5 (0,0) (heap_alloc_new W.drew _)]
   have hj1:=(List.getElem?_eq_some_iff.1 hj).1
   rw [Array.getElem?_append_left (by rw [List.size_toArray,←List.map_append];exact hj1),List.getElem?_toArray,←List.map_append]
   exact hj
theorem hdr_row {W:World} {b:Nat} (h:W.heap[b]?=some (.cells #[.int .u8 37,.int .u8 80,.int .u8 68,.int .u8 70,.int .u8 45,.int .u8 49,.int .u8 46,.int .u8 55,.int .u8 10] 5 (9,10))):Row W 1 (some ⟨b,0,none⟩) hdrB.length 9 (hdrB.map u8C):=by
 refine ⟨by simp,by decide,by decide,fun h=>(by cases h),fun _=>⟨b,0,rfl,(Array.getElem?_eq_some_iff.1 h).1,fun j u hj=>?_⟩⟩
 rw [Nat.zero_add]
 simp only [World.cell?,h]
 rw [List.getElem?_toArray]
 exact hj
theorem hdr_room {W : World} {b : Nat} : zeI W b hdrB.length 9 := fun j hj => by
 have:hdrB.length=9:=rfl
 omega
theorem rlparse_back {n:Int} {l:LinD} (h1:1≤n) (h2:n≤4096) (hl:zb8 l=true) (behind:List UInt8) (hb:behind.length≤300) (last:Bool) (total:Int) {w:World} {a:Option Addr} {cap:Nat} {bs:List UInt8} (hbs:bs=hdrB++(linB n l++behind)) (hr:Row w 1 a bs.length cap (bs.map u8C)) :
   Calls Tryz.prog 14 #[.slice a bs.length cap,.bool last,.int .i64 total] w (LpEnd w (if l.len=total then (l,0) else ({},28))):=by
 have hlen:=zdQ (n:=n) hl
 have hd:=za3 9 n.toNat (by omega)
 have hh:hdrB.length=9:=rfl
 obtain ⟨q1,-⟩:=lin_fr (bs:=bs) h1 h2 hl gapH behind last (by rw [hbs,List.length_append,List.length_append,hlen];omega) (by rw [hbs];exact cur_lin n l behind)
 have h:=rlparse_any (last:=last) hr (by rw [hbs,List.length_append,List.length_append,hlen];omega) (fun h=>by rw [frE_no q1] at h;cases h) total
 have hv:linV bs last total=if l.len=total then (l,0) else ({},28):=by rw [hbs];exact lin_back h1 h2 hl gapH behind last total
 rw [hv] at h
 exact h
theorem law_lback {n : Int} {l : LinD} {w : World} {a : Option Addr} {cap : Nat} {bs : List UInt8} (_hn : -9223372036854775808 ≤ n ∧ n ≤ 9223372036854775807) (hl : LinBd l) (hr : Row w 1 a bs.length cap (bs.map u8C)) (_hal : ∀ x, a = some x → x.block < w.heap.size) : Calls Tryz.prog 5 #[.int .i64 n, linA l, .slice a bs.length cap] w fun e w' => e = .returned (.bool true) ∧ Below w.heap.size w w' := by
 have HB:=Lib.hid (zam w (.cells #[.int .i64 l.len,.int .i64 l.at_,.int .i64 l.n,.int .i64 l.obj,.int .i64 l.fin,.int .i64 l.pages,.int .i64 l.main] 23))
 have HK:=Lib.hid (zac (w:=w) (b:=w.heap.size) (.cells #[.int .i64 l.len,.int .i64 l.at_,.int .i64 l.n,.int .i64 l.obj,.int .i64 l.fin,.int .i64 l.pages,.int .i64 l.main] 23) rfl)
 have HR:=Lib.hid (hr.mono HB.out)
 have HW:=Lib.hid (fun W=>works29 W)
 have HRC:=Lib.hid (fun W=>zeZ l W)
 unfold zen at HRC
 have hlb:=hl.len
 unfold i64B at hlb
 clear hr _hal hl
 have hcs:(n<1)∨(¬n<1∧4096<n)∨(¬n<1∧¬4096<n∧zb8 l=false)∨(1≤n∧n≤4096∧zb8 l=true):=by
   cases hk:zb8 l<;>by_cases h1:n<1<;>by_cases h2:4096<n<;>simp_all<;>omega
 have HP1:=Lib.hid (fun (h:n<1∨4096<n) W=>lprint_n l h W)
 have HP2:=Lib.hid (fun (h1:1≤n) (h2:n≤4096) (h:zb8 l=false) W=>lprint_l h1 h2 h W)
 have HP3:=Lib.hid (fun (h1:1≤n) (h2:n≤4096) (h:zb8 l=true) W=>zeF h1 h2 h W)
 unfold BadEnd at HP1 HP2
 unfold OkRoom at HP3
 rcases hcs with h1|⟨h1,h2⟩|⟨h1,h2,h3⟩|⟨h1,h2,h3⟩
 · have d1:decide (n<1)=true:=decide_eq_true h1
   generalize chkL l=ck at *
   have HP:=Lib.hid (fun W=>HP1.out (.inl h1) W)
   clear HP1 HP2 HP3 HR
   unfold linA at HP HRC ⊢
   go_enter Tryz.func5,Tryz.ntmps5
   go_upto_region 1 with fail
   obtain ⟨r,hr⟩:∃r,r=w.heap.size:=⟨_,rfl⟩
   rw [←hr] at HK ⊢
   clear hr
   generalize w.alloc _=W1 at *
   obtain ⟨c0,c1,c2,c3,c4,c5,c6⟩:=zaE HK.out
   go_wp2_with fail
   refine (HP.out _).mono ?_
   rintro e w2 ⟨rfl,hb2⟩
   have HB2:=Lib.hid (HB.out.trans (hb2.mono HB.out.size))
   have HK2:=Lib.hid (zab hb2 HK.out)
   clear hb2 c0 c1 c2 c3 c4 c5 c6 HB HK HP
   obtain ⟨c0,c1,c2,c3,c4,c5,c6⟩:=zaE HK2.out
   go_wp2_with (go_at_call 12;refine (HW.out _).mono ?_;rintro e w4 ⟨rfl,hb4⟩;have HB4:=Lib.hid (HB2.out.trans (hb4.mono HB2.out.size));clear hb4)
   go_ret
   exact ⟨rfl,HB4.out⟩
 · have d1:decide (n<1)=false:=decide_eq_false h1
   have d2:decide (n > 4096)=true:=decide_eq_true h2
   generalize chkL l=ck at *
   have HP:=Lib.hid (fun W=>HP1.out (.inr h2) W)
   clear HP1 HP2 HP3 HR
   unfold linA at HP HRC ⊢
   go_enter Tryz.func5,Tryz.ntmps5
   go_upto_region 1 with fail
   obtain ⟨r,hr⟩:∃r,r=w.heap.size:=⟨_,rfl⟩
   rw [←hr] at HK ⊢
   clear hr
   generalize w.alloc _=W1 at *
   obtain ⟨c0,c1,c2,c3,c4,c5,c6⟩:=zaE HK.out
   go_wp2_with fail
   refine (HP.out _).mono ?_
   rintro e w2 ⟨rfl,hb2⟩
   have HB2:=Lib.hid (HB.out.trans (hb2.mono HB.out.size))
   have HK2:=Lib.hid (zab hb2 HK.out)
   clear hb2 c0 c1 c2 c3 c4 c5 c6 HB HK HP
   obtain ⟨c0,c1,c2,c3,c4,c5,c6⟩:=zaE HK2.out
   go_wp2_with (go_at_call 12;refine (HW.out _).mono ?_;rintro e w4 ⟨rfl,hb4⟩;have HB4:=Lib.hid (HB2.out.trans (hb4.mono HB2.out.size));clear hb4)
   go_ret
   exact ⟨rfl,HB4.out⟩
 · have d1:decide (n<1)=false:=decide_eq_false h1
   have d2:decide (n > 4096)=false:=decide_eq_false h2
   have hck:chkL l=28:=if_neg (by rw [h3];decide)
   rw [hck] at HRC
   clear hck
   have HP:=Lib.hid (fun W=>HP2.out (by omega) (by omega) h3 W)
   clear HP1 HP2 HP3 HR
   unfold linA at HP HRC ⊢
   go_enter Tryz.func5,Tryz.ntmps5
   go_upto_region 1 with fail
   obtain ⟨r,hr⟩:∃r,r=w.heap.size:=⟨_,rfl⟩
   rw [←hr] at HK ⊢
   clear hr
   generalize w.alloc _=W1 at *
   obtain ⟨c0,c1,c2,c3,c4,c5,c6⟩:=zaE HK.out
   go_wp2_with fail
   refine (HP.out _).mono ?_
   rintro e w2 ⟨rfl,hb2⟩
   have HB2:=Lib.hid (HB.out.trans (hb2.mono HB.out.size))
   have HK2:=Lib.hid (zab hb2 HK.out)
   clear hb2 c0 c1 c2 c3 c4 c5 c6 HB HK HP
   obtain ⟨c0,c1,c2,c3,c4,c5,c6⟩:=zaE HK2.out
   go_wp2_with fail
   refine (HRC.out _).mono ?_
   rintro e w3 ⟨rfl,hb3⟩
   have HB3:=Lib.hid (HB2.out.trans (hb3.mono HB2.out.size))
   clear hb3
   go_wp2_with (go_at_call 12;refine (HW.out _).mono ?_;rintro e w4 ⟨rfl,hb4⟩;have HB4:=Lib.hid (HB3.out.trans (hb4.mono HB3.out.size));clear hb4)
   go_ret
   exact ⟨rfl,HB4.out⟩
 have HP:=Lib.hid (fun W=>HP3.out h1 h2 h3 W)
 clear HP1 HP2 HP3 HRC
 have hlen:=zdQ (n:=n) h3
 have hd:=za3 9 n.toNat (by omega)
 have HLL:=Lib.hid (zbV.1 h3)
 have HB1:=Lib.hid (fun (h:bs.length≤300) (last:Bool) (total:Int) (W:World) (a:Option Addr) (cap:Nat) (hr:Row W 1 a (hdrB++(linB n l++bs)).length cap ((hdrB++(linB n l++bs)).map u8C))=>zeT h1 h2 h3 gapH (by decide) bs h last total rfl hr)
 have HB2:=Lib.hid (fun (h:bs.length≤300) (last:Bool) (total:Int) (W:World) (a:Option Addr) (cap:Nat) (hr:Row W 1 a (hdrB++(linB n l++bs)).length cap ((hdrB++(linB n l++bs)).map u8C))=>rlparse_back h1 h2 h3 bs h last total rfl hr)
 have HT1:=Lib.hid (show 1≤(linB n l).length∧(linB n l).length≤1000 from ⟨by omega,by omega⟩)
 clear hlen hd h1 h2 h3
 generalize hT:linB n l=T at *
 clear hT
 unfold linA at HP ⊢
 go_enter Tryz.func5,Tryz.ntmps5
 go_upto_region 1 with fail
 obtain ⟨r,hr⟩:∃r,r=w.heap.size:=⟨_,rfl⟩
 rw [←hr] at HK ⊢
 clear hr
 generalize w.alloc _=W1 at *
 obtain ⟨c0,c1,c2,c3,c4,c5,c6⟩:=zaE HK.out
 go_wp2_with fail
 refine (HP.out _).mono ?_
 rintro e w2 ⟨g,c,rfl,hr2,hm2,hg1,hg2,hb2⟩
 have HBB:=Lib.hid (HB.out.trans (hb2.mono HB.out.size))
 have HKK:=Lib.hid (zab hb2 HK.out)
 have HRR:=Lib.hid (HR.out.mono hb2)
 have HR2:=Lib.hid hr2
 have HM2:=Lib.hid hm2
 have HG:=Lib.hid (show w.heap.size≤g∧r<g∧g<w2.heap.size from ⟨Nat.le_trans HB.out.size hg1,Nat.lt_of_lt_of_le (zaj HK.out) hg1,hg2⟩)
 clear hb2 hr2 hm2 hg1 hg2 c0 c1 c2 c3 c4 c5 c6 HB HK HP HR
 go_upto_region 4 with fail
 rcases Nat.lt_or_ge 300 bs.length with hbn|hbn
 · have d1 : decide ((bs.length : Int) > 300) = true := decide_eq_true (by omega)
   clear HB1 HB2 HRR hbn
   generalize bs.length=bl at *
   go_wp2_with (go_at_call 12;refine (HW.out _).mono ?_;rintro e w' ⟨rfl,hb⟩)
   go_ret
   exact ⟨rfl,HBB.out.trans (hb.mono HBB.out.size)⟩
 have d1:decide ((bs.length:Int) > 300)=false:=decide_eq_false (by omega)
 have HBN:=Lib.hid hbn
 clear hbn
 have kc:=show (convert 24 24 (.slice (some ⟨w2.heap.size,0,none⟩) 9 9)).run Tryz.prog (w2.alloc (.cells #[.int .u8 37,.int .u8 80,.int .u8 68,.int .u8 70,.int .u8 45,.int .u8 49,.int .u8 46,.int .u8 55,.int .u8 10] 5))=.ok (.slice (some ⟨w2.heap.size,0,none⟩) 9 9) (w2.alloc (.cells #[.int .u8 37,.int .u8 80,.int .u8 68,.int .u8 70,.int .u8 45,.int .u8 49,.int .u8 46,.int .u8 55,.int .u8 10] 5 (9,10))) from Lib.run_convert_bytes_const w2 24 5 _ 9 9 Tryz.underlying24 Tryz.underlying5
 have hba:=zam w2 (.cells #[.int .u8 37,.int .u8 80,.int .u8 68,.int .u8 70,.int .u8 45,.int .u8 49,.int .u8 46,.int .u8 55,.int .u8 10] 5 (9,10))
 have hH2:=zac (w:=w2) (b:=w2.heap.size) (.cells #[.int .u8 37,.int .u8 80,.int .u8 68,.int .u8 70,.int .u8 45,.int .u8 49,.int .u8 46,.int .u8 55,.int .u8 10] 5 (9,10)) rfl
 have hsA:=zas w2 (.cells #[.int .u8 37,.int .u8 80,.int .u8 68,.int .u8 70,.int .u8 45,.int .u8 49,.int .u8 46,.int .u8 55,.int .u8 10] 5 (9,10))
 obtain ⟨WA,hWA⟩:∃WA,WA=w2.alloc (.cells #[.int .u8 37,.int .u8 80,.int .u8 68,.int .u8 70,.int .u8 45,.int .u8 49,.int .u8 46,.int .u8 55,.int .u8 10] 5 (9,10)):=⟨_,rfl⟩
 rw [←hWA] at hba hH2 hsA kc
 clear hWA
 have HBA:=Lib.hid (HBB.out.trans (hba.mono HBB.out.size))
 have HKA:=Lib.hid (zab hba HKK.out)
 have HRA:=Lib.hid (HRR.out.mono hba)
 have HR2A:=Lib.hid (HR2.out.mono hba)
 have HMA:=Lib.hid (HM2.out.keep (hba.block g HG.out.2.2))
 have HHA:=Lib.hid hH2
 obtain ⟨a3,c3,w3,hrun3,hr3,hbl3,hk3⟩:=run_app29 HR2A.out (by have:=HT1.out;omega) HMA.out HRA.out (by have:=HT1.out;have:=HBN.out;omega) 24
 have hs3:=(hbl3 0 (Nat.zero_le _) (Nat.zero_le _)).size
 rw [hsA] at hs3
 have hH3:w3.heap[w2.heap.size]?=some (.cells #[.int .u8 37,.int .u8 80,.int .u8 68,.int .u8 70,.int .u8 45,.int .u8 49,.int .u8 46,.int .u8 55,.int .u8 10] 5 (9,10)):=(hk3 _ (by rw [hsA];omega) (by have:=HG.out;omega)).trans HHA.out
 obtain ⟨a4,c4,w4,hrun4,hr4,hbl4,hk4⟩:=run_app29 (T:=hdrB) (bs:=T++bs) (hdr_row hH3) (by decide) hdr_room hr3 (by have:=HT1.out;have:=HBN.out;have:hdrB.length=9:=rfl;rw [List.length_append];omega) 24
 have HB4:=Lib.hid ((HBA.out.trans (hbl3 _ HG.out.1 HBA.out.size)).trans (hbl4 w.heap.size (by have:=HG.out;omega) (by have:=HG.out;omega)))
 have HK4:=Lib.hid ((hk4 r (by have:=HG.out;omega) (by have:=HG.out;omega)).trans ((hk3 r (by have:=HG.out;rw [hsA];omega) (by have:=HG.out;omega)).trans HKA.out))
 have HR4:=Lib.hid hr4
 have HA := Lib.hid (fun (W : World) (hb : Below w4.heap.size w4 W) => show Calls Tryz.prog 13 #[.slice (some a4) (hdrB ++ (T ++ bs)).length c4, .bool false, .int .i64 l.len] W (fun e w' => e = .returned (.tuple #[.agg #[.int .i64 l.len, .int .i64 l.at_, .int .i64 l.n, .int .i64 l.obj, .int .i64 l.fin, .int .i64 l.pages, .int .i64 l.main], .int .i64 0]) ∧ Below W.heap.size W w') from by
   have h:=HB1.out HBN.out false l.len W (some a4) c4 (HR4.out.mono hb)
   rw [if_pos rfl] at h
   exact h)
 have HBp := Lib.hid (fun (W : World) (hb : Below w4.heap.size w4 W) => show Calls Tryz.prog 14 #[.slice (some a4) (hdrB ++ (T ++ bs)).length c4, .bool true, .int .i64 l.len] W (fun e w' => e = .returned (.tuple #[.agg #[.int .i64 l.len, .int .i64 l.at_, .int .i64 l.n, .int .i64 l.obj, .int .i64 l.fin, .int .i64 l.pages, .int .i64 l.main], .int .i64 0]) ∧ Below W.heap.size W w') from by
   have h:=HB2.out HBN.out true l.len W (some a4) c4 (HR4.out.mono hb)
   rw [if_pos rfl] at h
   exact h)
 have HC := Lib.hid (fun (W : World) (hb : Below w4.heap.size w4 W) => show Calls Tryz.prog 13 #[.slice (some a4) (hdrB ++ (T ++ bs)).length c4, .bool false, .int .i64 (l.len - 1)] W (fun e w' => e = .returned (.tuple #[.agg #[.int .i64 0, .int .i64 0, .int .i64 0, .int .i64 0, .int .i64 0, .int .i64 0, .int .i64 0], .int .i64 28]) ∧ Below W.heap.size W w') from by
   have h:=HB1.out HBN.out false (l.len-1) W (some a4) c4 (HR4.out.mono hb)
   rw [if_neg (by omega)] at h
   exact h)
 have hw1:IntKind.i64.wrap (l.len-1)=l.len-1:=IntWalk.i64_in _ (by have:=HLL.out;omega)
 clear hba hH2 HBB HKK HRR HR2 HM2 HBA HKA HRA HR2A HMA HHA hsA hs3 hH3 hr3 hr4 hbl3 hbl4 hk3 hk4 HG HB1 HB2 HT1 HBN HLL HR4 hlb
 obtain ⟨LA,hLA⟩:∃LA,LA=(hdrB++(T++bs)).length:=⟨_,rfl⟩
 rw [←hLA] at HA HBp HC hrun4
 rw [show hdrB.length=9 from rfl] at hrun4
 obtain ⟨LM,hLM⟩:∃LM,LM=l.len-1:=⟨_,rfl⟩
 rw [←hLM] at HC
 replace hw1:IntKind.i64.wrap (l.len-1)=LM:=hw1.trans hLM.symm
 clear hLM hLA
 obtain ⟨c0,c1,c2,c3',c4',c5,c6⟩:=zaE HK4.out
 go_upto_region 6 with fail
 go_wp2_with (first
   | (at_builtin;refine Lib.wpList_append_run WA rfl (.tmp 49) (.tmp 50) _ _ rfl _ _ rfl rfl _ _ hrun3 ?_)
   | (at_builtin;refine Lib.wpList_append_run w3 rfl (.tmp 48) (.tmp 51) _ _ rfl _ _ rfl rfl _ _ hrun4 ?_))
 clear hrun3 hrun4 kc
 refine (HA.out _ (Below.refl _ _)).mono ?_
 rintro e w5 ⟨rfl,hb5⟩
 have hb6:=hb5.alloc hb5.size (.cells #[.int .i64 l.len,.int .i64 l.at_,.int .i64 l.n,.int .i64 l.obj,.int .i64 l.fin,.int .i64 l.pages,.int .i64 l.main] 23)
 have HB6:=Lib.hid (HB4.out.trans (hb6.mono HB4.out.size))
 have HK6:=Lib.hid (zab hb6 HK4.out)
 have HX6:=Lib.hid (zac (w:=w5) (b:=w5.heap.size) (.cells #[.int .i64 l.len,.int .i64 l.at_,.int .i64 l.n,.int .i64 l.obj,.int .i64 l.fin,.int .i64 l.pages,.int .i64 l.main] 23) rfl)
 have HS6:=Lib.hid hb6
 clear hb5 hb6 HB4 HK4 HA c0 c1 c2 c3' c4' c5 c6
 go_upto_region 8 with fail
 obtain ⟨x,hx⟩:∃x,x=w5.heap.size:=⟨_,rfl⟩
 rw [←hx] at HX6 ⊢
 clear hx
 generalize w5.alloc _=W6 at *
 obtain ⟨c0,c1,c2,c3',c4',c5,c6⟩:=zaE HK6.out
 go_wp2_with fail
 refine (HBp.out _ HS6.out).mono ?_
 rintro e w7 ⟨rfl,hb7⟩
 have hb8:=hb7.alloc hb7.size (.cells #[.int .i64 l.len,.int .i64 l.at_,.int .i64 l.n,.int .i64 l.obj,.int .i64 l.fin,.int .i64 l.pages,.int .i64 l.main] 23)
 have HB8:=Lib.hid (HB6.out.trans (hb8.mono HB6.out.size))
 have HK8:=Lib.hid (zab hb8 HK6.out)
 have HX8:=Lib.hid (zab hb8 HX6.out)
 have HY8:=Lib.hid (zac (w:=w7) (b:=w7.heap.size) (.cells #[.int .i64 l.len,.int .i64 l.at_,.int .i64 l.n,.int .i64 l.obj,.int .i64 l.fin,.int .i64 l.pages,.int .i64 l.main] 23) rfl)
 have HS8:=Lib.hid (HS6.out.trans (hb8.mono HS6.out.size))
 clear hb7 hb8 HB6 HK6 HX6 HS6 HBp c0 c1 c2 c3' c4' c5 c6
 go_upto_region 9 with fail
 obtain ⟨y,hy⟩:∃y,y=w7.heap.size:=⟨_,rfl⟩
 rw [←hy] at HY8 ⊢
 clear hy
 generalize w7.alloc _=W8 at *
 obtain ⟨c0,c1,c2,c3',c4',c5,c6⟩:=zaE HK8.out
 go_wp2_with fail
 refine (HC.out _ HS8.out).mono ?_
 rintro e w9 ⟨rfl,hb9⟩
 have hb10:=hb9.alloc hb9.size (.cells #[.int .i64 0,.int .i64 0,.int .i64 0,.int .i64 0,.int .i64 0,.int .i64 0,.int .i64 0] 23)
 have HB10:=Lib.hid (HB8.out.trans (hb10.mono HB8.out.size))
 have HK10:=Lib.hid (zab hb10 HK8.out)
 have HX10:=Lib.hid (zab hb10 HX8.out)
 have HY10:=Lib.hid (zab hb10 HY8.out)
 clear hb9 hb10 HB8 HK8 HX8 HY8 HS8 HC c0 c1 c2 c3' c4' c5 c6
 go_upto_region 10 with fail
 generalize w9.alloc _=W10 at *
 obtain ⟨c0,c1,c2,c3',c4',c5,c6⟩:=zaE HK10.out
 obtain ⟨x0,x1,x2,x3,x4,x5,x6⟩:=zaE HX10.out
 obtain ⟨y0,y1,y2,y3,y4,y5,y6⟩:=zaE HY10.out
 go_wp2_with (go_at_call 12;refine (HW.out _).mono ?_;rintro e w11 ⟨rfl,hb11⟩)
 go_ret
 exact ⟨rfl,HB10.out.trans (hb11.mono HB10.out.size)⟩
end Go.Proofs.YtkhcjoomijkfbaaGreatDoor
namespace Go.Proofs.YtkhcjoomijkfbaaGreatDoor
open Go.ChangeShapes Go.WideShapes Go.Joins Go.RowKit Go.Deep
section
variable {H : Type} {enc : TypeId × Value → H} {w : World} {base : Nat} {spare : Nat → Bool} {held : Bool}
set_option maxRecDepth 100000 in
theorem lin_cells (m:Nat) (cs:List Value) (x:DataW H×List MemPlace) (h:DataW.trod enc Tryz.prog w base spare held m 23 cs=some x):∃l:LinD,cs=linC l∧LinBd l:=by
 have hC:Tryz.prog.cellsOf 23=7:=by kernel_rfl
 obtain ⟨xs,n,rfl,-,hlen,hxl,hf⟩:=DataW.trod_struct Tryz.underlying23 h
 rw [hC] at hlen
 match xs,hxl,cs,hlen with
 | [y0,y1,y2,y3,y4,y5,y6],_,[c0,c1,c2,c3,c4,c5,c6],_ =>
 have k3:Tryz.prog.cellsOf 3=1:=by kernel_rfl
 have g0:DataW.trod enc Tryz.prog w base spare held n 3 ((([c0,c1,c2,c3,c4,c5,c6]:List Value).drop 0).take (Tryz.prog.cellsOf 3))=some y0:=hf 0 _ rfl
 have g1:DataW.trod enc Tryz.prog w base spare held n 3 ((([c0,c1,c2,c3,c4,c5,c6]:List Value).drop 1).take (Tryz.prog.cellsOf 3))=some y1:=hf 1 _ rfl
 have g2:DataW.trod enc Tryz.prog w base spare held n 3 ((([c0,c1,c2,c3,c4,c5,c6]:List Value).drop 2).take (Tryz.prog.cellsOf 3))=some y2:=hf 2 _ rfl
 have g3:DataW.trod enc Tryz.prog w base spare held n 3 ((([c0,c1,c2,c3,c4,c5,c6]:List Value).drop 3).take (Tryz.prog.cellsOf 3))=some y3:=hf 3 _ rfl
 have g4:DataW.trod enc Tryz.prog w base spare held n 3 ((([c0,c1,c2,c3,c4,c5,c6]:List Value).drop 4).take (Tryz.prog.cellsOf 3))=some y4:=hf 4 _ rfl
 have g5:DataW.trod enc Tryz.prog w base spare held n 3 ((([c0,c1,c2,c3,c4,c5,c6]:List Value).drop 5).take (Tryz.prog.cellsOf 3))=some y5:=hf 5 _ rfl
 have g6:DataW.trod enc Tryz.prog w base spare held n 3 ((([c0,c1,c2,c3,c4,c5,c6]:List Value).drop 6).take (Tryz.prog.cellsOf 3))=some y6:=hf 6 _ rfl
 rw [k3] at g0 g1 g2 g3 g4 g5 g6
 obtain ⟨z0,e0,_,b0⟩:=DataW.trod_int Tryz.underlying3 g0
 obtain ⟨z1,e1,_,b1⟩:=DataW.trod_int Tryz.underlying3 g1
 obtain ⟨z2,e2,_,b2⟩:=DataW.trod_int Tryz.underlying3 g2
 obtain ⟨z3,e3,_,b3⟩:=DataW.trod_int Tryz.underlying3 g3
 obtain ⟨z4,e4,_,b4⟩:=DataW.trod_int Tryz.underlying3 g4
 obtain ⟨z5,e5,_,b5⟩:=DataW.trod_int Tryz.underlying3 g5
 obtain ⟨z6,e6,_,b6⟩:=DataW.trod_int Tryz.underlying3 g6
 simp at e0 e1 e2 e3 e4 e5 e6
 subst e0 e1 e2 e3 e4 e5 e6
 exact ⟨⟨z0,z1,z2,z3,z4,z5,z6⟩,rfl,⟨zbT b0,zbT b1,zbT b2,zbT b3,zbT b4,zbT b5,zbT b6⟩⟩
set_option maxRecDepth 100000 in
theorem lin_tree {r:Reach} {b0:Nat} {v:Value} {d:DataW H} {p:List MemPlace} (hv:Value.okWide Tryz.prog w r b0 23 v) (h:DataW.Trod enc Tryz.prog w base spare held 23 v d p) :
   ∃l:LinD,v=linA l∧LinBd l:=by
 obtain ⟨cs,rfl,hsz⟩:=okWide_struct Tryz.underlying23 hv
 obtain ⟨fuel,hf⟩:=h
 obtain ⟨l,e,hb⟩:=lin_cells fuel _ _ hf
 have e2:cs=(linC l).toArray:=by rw [←e];simp [Value.cells]
 exact ⟨l,by rw [e2];rfl,hb⟩
end
end Go.Proofs.YtkhcjoomijkfbaaGreatDoor
namespace Go.Proofs.YtkhcjoomijkfbaaGreatDoor
open Go.RowKit Go.ChangeShapes Go.WideShapes
theorem bytes_z {H : Type} {enc : TypeId × Value → H} {w : World} {a : Option Addr} {n cap : Nat} {d : DataW H} {p : List MemPlace} (h : DataW.Trod enc Tryz.prog w 0 (fun _ => true) true 24 (.slice a n cap) d p) :
   ∃bs:List UInt8,bs.length=n∧Row w 1 a bs.length cap (bs.map fun x=>.int .u8 x.toNat):=by
 obtain ⟨fuel,hf⟩:=h
 rcases open_ints Tryz.underlying24 Tryz.underlying5 (by kernel_rfl) hf with ⟨hcs,_⟩|⟨x,l,c,zs,hcs,_,hl,hm,hz,_,hcell,hwz⟩
 · simp [Value.cells] at hcs
   obtain ⟨rfl,rfl,rfl⟩:=hcs
   exact ⟨[],rfl,Row.nil w 1⟩
 · simp [Value.cells] at hcs
   obtain ⟨rfl,rfl,rfl⟩:=hcs
   exact row_bytes (w:=w) (a:=some x) (len:=n) (cap:=cap) (zs:=zs) (.inr ⟨x,rfl,hl,hm,by simpa using hz,hcell,hwz⟩)
theorem al_z {P : Program} {w : World} {base : Nat} {t e : TypeId} {a : Option Addr} {n cap : Nat} (ht : P.underlying t = some (.slice e)) (h : Value.okWide P w .any base t (.slice a n cap)) : ∀ x, a = some x → x.block < w.heap.size := fun x hx => by
 subst hx
 simp only [Value.okWide,ht,Cell.okWide,Cell.ok,World.has] at h
 obtain ⟨-,-,-,-,row,cells,hs,-⟩:=h
 unfold World.shape? at hs
 rcases Nat.lt_or_ge x.block w.heap.size with h1|h1
 · exact h1
 · rw [Array.getElem?_eq_none h1] at hs;simp at hs
end Go.Proofs.YtkhcjoomijkfbaaGreatDoor
