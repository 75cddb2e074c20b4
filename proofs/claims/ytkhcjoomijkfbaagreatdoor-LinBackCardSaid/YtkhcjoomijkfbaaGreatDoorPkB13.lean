/-
  Our texts Lm5 to Rp2, in one.
-/
import Derived.Test.YtkhcjoomijkfbaaGreatDoorPkB12
set_option maxRecDepth 8000
set_option maxHeartbeats 8000000
namespace Go.Proofs.YtkhcjoomijkfbaaGreatDoor
open Go.RowKit
def zcN (w:World) (R:LinD×Bool) (e:Ending) (w':World):Prop:=e=.returned (.tuple #[linA R.1,.bool R.2])∧Below w.heap.size w w'
def xsA (v:PV) (k:Nat):Array Value:=#[.int .i64 (if 0<k then intN v kL else 0),.int .i64 (if 1<k then intN v kO else 0),.int .i64 (if 2<k then intN v kE else 0),.int .i64 (if 3<k then intN v kN else 0),.int .i64 (if 4<k then intN v kT else 0)]
def keyL:Nat→List UInt8|0=>kL|1=>kO|2=>kE|3=>kN|_=>kT
structure OfM (w W:World) (F:Nat→Prop) (v:PV) (sl:Value) (st:Bool) (d:ByteArray) (r q x:Nat) (k:Nat):Prop where
 bel:Below w.heap.size w W
 val:IsV W F v sl
 obj:W.heap[r]?=some (.cells (obC v sl st d) 56 (0,0))
 res:W.heap[q]?=some (.cells #[.int .i64 0,.int .i64 0,.int .i64 0,.int .i64 0,.int .i64 0,.int .i64 0,.int .i64 0] 23 (0,0))
 row:W.heap[x]?=some (.cells (xsA v k) 53 (0,0))
 nr:w.heap.size≤q
 nx:w.heap.size≤x
 rx:r≠x
 qx:q≠x
 okF:∀b,F b→b<w.heap.size
theorem OfM.next {w W W':World} {F:Nat→Prop} {v:PV} {sl:Value} {st:Bool} {d:ByteArray} {r q x k:Nat} (h:OfM w W F v sl st d r q x k) (hb:Below W.heap.size W W'):OfM w W' F v sl st d r q x k :=
 { h with bel:=h.bel.trans (hb.mono h.bel.size),val:=h.val.below hb,obj:=zab hb h.obj,res:=zab hb h.res,row:=zab hb h.row }
theorem OfM.put {w W:World} {F:Nat→Prop} {v:PV} {sl:Value} {st:Bool} {d:ByteArray} {r q x k:Nat} (h:OfM w W F v sl st d r q x k) (hk:k<5):OfM w (W.setCell ⟨x,k,none⟩ (.int .i64 (intN v (keyL k)))) F v sl st d r q x (k+1) :=
 { h with
   bel:=h.bel.setCell h.nx _
   val:=IsV.keep (F:=F) ⟨by simp,fun b hb hF=>heap_setCell_other _ _ _ _ (by have:=h.okF b hF;have:=h.nx;show b≠x;omega)⟩ (fun _ h=>h) v h.val
   obj:=(heap_setCell_other _ _ _ _ h.rx).trans h.obj
   res:=(heap_setCell_other _ _ _ _ h.qx).trans h.res
   row:=by
     rw [heap_setCell_same W x k _ _ _ h.row]
     match k,hk with
     | 0,_=>rfl
     | 1,_=>rfl
     | 2,_=>rfl
     | 3,_=>rfl
     | 4,_=>rfl }
theorem OfM.cellX {w W:World} {F:Nat→Prop} {v:PV} {sl:Value} {st:Bool} {d:ByteArray} {r q x k:Nat} (h:OfM w W F v sl st d r q x k):W.cell? ⟨x,0,none⟩=some (.int .i64 (if 0<k then intN v kL else 0))∧W.cell? ⟨x,1,none⟩=some (.int .i64 (if 1<k then intN v kO else 0))∧W.cell? ⟨x,2,none⟩=some (.int .i64 (if 2<k then intN v kE else 0)) ∧
   W.cell? ⟨x,3,none⟩=some (.int .i64 (if 3<k then intN v kN else 0))∧W.cell? ⟨x,4,none⟩=some (.int .i64 (if 4<k then intN v kT else 0))∧(∀j,W.frozen? ⟨x,j,none⟩=false):=by
 refine ⟨?_,?_,?_,?_,?_,fun j=>frozen_of_row _ _ _ _ _ h.row⟩<;>(rw [cell_of_row W x _ _ _ _ h.row];rfl)
theorem zbg {w:World} {b:Nat} {x0 x1 x2 x3 x4 x5 x6:Value} {t:TypeId} (h:w.heap[b]?=some (.cells #[x0,x1,x2,x3,x4,x5,x6] t (0,0))) :
   w.frozen? ⟨b,0,none⟩=false∧w.frozen? ⟨b,1,none⟩=false∧w.frozen? ⟨b,2,none⟩=false∧w.frozen? ⟨b,3,none⟩=false∧w.frozen? ⟨b,4,none⟩=false∧w.frozen? ⟨b,5,none⟩=false∧w.frozen? ⟨b,6,none⟩=false:=by
 refine ⟨?_,?_,?_,?_,?_,?_,?_⟩<;>exact frozen_of_row _ _ _ _ _ h
theorem set7 {w:World} {b:Nat} {x0 x1 x2 x3 x4 x5 x6:Value} {t:TypeId} (h:w.heap[b]?=some (.cells #[x0,x1,x2,x3,x4,x5,x6] t (0,0))) (y0 y1 y2 y3 y4 y5 y6:Value) :
   (((((((w.setCell ⟨b,0,none⟩ y0).setCell ⟨b,1,none⟩ y1).setCell ⟨b,2,none⟩ y2).setCell ⟨b,3,none⟩ y3).setCell ⟨b,4,none⟩ y4).setCell ⟨b,5,none⟩ y5).setCell ⟨b,6,none⟩ y6).heap[b]?=some (.cells #[y0,y1,y2,y3,y4,y5,y6] t (0,0)):=by
 rw [heap_setCell_same _ _ 6 _ _ _ (heap_setCell_same _ _ 5 _ _ _ (heap_setCell_same _ _ 4 _ _ _ (heap_setCell_same _ _ 3 _ _ _ (heap_setCell_same _ _ 2 _ _ _ (heap_setCell_same _ _ 1 _ _ _ (heap_setCell_same w _ 0 _ _ _ h))))))];rfl
theorem zaY {B:Nat} {w0 w:World} (h:Below B w0 w) {b:Nat} (hb:B≤b) (y0 y1 y2 y3 y4 y5 y6:Value) :
   Below B w0 (((((((w.setCell ⟨b,0,none⟩ y0).setCell ⟨b,1,none⟩ y1).setCell ⟨b,2,none⟩ y2).setCell ⟨b,3,none⟩ y3).setCell ⟨b,4,none⟩ y4).setCell ⟨b,5,none⟩ y5).setCell ⟨b,6,none⟩ y6) :=
 (((((((h.setCell hb _).setCell hb _).setCell hb _).setCell hb _).setCell hb _).setCell hb _).setCell hb _)
theorem zfK (v:PV) (k:List UInt8):((getP (getV v k)).1.kind==2)=intK v k:=by
 unfold intK
 by_cases h:(getP (getV v k)).1.kind=2
 · rw [h];rfl
 · rw [decide_eq_false h,beq_eq_false_iff_ne];exact h
theorem zcM {v:PV} (h:(getP (getV v kLin)).2=false∨(zcG v).2.2=false∨intK v kL=false∨intK v kO=false∨intK v kE=false∨intK v kN=false∨intK v kT=false):ofV v=({},false):=by
 unfold ofV
 rw [if_neg]
 rintro ⟨h1,h2,h3,h4,h5,h6,h7⟩
 rcases h with h|h|h|h|h|h|h
 · rw [h1] at h;cases h
 · rw [h2] at h;cases h
 · rw [h3] at h;cases h
 · rw [h4] at h;cases h
 · rw [h5] at h;cases h
 · rw [h6] at h;cases h
 · rw [h7] at h;cases h
theorem zcN.bad {w W:World} (hb:Below w.heap.size w W):zcN w ({},false) (.returned (.tuple #[.agg #[.int .i64 0,.int .i64 0,.int .i64 0,.int .i64 0,.int .i64 0,.int .i64 0,.int .i64 0],.bool false])) W:=⟨rfl,hb⟩
theorem ix29_0 (W:World):(Instr.index 50 (.agg #[.string ⟨#[76]⟩,.string ⟨#[79]⟩,.string ⟨#[69]⟩,.string ⟨#[78]⟩,.string ⟨#[84]⟩]) (.int .i64 0)).run Tryz.prog W=.ok (.string ⟨#[76]⟩) W:=by
 simp [Instr.index,run_underlying Tryz.underlying50,Result.andThen,asIntOf,part,isAgg,run_underlying Tryz.underlying9]
theorem ix29_1 (W:World):(Instr.index 50 (.agg #[.string ⟨#[76]⟩,.string ⟨#[79]⟩,.string ⟨#[69]⟩,.string ⟨#[78]⟩,.string ⟨#[84]⟩]) (.int .i64 1)).run Tryz.prog W=.ok (.string ⟨#[79]⟩) W:=by
 simp [Instr.index,run_underlying Tryz.underlying50,Result.andThen,asIntOf,part,isAgg,run_underlying Tryz.underlying9]
theorem ix29_2 (W:World):(Instr.index 50 (.agg #[.string ⟨#[76]⟩,.string ⟨#[79]⟩,.string ⟨#[69]⟩,.string ⟨#[78]⟩,.string ⟨#[84]⟩]) (.int .i64 2)).run Tryz.prog W=.ok (.string ⟨#[69]⟩) W:=by
 simp [Instr.index,run_underlying Tryz.underlying50,Result.andThen,asIntOf,part,isAgg,run_underlying Tryz.underlying9]
theorem ix29_3 (W:World):(Instr.index 50 (.agg #[.string ⟨#[76]⟩,.string ⟨#[79]⟩,.string ⟨#[69]⟩,.string ⟨#[78]⟩,.string ⟨#[84]⟩]) (.int .i64 3)).run Tryz.prog W=.ok (.string ⟨#[78]⟩) W:=by
 simp [Instr.index,run_underlying Tryz.underlying50,Result.andThen,asIntOf,part,isAgg,run_underlying Tryz.underlying9]
theorem ix29_4 (W:World):(Instr.index 50 (.agg #[.string ⟨#[76]⟩,.string ⟨#[79]⟩,.string ⟨#[69]⟩,.string ⟨#[78]⟩,.string ⟨#[84]⟩]) (.int .i64 4)).run Tryz.prog W=.ok (.string ⟨#[84]⟩) W:=by
 simp [Instr.index,run_underlying Tryz.underlying50,Result.andThen,asIntOf,part,isAgg,run_underlying Tryz.underlying9]
def zfL (v:PV) (k:Nat):Prop:=∀j,j<k→intK v (keyL j)=true
theorem of_any {w:World} {F:Nat→Prop} {v:PV} {sl:Value} {st:Bool} {d:ByteArray} (h:IsV w F v sl) (hev:v.kind=7→v.l.length % 2=0) :
   Calls Tryz.prog 22 #[.agg (obC v sl st d)] w (zcN w (if st=true then ({},false) else ofV v)):=by
 obtain ⟨a,c,rfl,-,-,-⟩:=h.len
 have hu:=IsV.under _ h
 have HH:=Lib.hid (fun W (hb:Below w.heap.size w W)=>hint_any (hu.below hb) hev)
 have HG:=Lib.hid (fun W (hx:IsV W (fun b=>F b∧b<w.heap.size) v (.slice a v.l.length c)) key=>vget_any hx hev key)
 have hb2:=(zam w (.cells (obC v (.slice a v.l.length c) st d) 56)).alloc (by rw [zas];omega) (.cells #[.int .i64 0,.int .i64 0,.int .i64 0,.int .i64 0,.int .i64 0,.int .i64 0,.int .i64 0] 23)
 have HB:=Lib.hid hb2
 have HX:=Lib.hid (hu.below hb2)
 have HO:=Lib.hid (show ((w.alloc (.cells (obC v (.slice a v.l.length c) st d) 56)).alloc (.cells #[.int .i64 0,.int .i64 0,.int .i64 0,.int .i64 0,.int .i64 0,.int .i64 0,.int .i64 0] 23)).heap[w.heap.size]?=some (.cells (obC v (.slice a v.l.length c) st d) 56 (0,0)) from zao _ (zac _ rfl))
 have HQ:=Lib.hid (show ((w.alloc (.cells (obC v (.slice a v.l.length c) st d) 56)).alloc (.cells #[.int .i64 0,.int .i64 0,.int .i64 0,.int .i64 0,.int .i64 0,.int .i64 0,.int .i64 0] 23)).heap[w.heap.size+1]?=some (.cells #[.int .i64 0,.int .i64 0,.int .i64 0,.int .i64 0,.int .i64 0,.int .i64 0,.int .i64 0] 23 (0,0)) from zac _ (by rw [zas]))
 obtain ⟨R,hR⟩:∃R,R=(if st=true then (({},false):LinD×Bool) else ofV v):=⟨_,rfl⟩
 rw [←hR]
 have HR:=Lib.hid hR
 clear hR h hu hb2 hev
 unfold HintEnd at HH
 unfold zfE at HG
 unfold pvA at HH HG
 unfold obC at HB HX HO HQ ⊢
 go_enter Tryz.func22,Tryz.ntmps22
 go_upto_region 1 with fail
 obtain ⟨q,hq⟩:∃q,q=w.heap.size+1:=⟨_,rfl⟩
 obtain ⟨r,hr⟩:∃r,r=w.heap.size:=⟨_,rfl⟩
 rw [←hq] at HQ ⊢
 rw [←hr] at HO ⊢
 have HRQ:=Lib.hid (show w.heap.size=r∧q=r+1 from ⟨hr.symm,by omega⟩)
 clear hq hr
 generalize World.alloc _ _=W2 at *
 obtain ⟨⟨t0,t1,t2,t3,t4,t5⟩,-⟩:=zaJ HO.out
 go_wp2_with fail
 refine (HH.out _ HB.out).mono ?_
 rintro e w3 ⟨rfl,hb3⟩
 have HB3:=Lib.hid (HB.out.trans (hb3.mono HB.out.size))
 have HX3:=Lib.hid (HX.out.below hb3)
 have HO3:=Lib.hid (zab hb3 HO.out)
 have HQ3:=Lib.hid (zab hb3 HQ.out)
 clear hb3 HB HX HO HQ HH t0 t1 t2 t3 t4 t5
 obtain ⟨⟨t0,t1,t2,t3,t4,t5⟩,-⟩:=zaJ HO3.out
 go_wp2_with fail
 refine (HG.out _ HX3.out kLin).mono ?_
 rintro e w4 ⟨sl2,rfl,hx4,hb4⟩
 generalize hG:getP (getV v kLin)=G at *
 have HGG:=Lib.hid hG
 clear hG
 obtain ⟨ta,tc,rfl,-,-,-⟩:=hx4.len
 have hb5:=hb4.alloc hb4.size (.cells #[.int .i64 G.1.kind,.int .i64 G.1.n,.string (mkB G.1.s),.slice ta G.1.l.length tc] 48)
 have HB5:=Lib.hid (HB3.out.trans (hb5.mono HB3.out.size))
 have HX5:=Lib.hid (HX3.out.below hb5)
 have HO5:=Lib.hid (zab hb5 HO3.out)
 have HQ5:=Lib.hid (zab hb5 HQ3.out)
 clear hb4 hb5 hx4 HB3 HX3 HO3 HQ3 t0 t1 t2 t3 t4 t5
 go_upto_region 3 with fail
 generalize w4.heap.size=o at *
 generalize w4.alloc _=W5 at *
 obtain ⟨⟨t0,t1,t2,t3,t4,t5⟩,-⟩:=zaJ HO5.out
 obtain ⟨g0,g1,g2,g3,g4,g5,g6⟩:=zbg HQ5.out
 obtain ⟨z0,z1,z2,z3,z4,z5,z6⟩:=zaE HQ5.out
 have hcs:st=true∨(st=false∧G.2=false)∨(st=false∧G.2=true∧(zcG v).2.2=false)∨(st=false∧G.2=true∧(zcG v).2.2=true):=by
   cases st<;>cases G.2<;>cases (zcG v).2.2<;>simp
 have HZ:=Lib.hid (fun y0 y1 y2 y3 y4 y5 y6=>And.intro (set7 HQ5.out y0 y1 y2 y3 y4 y5 y6) (zaY HB5.out (show w.heap.size≤q by have:=HRQ.out;omega) y0 y1 y2 y3 y4 y5 y6))
 rcases hcs with rfl|⟨rfl,k1⟩|⟨rfl,k1,k2⟩|⟨rfl,k1,k2⟩
 · obtain rfl:R=({},false):=HR.out
   clear HG HGG HO5 HX5 HQ5 HB5 HRQ
   generalize (zcG v).2.2=hb at *
   go_wp2_with fail
   refine bodyPost_ret (zaa rfl _ _ q 23 _ (0,0) _ rfl (by exact (HZ.out _ _ _ _ _ _ _).1) Tryz.underlying23 rfl (by kernel_rfl) _ rfl) rfl ?_
   exact zcN.bad (HZ.out _ _ _ _ _ _ _).2
 · obtain rfl : R = ({}, false) := by rw [HR.out, if_neg (by simp)]; exact zcM (.inl (by rw [HGG.out]; exact k1))
   clear HG HGG HO5 HX5 HQ5 HB5 HRQ
   generalize (zcG v).2.2=hb at *
   generalize G.2=gb at *
   go_wp2_with fail
   refine bodyPost_ret (zaa rfl _ _ q 23 _ (0,0) _ rfl (by exact (HZ.out _ _ _ _ _ _ _).1) Tryz.underlying23 rfl (by kernel_rfl) _ rfl) rfl ?_
   exact zcN.bad (HZ.out _ _ _ _ _ _ _).2
 · obtain rfl : R = ({}, false) := by rw [HR.out, if_neg (by simp)]; exact zcM (.inr (.inl k2))
   clear HG HGG HO5 HX5 HQ5 HB5 HRQ
   generalize (zcG v).2.2=hb at *
   generalize G.2=gb at *
   go_wp2_with fail
   refine bodyPost_ret (zaa rfl _ _ q 23 _ (0,0) _ rfl (by exact (HZ.out _ _ _ _ _ _ _).1) Tryz.underlying23 rfl (by kernel_rfl) _ rfl) rfl ?_
   exact zcN.bad (HZ.out _ _ _ _ _ _ _).2
 clear HZ g0 g1 g2 g3 g4 g5 g6 z0 z1 z2 z3 z4 z5 z6
 have HRR:=Lib.hid (show R=ofV v by rw [HR.out,if_neg (by simp)])
 have HK1:=Lib.hid (show (getP (getV v kLin)).2=true by rw [HGG.out];exact k1)
 have HK2:=Lib.hid k2
 clear HR HGG
 have hb6:=zam W5 (.cells #[.int .i64 0,.int .i64 0,.int .i64 0,.int .i64 0,.int .i64 0] 53)
 have hrW:r<W5.heap.size:=zaj HO5.out
 have hqW:q<W5.heap.size:=zaj HQ5.out
 have HM := Lib.hid (show OfM w (W5.alloc (.cells #[.int .i64 0, .int .i64 0, .int .i64 0, .int .i64 0, .int .i64 0] 53)) (fun b => F b ∧ b < w.heap.size) v (.slice a v.l.length c) false d r q W5.heap.size 0 from
   { bel:=HB5.out.trans (hb6.mono HB5.out.size),val:=HX5.out.below hb6,obj:=zab hb6 HO5.out,res:=zab hb6 HQ5.out,row:=zac _ rfl
     nr:=by have:=HRQ.out;omega
     nx:=HB5.out.size
     rx:=by omega
     qx:=by omega
     okF:=fun b hb=>hb.2 })
 clear hb6 hrW hqW HB5 HX5 HO5 HQ5 HRQ
 have HNM:=Lib.hid (fun W=>names_any W)
 unfold nmA at HNM
 go_upto_region 6 with fail
 obtain ⟨x,hx⟩:∃x,x=W5.heap.size:=⟨_,rfl⟩
 rw [←hx] at HM ⊢
 clear hx
 clear t0 t1 t2 t3 t4 t5 k1 k2
 generalize W5.alloc _=W6 at *
 go_wp2_with fail
 refine (HNM.out _).mono ?_
 rintro e w7 ⟨rfl,hb7⟩
 have HM7:=Lib.hid (HM.out.next hb7)
 clear hb7 HM HNM
 go_wp2_with fail
 go_loopw [39] (fun vi wr=>∃k:Nat,vi=.int .i64 k∧k≤5∧Hid (OfM w wr (fun b=>F b∧b<w.heap.size) v (.slice a v.l.length c) false d r q x k)∧Hid (zfL v k)) (fun vi _=>5-(intOf vi).toNat)
 case atStart=>exact ⟨0,rfl,by omega,HM7,Lib.hid fun j hj=>by omega⟩
 case round =>
   clear HM7
   obtain ⟨k,rfl,hk,HMK,HOK⟩:=hrel
   obtain ⟨⟨t0,t1,t2,t3,t4,t5⟩,-⟩:=zaJ HMK.out.obj
   obtain ⟨g0,g1,g2,g3,g4,g5,g6⟩:=zbg HMK.out.res
   obtain ⟨z0,z1,z2,z3,z4,z5,z6⟩:=zaE HMK.out.res
   by_cases hk5:k=5
   · subst hk5
     obtain ⟨x0,x1,x2,x3,x4,-⟩:=HMK.out.cellX
     simp only [show (0:Nat)<5 from by decide,show (1:Nat)<5 from by decide,show (2:Nat)<5 from by decide,show (3:Nat)<5 from by decide,show (4:Nat)<5 from by decide,if_true] at x0 x1 x2 x3 x4
     have HRF:=Lib.hid (show R=({ len:=intN v kL,at_:=(zcG v).1,n:=(zcG v).2.1,obj:=intN v kO,fin:=intN v kE,pages:=intN v kN,main:=intN v kT },true) from by
       rw [HRR.out]
       exact if_pos ⟨HK1.out,HK2.out,HOK.out 0 (by omega),HOK.out 1 (by omega),HOK.out 2 (by omega),HOK.out 3 (by omega),HOK.out 4 (by omega)⟩)
     have HZ:=Lib.hid (fun y0 y1 y2 y3 y4 y5 y6=>And.intro (set7 HMK.out.res y0 y1 y2 y3 y4 y5 y6) (zaY HMK.out.bel HMK.out.nr y0 y1 y2 y3 y4 y5 y6))
     clear HMK HOK HRR HK1 HK2 HG
     generalize intN v kL=nL at *
     generalize intN v kO=nO at *
     generalize intN v kE=nE at *
     generalize intN v kN=nN at *
     generalize intN v kT=nT at *
     generalize (zcG v).1=nA at *
     generalize (zcG v).2.1=nH at *
     go_wp2_with fail
     refine bodyPost_ret (zaa rfl _ _ q 23 _ (0,0) _ rfl (by exact (HZ.out _ _ _ _ _ _ _).1) Tryz.underlying23 rfl (by kernel_rfl) _ rfl) rfl ?_
     rw [HRF.out]
     exact ⟨rfl,(HZ.out _ _ _ _ _ _ _).2⟩
   have hcs:k=0∨k=1∨k=2∨k=3∨k=4:=by omega
   clear hk hk5
   rcases hcs with rfl|rfl|rfl|rfl|rfl
   · have hix:=ix29_0
     go_wp2_with fail
     refine (HG.out _ HMK.out.val kL).mono ?_
     rintro e w9 ⟨sl9,rfl,hx9,hb9⟩
     have HKK:=Lib.hid (zfK v kL)
     have HNN:=Lib.hid (show intN v kL=(getP (getV v kL)).1.n from rfl)
     generalize getP (getV v kL)=G9 at *
     obtain ⟨ua,uc,rfl,-,-,-⟩:=hx9.len
     have hb10:=hb9.alloc hb9.size (.cells #[.int .i64 G9.1.kind,.int .i64 G9.1.n,.string (mkB G9.1.s),.slice ua G9.1.l.length uc] 48)
     have HMN:=Lib.hid (HMK.out.next hb10)
     have HK10:=Lib.hid (zac (w:=w9) (b:=w9.heap.size) (.cells #[.int .i64 G9.1.kind,.int .i64 G9.1.n,.string (mkB G9.1.s),.slice ua G9.1.l.length uc] 48) rfl)
     clear hx9 hb9 hb10 HMK hix t0 t1 t2 t3 t4 t5 g0 g1 g2 g3 g4 g5 g6 z0 z1 z2 z3 z4 z5 z6
     go_upto_region 10 with fail
     generalize w9.heap.size=o9 at HK10 ⊢
     generalize w9.alloc _=W10 at *
     obtain ⟨⟨t0,t1,t2,t3⟩,-⟩:=zae HK10.out
     obtain ⟨g0,g1,g2,g3,g4,g5,g6⟩:=zbg HMN.out.res
     obtain ⟨z0,z1,z2,z3,z4,z5,z6⟩:=zaE HMN.out.res
     obtain ⟨x0,x1,x2,x3,x4,xf⟩:=HMN.out.cellX
     have xf0:=xf 0
     clear xf
     cases hik:intK v kL with
     | false =>
       have e1:(G9.1.kind==2)=false:=HKK.out.trans hik
       have e2:(G9.1.kind != 2)=true:=by simp only [bne,e1,Bool.not_false]
       obtain rfl:R=({},false):=by rw [HRR.out];exact zcM (.inr (.inr (.inl hik)))
       have HZ:=Lib.hid (fun y0 y1 y2 y3 y4 y5 y6=>And.intro (set7 HMN.out.res y0 y1 y2 y3 y4 y5 y6) (zaY HMN.out.bel HMN.out.nr y0 y1 y2 y3 y4 y5 y6))
       clear HMN HOK HRR HK1 HK2 HG HKK hik HNN
       generalize G9.1.kind=gk at *
       go_wp2_with fail
       refine bodyPost_ret (zaa rfl _ _ q 23 _ (0,0) _ rfl (by exact (HZ.out _ _ _ _ _ _ _).1) Tryz.underlying23 rfl (by kernel_rfl) _ rfl) rfl ?_
       exact zcN.bad (HZ.out _ _ _ _ _ _ _).2
     | true =>
       have e1:(G9.1.kind==2)=true:=HKK.out.trans hik
       have e2:(G9.1.kind != 2)=false:=by simp only [bne,e1,Bool.not_true]
       have HMP:=Lib.hid (HMN.out.put (by omega))
       have hnn:(intN v (keyL 0))=G9.1.n:=HNN.out
       rw [hnn] at HMP
       have HOP := Lib.hid (show zfL v (0 + 1) from fun j hj => by
         rcases Nat.lt_or_ge j 0 with hh|hh
         · exact HOK.out j hh
         · obtain rfl : j = 0 := by omega
           exact hik)
       clear HMN HOK HKK hik HNN hnn
       generalize G9.1.kind=gk at *
       generalize G9.1.n=gn at *
       go_wp2_with fail
       exact ⟨⟨1,rfl,by omega,HMP,HOP⟩,by simp [intOf]⟩
   · have hix:=ix29_1
     go_wp2_with fail
     refine (HG.out _ HMK.out.val kO).mono ?_
     rintro e w9 ⟨sl9,rfl,hx9,hb9⟩
     have HKK:=Lib.hid (zfK v kO)
     have HNN:=Lib.hid (show intN v kO=(getP (getV v kO)).1.n from rfl)
     generalize getP (getV v kO)=G9 at *
     obtain ⟨ua,uc,rfl,-,-,-⟩:=hx9.len
     have hb10:=hb9.alloc hb9.size (.cells #[.int .i64 G9.1.kind,.int .i64 G9.1.n,.string (mkB G9.1.s),.slice ua G9.1.l.length uc] 48)
     have HMN:=Lib.hid (HMK.out.next hb10)
     have HK10:=Lib.hid (zac (w:=w9) (b:=w9.heap.size) (.cells #[.int .i64 G9.1.kind,.int .i64 G9.1.n,.string (mkB G9.1.s),.slice ua G9.1.l.length uc] 48) rfl)
     clear hx9 hb9 hb10 HMK hix t0 t1 t2 t3 t4 t5 g0 g1 g2 g3 g4 g5 g6 z0 z1 z2 z3 z4 z5 z6
     go_upto_region 10 with fail
     generalize w9.heap.size=o9 at HK10 ⊢
     generalize w9.alloc _=W10 at *
     obtain ⟨⟨t0,t1,t2,t3⟩,-⟩:=zae HK10.out
     obtain ⟨g0,g1,g2,g3,g4,g5,g6⟩:=zbg HMN.out.res
     obtain ⟨z0,z1,z2,z3,z4,z5,z6⟩:=zaE HMN.out.res
     obtain ⟨x0,x1,x2,x3,x4,xf⟩:=HMN.out.cellX
     have xf1:=xf 1
     clear xf
     cases hik:intK v kO with
     | false =>
       have e1:(G9.1.kind==2)=false:=HKK.out.trans hik
       have e2:(G9.1.kind != 2)=true:=by simp only [bne,e1,Bool.not_false]
       obtain rfl:R=({},false):=by rw [HRR.out];exact zcM (.inr (.inr (.inr (.inl hik))))
       have HZ:=Lib.hid (fun y0 y1 y2 y3 y4 y5 y6=>And.intro (set7 HMN.out.res y0 y1 y2 y3 y4 y5 y6) (zaY HMN.out.bel HMN.out.nr y0 y1 y2 y3 y4 y5 y6))
       clear HMN HOK HRR HK1 HK2 HG HKK hik HNN
       generalize G9.1.kind=gk at *
       go_wp2_with fail
       refine bodyPost_ret (zaa rfl _ _ q 23 _ (0,0) _ rfl (by exact (HZ.out _ _ _ _ _ _ _).1) Tryz.underlying23 rfl (by kernel_rfl) _ rfl) rfl ?_
       exact zcN.bad (HZ.out _ _ _ _ _ _ _).2
     | true =>
       have e1:(G9.1.kind==2)=true:=HKK.out.trans hik
       have e2:(G9.1.kind != 2)=false:=by simp only [bne,e1,Bool.not_true]
       have HMP:=Lib.hid (HMN.out.put (by omega))
       have hnn:(intN v (keyL 1))=G9.1.n:=HNN.out
       rw [hnn] at HMP
       have HOP := Lib.hid (show zfL v (1 + 1) from fun j hj => by
         rcases Nat.lt_or_ge j 1 with hh|hh
         · exact HOK.out j hh
         · obtain rfl : j = 1 := by omega
           exact hik)
       clear HMN HOK HKK hik HNN hnn
       generalize G9.1.kind=gk at *
       generalize G9.1.n=gn at *
       go_wp2_with fail
       exact ⟨⟨2,rfl,by omega,HMP,HOP⟩,by simp [intOf]⟩
   · have hix:=ix29_2
     go_wp2_with fail
     refine (HG.out _ HMK.out.val kE).mono ?_
     rintro e w9 ⟨sl9,rfl,hx9,hb9⟩
     have HKK:=Lib.hid (zfK v kE)
     have HNN:=Lib.hid (show intN v kE=(getP (getV v kE)).1.n from rfl)
     generalize getP (getV v kE)=G9 at *
     obtain ⟨ua,uc,rfl,-,-,-⟩:=hx9.len
     have hb10:=hb9.alloc hb9.size (.cells #[.int .i64 G9.1.kind,.int .i64 G9.1.n,.string (mkB G9.1.s),.slice ua G9.1.l.length uc] 48)
     have HMN:=Lib.hid (HMK.out.next hb10)
     have HK10:=Lib.hid (zac (w:=w9) (b:=w9.heap.size) (.cells #[.int .i64 G9.1.kind,.int .i64 G9.1.n,.string (mkB G9.1.s),.slice ua G9.1.l.length uc] 48) rfl)
     clear hx9 hb9 hb10 HMK hix t0 t1 t2 t3 t4 t5 g0 g1 g2 g3 g4 g5 g6 z0 z1 z2 z3 z4 z5 z6
     go_upto_region 10 with fail
     generalize w9.heap.size=o9 at HK10 ⊢
     generalize w9.alloc _=W10 at *
     obtain ⟨⟨t0,t1,t2,t3⟩,-⟩:=zae HK10.out
     obtain ⟨g0,g1,g2,g3,g4,g5,g6⟩:=zbg HMN.out.res
     obtain ⟨z0,z1,z2,z3,z4,z5,z6⟩:=zaE HMN.out.res
     obtain ⟨x0,x1,x2,x3,x4,xf⟩:=HMN.out.cellX
     have xf2:=xf 2
     clear xf
     cases hik:intK v kE with
     | false =>
       have e1:(G9.1.kind==2)=false:=HKK.out.trans hik
       have e2:(G9.1.kind != 2)=true:=by simp only [bne,e1,Bool.not_false]
       obtain rfl:R=({},false):=by rw [HRR.out];exact zcM (.inr (.inr (.inr (.inr (.inl hik)))))
       have HZ:=Lib.hid (fun y0 y1 y2 y3 y4 y5 y6=>And.intro (set7 HMN.out.res y0 y1 y2 y3 y4 y5 y6) (zaY HMN.out.bel HMN.out.nr y0 y1 y2 y3 y4 y5 y6))
       clear HMN HOK HRR HK1 HK2 HG HKK hik HNN
       generalize G9.1.kind=gk at *
       go_wp2_with fail
       refine bodyPost_ret (zaa rfl _ _ q 23 _ (0,0) _ rfl (by exact (HZ.out _ _ _ _ _ _ _).1) Tryz.underlying23 rfl (by kernel_rfl) _ rfl) rfl ?_
       exact zcN.bad (HZ.out _ _ _ _ _ _ _).2
     | true =>
       have e1:(G9.1.kind==2)=true:=HKK.out.trans hik
       have e2:(G9.1.kind != 2)=false:=by simp only [bne,e1,Bool.not_true]
       have HMP:=Lib.hid (HMN.out.put (by omega))
       have hnn:(intN v (keyL 2))=G9.1.n:=HNN.out
       rw [hnn] at HMP
       have HOP := Lib.hid (show zfL v (2 + 1) from fun j hj => by
         rcases Nat.lt_or_ge j 2 with hh|hh
         · exact HOK.out j hh
         · obtain rfl : j = 2 := by omega
           exact hik)
       clear HMN HOK HKK hik HNN hnn
       generalize G9.1.kind=gk at *
       generalize G9.1.n=gn at *
       go_wp2_with fail
       exact ⟨⟨3,rfl,by omega,HMP,HOP⟩,by simp [intOf]⟩
   · have hix:=ix29_3
     go_wp2_with fail
     refine (HG.out _ HMK.out.val kN).mono ?_
     rintro e w9 ⟨sl9,rfl,hx9,hb9⟩
     have HKK:=Lib.hid (zfK v kN)
     have HNN:=Lib.hid (show intN v kN=(getP (getV v kN)).1.n from rfl)
     generalize getP (getV v kN)=G9 at *
     obtain ⟨ua,uc,rfl,-,-,-⟩:=hx9.len
     have hb10:=hb9.alloc hb9.size (.cells #[.int .i64 G9.1.kind,.int .i64 G9.1.n,.string (mkB G9.1.s),.slice ua G9.1.l.length uc] 48)
     have HMN:=Lib.hid (HMK.out.next hb10)
     have HK10:=Lib.hid (zac (w:=w9) (b:=w9.heap.size) (.cells #[.int .i64 G9.1.kind,.int .i64 G9.1.n,.string (mkB G9.1.s),.slice ua G9.1.l.length uc] 48) rfl)
     clear hx9 hb9 hb10 HMK hix t0 t1 t2 t3 t4 t5 g0 g1 g2 g3 g4 g5 g6 z0 z1 z2 z3 z4 z5 z6
     go_upto_region 10 with fail
     generalize w9.heap.size=o9 at HK10 ⊢
     generalize w9.alloc _=W10 at *
     obtain ⟨⟨t0,t1,t2,t3⟩,-⟩:=zae HK10.out
     obtain ⟨g0,g1,g2,g3,g4,g5,g6⟩:=zbg HMN.out.res
     obtain ⟨z0,z1,z2,z3,z4,z5,z6⟩:=zaE HMN.out.res
     obtain ⟨x0,x1,x2,x3,x4,xf⟩:=HMN.out.cellX
     have xf3:=xf 3
     clear xf
     cases hik:intK v kN with
     | false =>
       have e1:(G9.1.kind==2)=false:=HKK.out.trans hik
       have e2:(G9.1.kind != 2)=true:=by simp only [bne,e1,Bool.not_false]
       obtain rfl:R=({},false):=by rw [HRR.out];exact zcM (.inr (.inr (.inr (.inr (.inr (.inl hik))))))
       have HZ:=Lib.hid (fun y0 y1 y2 y3 y4 y5 y6=>And.intro (set7 HMN.out.res y0 y1 y2 y3 y4 y5 y6) (zaY HMN.out.bel HMN.out.nr y0 y1 y2 y3 y4 y5 y6))
       clear HMN HOK HRR HK1 HK2 HG HKK hik HNN
       generalize G9.1.kind=gk at *
       go_wp2_with fail
       refine bodyPost_ret (zaa rfl _ _ q 23 _ (0,0) _ rfl (by exact (HZ.out _ _ _ _ _ _ _).1) Tryz.underlying23 rfl (by kernel_rfl) _ rfl) rfl ?_
       exact zcN.bad (HZ.out _ _ _ _ _ _ _).2
     | true =>
       have e1:(G9.1.kind==2)=true:=HKK.out.trans hik
       have e2:(G9.1.kind != 2)=false:=by simp only [bne,e1,Bool.not_true]
       have HMP:=Lib.hid (HMN.out.put (by omega))
       have hnn:(intN v (keyL 3))=G9.1.n:=HNN.out
       rw [hnn] at HMP
       have HOP := Lib.hid (show zfL v (3 + 1) from fun j hj => by
         rcases Nat.lt_or_ge j 3 with hh|hh
         · exact HOK.out j hh
         · obtain rfl : j = 3 := by omega
           exact hik)
       clear HMN HOK HKK hik HNN hnn
       generalize G9.1.kind=gk at *
       generalize G9.1.n=gn at *
       go_wp2_with fail
       exact ⟨⟨4,rfl,by omega,HMP,HOP⟩,by simp [intOf]⟩
   · have hix:=ix29_4
     go_wp2_with fail
     refine (HG.out _ HMK.out.val kT).mono ?_
     rintro e w9 ⟨sl9,rfl,hx9,hb9⟩
     have HKK:=Lib.hid (zfK v kT)
     have HNN:=Lib.hid (show intN v kT=(getP (getV v kT)).1.n from rfl)
     generalize getP (getV v kT)=G9 at *
     obtain ⟨ua,uc,rfl,-,-,-⟩:=hx9.len
     have hb10:=hb9.alloc hb9.size (.cells #[.int .i64 G9.1.kind,.int .i64 G9.1.n,.string (mkB G9.1.s),.slice ua G9.1.l.length uc] 48)
     have HMN:=Lib.hid (HMK.out.next hb10)
     have HK10:=Lib.hid (zac (w:=w9) (b:=w9.heap.size) (.cells #[.int .i64 G9.1.kind,.int .i64 G9.1.n,.string (mkB G9.1.s),.slice ua G9.1.l.length uc] 48) rfl)
     clear hx9 hb9 hb10 HMK hix t0 t1 t2 t3 t4 t5 g0 g1 g2 g3 g4 g5 g6 z0 z1 z2 z3 z4 z5 z6
     go_upto_region 10 with fail
     generalize w9.heap.size=o9 at HK10 ⊢
     generalize w9.alloc _=W10 at *
     obtain ⟨⟨t0,t1,t2,t3⟩,-⟩:=zae HK10.out
     obtain ⟨g0,g1,g2,g3,g4,g5,g6⟩:=zbg HMN.out.res
     obtain ⟨z0,z1,z2,z3,z4,z5,z6⟩:=zaE HMN.out.res
     obtain ⟨x0,x1,x2,x3,x4,xf⟩:=HMN.out.cellX
     have xf4:=xf 4
     clear xf
     cases hik:intK v kT with
     | false =>
       have e1:(G9.1.kind==2)=false:=HKK.out.trans hik
       have e2:(G9.1.kind != 2)=true:=by simp only [bne,e1,Bool.not_false]
       obtain rfl:R=({},false):=by rw [HRR.out];exact zcM (.inr (.inr (.inr (.inr (.inr (.inr hik))))))
       have HZ:=Lib.hid (fun y0 y1 y2 y3 y4 y5 y6=>And.intro (set7 HMN.out.res y0 y1 y2 y3 y4 y5 y6) (zaY HMN.out.bel HMN.out.nr y0 y1 y2 y3 y4 y5 y6))
       clear HMN HOK HRR HK1 HK2 HG HKK hik HNN
       generalize G9.1.kind=gk at *
       go_wp2_with fail
       refine bodyPost_ret (zaa rfl _ _ q 23 _ (0,0) _ rfl (by exact (HZ.out _ _ _ _ _ _ _).1) Tryz.underlying23 rfl (by kernel_rfl) _ rfl) rfl ?_
       exact zcN.bad (HZ.out _ _ _ _ _ _ _).2
     | true =>
       have e1:(G9.1.kind==2)=true:=HKK.out.trans hik
       have e2:(G9.1.kind != 2)=false:=by simp only [bne,e1,Bool.not_true]
       have HMP:=Lib.hid (HMN.out.put (by omega))
       have hnn:(intN v (keyL 4))=G9.1.n:=HNN.out
       rw [hnn] at HMP
       have HOP := Lib.hid (show zfL v (4 + 1) from fun j hj => by
         rcases Nat.lt_or_ge j 4 with hh|hh
         · exact HOK.out j hh
         · obtain rfl : j = 4 := by omega
           exact hik)
       clear HMN HOK HKK hik HNN hnn
       generalize G9.1.kind=gk at *
       generalize G9.1.n=gn at *
       go_wp2_with fail
       exact ⟨⟨5,rfl,by omega,HMP,HOP⟩,by simp [intOf]⟩
def LpEnd (w:World) (R:LinD×Int) (e:Ending) (w':World):Prop:=e=.returned (.tuple #[linA R.1,.int .i64 R.2])∧Below w.heap.size w w'
theorem lin_res {bs:List UInt8} {last:Bool} {total er:Int} {st:Bool} {v:PV} (h6:er=6↔(frR bs last).1=6) (h0:frR bs last=(0,false)→er=0∧st=false∧v=(frD bs last).1) (h1:(frR bs last).1≠0∨(frR bs last).2=true→er≠0∨st=true) :
   (er=6∧linV bs last total=({},6))∨(er≠6∧er≠0∧linV bs last total=({},28))∨(er=0∧(if st=true then (({},false):LinD×Bool) else ofV v).2=false∧linV bs last total=({},28)) ∨
   (er=0∧(if st=true then (({},false):LinD×Bool) else ofV v).2=true∧linV bs last total=if chkL (if st=true then (({},false):LinD×Bool) else ofV v).1≠0∨(if st=true then (({},false):LinD×Bool) else ofV v).1.len≠total then ({},28) else ((if st=true then (({},false):LinD×Bool) else ofV v).1,0)):=by
 unfold linV
 by_cases e6:er=6
 · exact .inl ⟨e6,if_pos (h6.1 e6)⟩
 · have r6 : ¬ (frR bs last).1 = 6 := fun h => e6 (h6.2 h)
   rw [if_neg r6]
   by_cases hg:(frR bs last).1=0∧(frR bs last).2=false
   · obtain ⟨a,b,c⟩:=h0 (Prod.ext hg.1 hg.2)
     subst b c
     simp only [Bool.false_eq_true,if_false]
     right;right
     cases ho:(ofV (frD bs last).1).2 with
     | false=>exact .inl ⟨a,rfl,if_pos (.inr (.inr (.inl rfl)))⟩
     | true =>
       refine .inr ⟨a,rfl,?_⟩
       by_cases hc:chkL (ofV (frD bs last).1).1≠0∨(ofV (frD bs last).1).1.len≠total
       · rw [if_pos hc,if_pos (.inr (.inr (.inr hc)))]
       · rw [if_neg hc,if_neg]
         rintro (h|h|h|h)
         · exact h hg.1
         · rw [hg.2] at h;cases h
         · cases h
         · exact hc h
   · have hb:(frR bs last).1≠0∨(frR bs last).2=true:=by
       by_cases g:(frR bs last).1=0
       · right
         cases h:(frR bs last).2 with
         | true=>rfl
         | false=>exact absurd ⟨g,h⟩ hg
       · exact .inl g
     have hv:(if (frR bs last).1≠0∨(frR bs last).2=true∨(ofV (frD bs last).1).2=false∨chkL (ofV (frD bs last).1).1≠0∨(ofV (frD bs last).1).1.len≠total then (({},28):LinD×Int) else ((ofV (frD bs last).1).1,0))=({},28):=if_pos (hb.elim .inl fun h=>.inr (.inl h))
     rw [hv]
     by_cases e0:er=0
     · rcases h1 hb with h|h
       · exact absurd e0 h
       · subst h
         exact .inr (.inr (.inl ⟨e0,rfl,rfl⟩))
     · exact .inr (.inl ⟨e6,e0,rfl⟩)
theorem lparse_any {w:World} {a:Option Addr} {cap:Nat} {bs:List UInt8} {last:Bool} (hr:Row w 1 a bs.length cap (bs.map u8C)) (hn:bs.length≤399999) (HST:(frE bs last).1=true→StreamC a cap bs last) (total:Int) :
   Calls Tryz.prog 13 #[.slice a bs.length cap,.bool last,.int .i64 total] w (LpEnd w (linV bs last total)):=by
 have hb1:=zam w (.cells #[.int .i64 0,.int .i64 0,.int .i64 0,.int .i64 0,.int .i64 0,.int .i64 0,.int .i64 0] 23)
 have HP:=Lib.hid (fparse_any (hr.mono hb1) hn HST)
 have HQ:=Lib.hid (zac (w:=w) (b:=w.heap.size) (.cells #[.int .i64 0,.int .i64 0,.int .i64 0,.int .i64 0,.int .i64 0,.int .i64 0,.int .i64 0] 23) rfl)
 have HB:=Lib.hid hb1
 have HRES:=Lib.hid (fun er st v=>lin_res (bs:=bs) (last:=last) (total:=total) (er:=er) (st:=st) (v:=v))
 unfold zbM at HP
 unfold LpEnd
 generalize linV bs last total=L at *
 generalize frR bs last=R at *
 generalize (frD bs last).1=V at *
 clear hr hn HST hb1
 generalize bs.length=n at *
 go_enter Tryz.func13,Tryz.ntmps13
 go_upto_region 1 with fail
 obtain ⟨q,hq⟩:∃q,q=w.heap.size:=⟨_,rfl⟩
 rw [←hq] at HQ ⊢
 have HN:=Lib.hid (show w.heap.size≤q from Nat.le_of_eq hq.symm)
 clear hq
 generalize w.alloc _=W1 at *
 go_wp2_with fail
 refine HP.out.mono ?_
 rintro e w2 ⟨v,sl,st,d,n2,at2,er,rfl,hx,hev,hb,e6,e0,e1⟩
 have HRS:=Lib.hid (HRES.out er st v e6 e0 e1)
 obtain ⟨sa,sc,rfl,-,-,-⟩:=hx.len
 have hb3:=hb.alloc hb.size (.cells (obC v (.slice sa v.l.length sc) st d) 56)
 have HB3:=Lib.hid (HB.out.trans (hb3.mono HB.out.size))
 have HQ3:=Lib.hid (zab hb3 HQ.out)
 have HO3:=Lib.hid (zac (w:=w2) (b:=w2.heap.size) (.cells (obC v (.slice sa v.l.length sc) st d) 56) rfl)
 have HX3:=Lib.hid (hx.below (zam w2 (.cells (obC v (.slice sa v.l.length sc) st d) 56)))
 have HEV:=Lib.hid hev
 clear HP HB HQ HRES hb hb3 hx e6 e0 e1 hev
 unfold obC at HB3 HQ3 HO3 HX3 ⊢
 go_upto_region 2 with fail
 generalize w2.heap.size=o at HO3 ⊢
 generalize w2.alloc _=W3 at *
 obtain ⟨⟨o0,o1,o2,o3,o4,o5⟩,-⟩:=zaJ HO3.out
 obtain ⟨g0,g1,g2,g3,g4,g5,g6⟩:=zbg HQ3.out
 obtain ⟨z0,z1,z2,z3,z4,z5,z6⟩:=zaE HQ3.out
 by_cases h6:er=6
 · have HL:Hid (L=({},6)):=Lib.hid (by
     rcases HRS.out with ⟨-,h⟩|⟨h,-⟩|⟨h,-⟩|⟨h,-⟩
     · exact h
     · exact absurd h6 h
     · omega
     · omega)
   subst h6
   have HZ:=Lib.hid (fun y0 y1 y2 y3 y4 y5 y6=>And.intro (set7 HQ3.out y0 y1 y2 y3 y4 y5 y6) (zaY HB3.out HN.out y0 y1 y2 y3 y4 y5 y6))
   clear HRS HB3 HQ3 HO3 HX3 HEV
   go_wp2_with fail
   refine bodyPost_ret (zaa rfl _ _ q 23 _ (0,0) _ rfl (by exact (HZ.out _ _ _ _ _ _ _).1) Tryz.underlying23 rfl (by kernel_rfl) _ rfl) rfl ?_
   rw [HL.out]
   exact ⟨rfl,(HZ.out _ _ _ _ _ _ _).2⟩
 have k6:(er==6)=false:=by rw [beq_eq_false_iff_ne];exact h6
 have HOF:=Lib.hid (of_any (st:=st) (d:=d) HX3.out HEV.out)
 unfold zcN obC at HOF
 generalize (if st=true then (({},false):LinD×Bool) else ofV v)=S at *
 obtain ⟨S1,S2⟩:=S
 dsimp only at HOF HRS
 clear HX3 HEV
 generalize v.kind=vk at *
 generalize v.n=vn at *
 generalize mkB v.s=vs at *
 generalize v.l.length=vl at *
 go_wp2_with fail
 refine HOF.out.mono ?_
 rintro e w4 ⟨rfl,hb4⟩
 have HCK:=Lib.hid (fun W=>zct S1 W)
 unfold zen at HCK
 have HZZ:=Lib.hid (show linA S1=.agg (linC S1).toArray from rfl)
 unfold linA at HCK ⊢
 have hb5:=hb4.alloc hb4.size (.cells #[.int .i64 S1.len,.int .i64 S1.at_,.int .i64 S1.n,.int .i64 S1.obj,.int .i64 S1.fin,.int .i64 S1.pages,.int .i64 S1.main] 23)
 have HB5:=Lib.hid (HB3.out.trans (hb5.mono HB3.out.size))
 have HQ5:=Lib.hid (zab hb5 HQ3.out)
 have HL5:=Lib.hid (zac (w:=w4) (b:=w4.heap.size) (.cells #[.int .i64 S1.len,.int .i64 S1.at_,.int .i64 S1.n,.int .i64 S1.obj,.int .i64 S1.fin,.int .i64 S1.pages,.int .i64 S1.main] 23) rfl)
 clear hb4 hb5 HOF HB3 HQ3 HO3 o0 o1 o2 o3 o4 o5 g0 g1 g2 g3 g4 g5 g6 z0 z1 z2 z3 z4 z5 z6
 have hcs:(er≠0∧L=({},28))∨(er=0∧S2=false∧L=({},28))∨(er=0∧S2=true∧¬chkL S1=0∧L=({},28))∨(er=0∧S2=true∧chkL S1=0∧¬S1.len=total∧L=({},28))∨(er=0∧S2=true∧chkL S1=0∧S1.len=total∧L=(S1,0)):=by
   rcases HRS.out with ⟨h,-⟩|⟨-,h,h2⟩|⟨h,h2,h3⟩|⟨h,h2,h3⟩
   · exact absurd h h6
   · exact .inl ⟨h,h2⟩
   · exact .inr (.inl ⟨h,h2,h3⟩)
   · by_cases c1:chkL S1=0
     · by_cases c2:S1.len=total
       · exact .inr (.inr (.inr (.inr ⟨h,h2,c1,c2,by rw [h3,if_neg (by simp [c1,c2])]⟩)))
       · exact .inr (.inr (.inr (.inl ⟨h,h2,c1,c2,by rw [h3,if_pos (.inr c2)]⟩)))
     · exact .inr (.inr (.inl ⟨h,h2,c1,by rw [h3,if_pos (.inl c1)]⟩))
 have HCS:=Lib.hid hcs
 clear hcs HRS h6 HZZ
 go_upto_region 5 with fail
 generalize w4.heap.size=o2 at HL5 ⊢
 generalize w4.alloc _=W5 at *
 obtain ⟨c0,c1,c2,c3,c4,c5,c6⟩:=zaE HL5.out
 obtain ⟨g0,g1,g2,g3,g4,g5,g6⟩:=zbg HQ5.out
 obtain ⟨z0,z1,z2,z3,z4,z5,z6⟩:=zaE HQ5.out
 have HLL:=Lib.hid (fun (W:World) (hb:Below W5.heap.size W5 W)=>And.intro (zab hb HQ5.out) (And.intro (zab hb HL5.out) (HB5.out.trans (hb.mono HB5.out.size))))
 have HEE:=Lib.hid (show linA ({}:LinD)=.agg #[.int .i64 0,.int .i64 0,.int .i64 0,.int .i64 0,.int .i64 0,.int .i64 0,.int .i64 0] from rfl)
 have HES:=Lib.hid (show linA S1=.agg #[.int .i64 S1.len,.int .i64 S1.at_,.int .i64 S1.n,.int .i64 S1.obj,.int .i64 S1.fin,.int .i64 S1.pages,.int .i64 S1.main] from rfl)
 have HZ:=Lib.hid (fun y0 y1 y2 y3 y4 y5 y6=>And.intro (set7 HQ5.out y0 y1 y2 y3 y4 y5 y6) (zaY HB5.out HN.out y0 y1 y2 y3 y4 y5 y6))
 generalize chkL S1=ck at *
 rcases HCS.out with ⟨k0,rfl⟩|⟨rfl,rfl,rfl⟩|⟨rfl,rfl,k0,rfl⟩|⟨rfl,rfl,rfl,k0,rfl⟩|⟨rfl,rfl,rfl,k0,rfl⟩
 · have k1 : (er == 0) = false := by rw [beq_eq_false_iff_ne]; exact k0
   have k2:(er != 0)=true:=by simp only [bne,k1,Bool.not_false]
   clear HCS HLL HQ5 HL5 HB5 k0 HES HCK
   go_wp2_with fail
   refine bodyPost_ret (zaa rfl _ _ q 23 _ (0,0) _ rfl (by exact (HZ.out _ _ _ _ _ _ _).1) Tryz.underlying23 rfl (by kernel_rfl) _ rfl) rfl ?_
   rw [HEE.out]
   exact ⟨rfl,(HZ.out _ _ _ _ _ _ _).2⟩
 · clear HCS HLL HQ5 HL5 HB5 HES HCK
   go_wp2_with fail
   refine bodyPost_ret (zaa rfl _ _ q 23 _ (0,0) _ rfl (by exact (HZ.out _ _ _ _ _ _ _).1) Tryz.underlying23 rfl (by kernel_rfl) _ rfl) rfl ?_
   rw [HEE.out]
   exact ⟨rfl,(HZ.out _ _ _ _ _ _ _).2⟩
 all_goals
   replace k0:=Lib.hid k0
   clear HCS HQ5 HL5 HB5 HZ
   go_wp2_with fail
   refine (HCK.out _).mono ?_
   rintro e w6 ⟨rfl,hb6⟩
   obtain ⟨HQ6,HL6,HB6⟩:=HLL.out _ hb6
   have HZ:=Lib.hid (fun y0 y1 y2 y3 y4 y5 y6=>And.intro (set7 HQ6 y0 y1 y2 y3 y4 y5 y6) (zaY HB6 HN.out y0 y1 y2 y3 y4 y5 y6))
   clear c0 c1 c2 c3 c4 c5 c6 g0 g1 g2 g3 g4 g5 g6 z0 z1 z2 z3 z4 z5 z6
   obtain ⟨c0,c1,c2,c3,c4,c5,c6⟩:=zaE HL6
   obtain ⟨g0,g1,g2,g3,g4,g5,g6⟩:=zbg HQ6
   obtain ⟨z0,z1,z2,z3,z4,z5,z6⟩:=zaE HQ6
   clear HLL HL6 HB6 hb6 HQ6 HCK
 · have k1 : (ck == 0) = false := by rw [beq_eq_false_iff_ne]; exact k0.out
   have k2:(ck != 0)=true:=by simp only [bne,k1,Bool.not_false]
   clear k0
   go_wp2_with fail
   refine bodyPost_ret (zaa rfl _ _ q 23 _ (0,0) _ rfl (by exact (HZ.out _ _ _ _ _ _ _).1) Tryz.underlying23 rfl (by kernel_rfl) _ rfl) rfl ?_
   rw [HEE.out]
   exact ⟨rfl,(HZ.out _ _ _ _ _ _ _).2⟩
 · have k1 : (S1.len == total) = false := by rw [beq_eq_false_iff_ne]; exact k0.out
   have k2:(S1.len != total)=true:=by simp only [bne,k1,Bool.not_false]
   clear k0
   go_wp2_with fail
   refine bodyPost_ret (zaa rfl _ _ q 23 _ (0,0) _ rfl (by exact (HZ.out _ _ _ _ _ _ _).1) Tryz.underlying23 rfl (by kernel_rfl) _ rfl) rfl ?_
   rw [HEE.out]
   exact ⟨rfl,(HZ.out _ _ _ _ _ _ _).2⟩
 · have k1 : (S1.len == total) = true := by rw [beq_iff_eq]; exact k0.out
   have k2:(S1.len != total)=false:=by simp only [bne,k1,Bool.not_true]
   clear k0
   go_wp2_with fail
   refine bodyPost_ret (zaa rfl _ _ q 23 _ (0,0) _ rfl (by exact (HZ.out _ _ _ _ _ _ _).1) Tryz.underlying23 rfl (by kernel_rfl) _ rfl) rfl ?_
   rw [HES.out]
   exact ⟨rfl,(HZ.out _ _ _ _ _ _ _).2⟩
theorem conv29 {w:World} {a:Option Addr} {cap:Nat} {bs:List UInt8} (hr:Row w 1 a bs.length cap (bs.map u8C)):(convert 24 9 (.slice a bs.length cap)).run Tryz.prog w=.ok (.string (mkB bs)) w:=by
 cases a with
 | none =>
   have h0:=hr.2.2.2.1 rfl
   have h1:=hr.2.1
   have ho:bs=[]:=List.eq_nil_of_length_eq_zero (by omega)
   subst ho
   rw [h0]
   exact run_convert_bytes_string w 24 9 5 none 0 0 Tryz.underlying24 Tryz.underlying5 Tryz.underlying9
 | some x =>
   refine run_convert_bytes_back (P:=Tryz.prog) w 24 9 5 x cap bs Tryz.underlying24 Tryz.underlying5 Tryz.underlying9 (fun j hj=>?_)
   obtain ⟨b,o,hx,-,hc⟩:=hr.2.2.2.2 (by omega)
   cases hx
   rw [Addr.add_lit]
   exact hc j (u8C bs[j]) (by simp [hj])
theorem frE_no {bs:List UInt8} {last:Bool} {e:Int} (h:frR bs last=(e,false)):(frE bs last).1=false:=by
 cases hb:(frE bs last).1 with
 | false=>rfl
 | true =>
   unfold frR at h
   rw [if_pos hb] at h
   cases h
def lin0:LinD:={ len:=900,at_:=100,n:=50,obj:=4,fin:=300,pages:=2,main:=700 }
theorem lin0_ok:zb8 lin0=true:=by decide
theorem zeT {g:List UInt8} {n:Int} {l:LinD} (h1:1≤n) (h2:n≤4096) (hl:zb8 l=true) (hg:gapS g) (hg9:g.length≤9) (behind:List UInt8) (hb:behind.length≤300) (last:Bool) (total:Int) {w:World} {a:Option Addr} {cap:Nat} {bs:List UInt8} (hbs:bs=g++(linB n l++behind)) (hr:Row w 1 a bs.length cap (bs.map u8C)) :
   Calls Tryz.prog 13 #[.slice a bs.length cap,.bool last,.int .i64 total] w (LpEnd w (if l.len=total then (l,0) else ({},28))):=by
 have hlen:=zdQ (n:=n) hl
 have hd:=za3 9 n.toNat (by omega)
 obtain ⟨q1,-⟩:=lin_fr (bs:=bs) h1 h2 hl hg behind last (by rw [hbs,List.length_append,List.length_append,hlen];omega) (by rw [hbs];exact cur_lin n l behind)
 have h:=lparse_any (last:=last) hr (by rw [hbs,List.length_append,List.length_append,hlen];omega) (fun h=>by rw [frE_no q1] at h;cases h) total
 have hv:linV bs last total=if l.len=total then (l,0) else ({},28):=by rw [hbs];exact lin_back h1 h2 hl hg behind last total
 rw [hv] at h
 exact h
theorem works29 (w : World) : Calls Tryz.prog 12 #[] w fun e w' => e = .returned (.bool true) ∧ Below w.heap.size w w' := by
 have HB:=Lib.hid (zam w (.cells #[.int .i64 900,.int .i64 100,.int .i64 50,.int .i64 4,.int .i64 300,.int .i64 2,.int .i64 700] 23))
 have HK:=Lib.hid (zac (w:=w) (b:=w.heap.size) (.cells #[.int .i64 900,.int .i64 100,.int .i64 50,.int .i64 4,.int .i64 300,.int .i64 2,.int .i64 700] 23) rfl)
 have HP:=Lib.hid (fun W=>show Calls Tryz.prog 8 #[.int .i64 7,.agg #[.int .i64 900,.int .i64 100,.int .i64 50,.int .i64 4,.int .i64 300,.int .i64 2,.int .i64 700]] W (OkEnd W 7 lin0) from lprint_ok (l:=lin0) (by decide) (by decide) lin0_ok W)
 have HPA:=Lib.hid (fun (W:World) (a:Option Addr) (cap:Nat) (hr:Row W 1 a (linB 7 lin0).length cap ((linB 7 lin0).map u8C)) =>
   show Calls Tryz.prog 13 #[.slice a (linB 7 lin0).length cap, .bool true, .int .i64 900] W (fun e w' => e = .returned (.tuple #[.agg #[.int .i64 900, .int .i64 100, .int .i64 50, .int .i64 4, .int .i64 300, .int .i64 2, .int .i64 700], .int .i64 0]) ∧ Below W.heap.size W w') from
     zeT (g:=[]) (l:=lin0) (n:=7) (by decide) (by decide) lin0_ok gap0 (by decide) [] (by decide) true 900 (by simp) hr)
 have HTX:=Lib.hid (fun W=>show Calls Tryz.prog 20 #[.int .i64 7,.agg #[.int .i64 900,.int .i64 100,.int .i64 50,.int .i64 4,.int .i64 300,.int .i64 2,.int .i64 700]] W (fun e w'=>e=.returned (.string (mkB (linB 7 lin0)))∧Below W.heap.size W w') from rtext29 (l:=lin0) (by decide) (by decide) lin0_ok W)
 have HC1:=Lib.hid (fun W=>show Calls Tryz.prog 10 #[.agg #[.int .i64 900,.int .i64 100,.int .i64 50,.int .i64 4,.int .i64 300,.int .i64 2,.int .i64 700]] W (fun e w'=>e=.returned (.int .i64 0)∧Below W.heap.size W w') from zct lin0 W)
 have HC2:=Lib.hid (fun W=>show Calls Tryz.prog 10 #[.agg #[.int .i64 0,.int .i64 0,.int .i64 0,.int .i64 0,.int .i64 0,.int .i64 0,.int .i64 0]] W (fun e w'=>e=.returned (.int .i64 28)∧Below W.heap.size W w') from zct {} W)
 unfold OkEnd at HP
 have HCV:=Lib.hid (fun (W:World) (a:Option Addr) (cap:Nat) (hr:Row W 1 a (linB 7 lin0).length cap ((linB 7 lin0).map u8C))=>conv29 hr)
 generalize linB 7 lin0=T at *
 have hqq:((mkB T).toList==(mkB T).toList)=true:=by simp
 generalize mkB T=S at *
 obtain ⟨L,hL⟩:∃L,L=T.length:=⟨_,rfl⟩
 rw [←hL] at HP HPA HCV
 clear hL
 generalize T.map u8C=cs at *
 go_enter Tryz.func12,Tryz.ntmps12
 go_upto_region 2 with fail
 obtain ⟨q,hq⟩:∃q,q=w.heap.size:=⟨_,rfl⟩
 rw [←hq] at HK ⊢
 clear hq
 generalize w.alloc _=W1 at *
 obtain ⟨c0,c1,c2,c3,c4,c5,c6⟩:=zaE HK.out
 go_wp2_with fail
 refine (HP.out _).mono ?_
 rintro e w2 ⟨g,c,rfl,hr2,-,-,hb2⟩
 have HK2:=Lib.hid (zab hb2 HK.out)
 have HB2:=Lib.hid (HB.out.trans (hb2.mono HB.out.size))
 have HR2:=Lib.hid hr2
 clear hr2 hb2 HB HK HP c0 c1 c2 c3 c4 c5 c6
 go_wp2_with fail
 refine (HPA.out _ _ _ HR2.out).mono ?_
 rintro e w3 ⟨rfl,hb3⟩
 have hb4:=hb3.alloc hb3.size (.cells #[.int .i64 900,.int .i64 100,.int .i64 50,.int .i64 4,.int .i64 300,.int .i64 2,.int .i64 700] 23)
 have HB4:=Lib.hid (HB2.out.trans (hb4.mono HB2.out.size))
 have HK4:=Lib.hid (zab hb4 HK2.out)
 have HX4:=Lib.hid (zac (w:=w3) (b:=w3.heap.size) (.cells #[.int .i64 900,.int .i64 100,.int .i64 50,.int .i64 4,.int .i64 300,.int .i64 2,.int .i64 700] 23) rfl)
 have HR4:=Lib.hid (HR2.out.mono hb4)
 clear hb3 hb4 HB2 HK2 HR2 HPA
 go_upto_region 4 with fail
 generalize w3.heap.size=x at HX4 ⊢
 generalize w3.alloc _=W4 at *
 have hcv:=fun p:zcj W4=>HCV.out p.w _ _ (HR4.out.mono p.h)
 have k0:=fun p:zcj W4=>zaE (zab p.h HK4.out)
 have j0:=fun p=>(k0 p).1
 have j1:=fun p=>(k0 p).2.1
 have j2:=fun p=>(k0 p).2.2.1
 have j3:=fun p=>(k0 p).2.2.2.1
 have j4:=fun p=>(k0 p).2.2.2.2.1
 have j5:=fun p=>(k0 p).2.2.2.2.2.1
 have j6:=fun p=>(k0 p).2.2.2.2.2.2
 have k1:=fun p:zcj W4=>zaE (zab p.h HX4.out)
 have i0:=fun p=>(k1 p).1
 have i1:=fun p=>(k1 p).2.1
 have i2:=fun p=>(k1 p).2.2.1
 have i3:=fun p=>(k1 p).2.2.2.1
 have i4:=fun p=>(k1 p).2.2.2.2.1
 have i5:=fun p=>(k1 p).2.2.2.2.2.1
 have i6:=fun p=>(k1 p).2.2.2.2.2.2
 clear k0 k1 HCV
 refine zcd (by kernel_rfl) (by kernel_rfl) ?_
 repeat (go_big_quiet_step (first
   | (go_at_call 20;with_reducible exact Calls.below_of (HTX.out _))
   | (go_at_call 10;with_reducible exact Calls.below_of (HC1.out _))
   | (go_at_call 10;with_reducible exact Calls.below_of (HC2.out _))))
 refine wpQuiet_nil ?_
 rintro w9 ⟨⟨_,hb9⟩,rfl⟩
 have HB9:=Lib.hid (HB4.out.trans (hb9.mono HB4.out.size))
 clear hb9
 go_wp2_with fail
 go_ret
 exact ⟨rfl,HB9.out⟩
end Go.Proofs.YtkhcjoomijkfbaaGreatDoor
namespace Go.Proofs.YtkhcjoomijkfbaaGreatDoor
section
variable {bs : List UInt8} {last : Bool}
theorem numS_err {lo hi:Int} {s:Int×Int} (h:s.2≠0):numS bs last lo hi s=(0,s):=if_pos h
theorem wordS_err0 {w:List UInt8} {s:Int×Int} (h:s.2≠0):zd6 bs last w s=s:=if_pos h
theorem valS_err {s:Int×Int} (h:s.2≠0):valS bs last s=(PV.none,s):=if_pos h
theorem strmS_err {s:Int×Int} (h:s.2≠0):zeb bs last s=(false,s):=if_pos h
theorem numS_ok {lo hi:Int} {s:Int×Int} (h:s.2=0):numS bs last lo hi s=((oneW zaC (zai bs s.1 last)).1.vn,(oneW zaC (zai bs s.1 last)).2.2.1,
     if (oneW zaC (zai bs s.1 last)).2.2.2=0∧((oneW zaC (zai bs s.1 last)).1.vn<lo∨hi<(oneW zaC (zai bs s.1 last)).1.vn) then 18 else (oneW zaC (zai bs s.1 last)).2.2.2):=if_neg (by simp [h])
theorem wordS_ok {w:List UInt8} {s:Int×Int} (h:s.2=0):zd6 bs last w s=((oneW (zcS w) (zai bs s.1 last)).2.2.1,(oneW (zcS w) (zai bs s.1 last)).2.2.2):=if_neg (by simp [h])
theorem valS_ok {s:Int×Int} (h:s.2=0):valS bs last s=zbE bs last s.1:=if_neg (by simp [h])
theorem strmS_ok {s:Int×Int} (h:s.2=0):zeb bs last s=(decide (strE (zai bs s.1 last)=0∧(zai bs s.1 last).1.s=zbw),(zai bs s.1 last).2.2.1,strE (zai bs s.1 last)):=if_neg (by simp [h])
theorem fr_E (h:(frE bs last).1=false):frR bs last=((frE bs last).2.2,false):=if_neg (by simp [h])
theorem fr_S (h:(frE bs last).1=true):frR bs last=((zfu bs last (frD bs last).1 (frE bs last).2.1).2,true):=if_pos h
theorem fr_D (h:(frD bs last).2.2≠0):frR bs last=((frD bs last).2.2,false):=by
 have e:frE bs last=(false,(frD bs last).2):=strmS_err h
 rw [fr_E (by rw [e]),e]
theorem fr_C (h:(frC bs last).2≠0):frR bs last=((frC bs last).2,false):=by
 have e:frD bs last=(PV.none,frC bs last):=valS_err h
 rw [fr_D (by rw [e];exact h),e]
theorem fr_B (h:(frB bs last).2.2≠0):frR bs last=((frB bs last).2.2,false):=by
 have e:frC bs last=(frB bs last).2:=wordS_err0 h
 rw [fr_C (by rw [e];exact h),e]
theorem fr_A (h:(frA bs last).2.2≠0):frR bs last=((frA bs last).2.2,false):=by
 have e:frB bs last=(0,(frA bs last).2):=numS_err h
 rw [fr_B (by rw [e];exact h),e]
theorem frA_is:frA bs last=((oneW zaC (zai bs 0 last)).1.vn,(oneW zaC (zai bs 0 last)).2.2.1,
     if (oneW zaC (zai bs 0 last)).2.2.2=0∧((oneW zaC (zai bs 0 last)).1.vn<1∨4096<(oneW zaC (zai bs 0 last)).1.vn) then 18 else (oneW zaC (zai bs 0 last)).2.2.2):=numS_ok rfl
end
end Go.Proofs.YtkhcjoomijkfbaaGreatDoor
namespace Go.Proofs.YtkhcjoomijkfbaaGreatDoor
open Go.RowKit
def RstEnd (w:World) (F:Nat→Prop) (E:Int) (e:Ending) (w':World):Prop :=
 ∃ (v2 : PV) (sl2 : Value) (st : Bool) (d : ByteArray) (at2 er : Int), e = .returned (.tuple #[.agg (obC v2 sl2 st d), .int .i64 at2, .int .i64 er]) ∧ IsV w' (fun b => F b ∨ w.heap.size ≤ b) v2 sl2 ∧ (v2.kind = 7 → v2.l.length % 2 = 0) ∧ Below w.heap.size w w' ∧
   (E≠0→er=E)∧(E=0→er=0∧st=true∨er=18)
def RstreamC (a:Option Addr) (cap:Nat) (bs:List UInt8) (last:Bool):Prop :=
 ∀(w:World) (at_:Int) (v:PV) (sl:Value) (F:Nat→Prop),Row w 1 a bs.length cap (bs.map u8C)→0≤at_→at_≤bs.length→IsV w F v sl→(v.kind=7→v.l.length % 2=0) →
   Calls Tryz.prog 45 #[.slice a bs.length cap,.int .i64 at_,.bool last,pvA v sl] w (RstEnd w F (zfu bs last v at_).2)
structure RpM (w W:World) (q z:Nat):Prop where
 bel:Below w.heap.size w W
 res:W.heap[q]?=some (.cells #[.int .i64 0,.int .i64 0,.string ⟨#[]⟩,.slice none 0 0,.bool false,.string ⟨#[]⟩] 56 (0,0))
 zer:W.heap[z]?=some (.cells #[.int .i64 0,.int .i64 0,.string ⟨#[]⟩,.slice none 0 0,.bool false,.string ⟨#[]⟩] 56 (0,0))
 new:w.heap.size≤q
 newz:w.heap.size≤z
 ne:¬q=z
theorem RpM.next {w W W':World} {q z:Nat} (h:RpM w W q z) (hb:Below W.heap.size W W'):RpM w W' q z :=
 ⟨h.bel.trans (hb.mono h.bel.size),zab hb h.res,zab hb h.zer,h.new,h.newz,h.ne⟩
theorem RpM.put {w W:World} {q z:Nat} (h:RpM w W q z) (y0 y1 y2 y3 y4 y5:Value) :
   (putO W q y0 y1 y2 y3 y4 y5).drew.heap[q]?=some (.cells #[y0,y1,y2,y3,y4,y5] 56 (0,0))∧Below w.heap.size w (putO W q y0 y1 y2 y3 y4 y5).drew :=
 ⟨fd_drew (set6 h.res y0 y1 y2 y3 y4 y5),(zdX h.bel h.new y0 y1 y2 y3 y4 y5).drew⟩
theorem RpM.start (w:World):RpM w ((w.alloc (.cells #[.int .i64 0,.int .i64 0,.string ⟨#[]⟩,.slice none 0 0,.bool false,.string ⟨#[]⟩] 56)).alloc (.cells #[.int .i64 0,.int .i64 0,.string ⟨#[]⟩,.slice none 0 0,.bool false,.string ⟨#[]⟩] 56)) w.heap.size (w.heap.size+1) :=
 ⟨(zam w _).alloc (by rw [zas];omega) _,zao _ (zac _ rfl),zac _ (by rw [zas]),Nat.le_refl _,by omega,by omega⟩
theorem zds {e:Int} (h:e≠0):(e==0)=false∧(e != 0)=true:=by
 have h1:(e==0)=false:=by rw [beq_eq_false_iff_ne];exact h
 exact ⟨h1,by simp only [bne,h1,Bool.not_false]⟩
theorem rparse14 {w:World} {a:Option Addr} {cap:Nat} {bs:List UInt8} {last:Bool} (hr:Row w 1 a bs.length cap (bs.map u8C)) (hn:bs.length≤399999) (HST:(frE bs last).1=true→RstreamC a cap bs last) :
   Calls Tryz.prog 23 #[.slice a bs.length cap,.int .i64 0,.bool last] w (zbM w (frR bs last) (frD bs last).1):=by
 have HR0:=Lib.hid (fun (W:World) (hb:Below w.heap.size w W)=>hr.mono hb)
 have HM:=Lib.hid (RpM.start w)
 obtain ⟨VV,hVV⟩:∃VV,VV=(frD bs last).1:=⟨_,rfl⟩
 obtain ⟨R,hRR⟩:∃R,R=frR bs last:=⟨_,rfl⟩
 rw [←hVV,←hRR]
 have HVV:=Lib.hid hVV
 have HRR:=Lib.hid hRR
 have HNN:=Lib.hid hn
 have HLL:Hid (∃L,L=bs.length):=Lib.hid ⟨_,rfl⟩
 clear hVV hRR hr
 have HC1:=Lib.hid (fun (W:World) (hb:Below w.heap.size w W)=>zeE (HR0.out W hb) (by omega) 0 last)
 have hA:=frA_is (bs:=bs) (last:=last)
 have hI:=zfi (bs:=bs) (last:=last) (k:=0) (p:=zaC) (Int.le_refl _) (by omega)
 have hfA:=fr_A (bs:=bs) (last:=last)
 generalize oneW zaC (zai bs 0 last)=X at *
 obtain ⟨x,fx,t,er⟩:=X
 unfold zc5 at HC1
 dsimp only at HC1 hA hI
 generalize x.vn=n at *
 go_enter Tryz.func23,Tryz.ntmps23
 go_upto_region 2 with fail
 obtain ⟨z,hz⟩:∃z,z=w.heap.size+1:=⟨_,rfl⟩
 rw [←hz] at HM ⊢
 obtain ⟨q,hq⟩:∃q,q=w.heap.size:=⟨_,rfl⟩
 rw [←hq] at HM ⊢
 clear hz hq
 generalize World.alloc _ _=W0 at *
 go_wp2_with fail
 refine (HC1.out _ HM.out.bel).mono ?_
 rintro e w1 ⟨rfl,hb1⟩
 have HM1:=Lib.hid (HM.out.next hb1)
 clear hb1 HC1 HM
 by_cases he1:er=0
 case neg =>
   have hR1:R=(er,false):=by rw [HRR.out,hfA (by rw [hA];dsimp only;rw [if_neg (fun h=>he1 h.1)];exact he1),hA];dsimp only;rw [if_neg (fun h=>he1 h.1)]
   obtain ⟨e1,e2⟩:=zds he1
   have HZ:=Lib.hid (HM1.out.put (.int .i64 0) (.int .i64 0) (.string ⟨#[]⟩) (.slice none 0 0) (.bool false) (.string ⟨#[]⟩))
   have HFin:=Lib.hid (zbM.bad (V:=VV) (R:=R) (er:=er) HZ.out.2 he1 (by rw [hR1]) (by rw [hR1];exact .inl he1))
   unfold obC at HFin
   unfold putO at HZ HFin
   obtain ⟨⟨z0,z1,z2,z3,z4,z5⟩,-⟩:=zaJ HM1.out.zer
   obtain ⟨⟨u0,u1,u2,u3,u4,u5⟩,g0,g1,g2,g3,g4,g5⟩:=zaJ HM1.out.res
   have hqz:=HM1.out.ne
   clear HM1 HR0 HVV HRR HNN HLL hA hI hfA hR1 he1 HST hn
   go_wp2_with fail
   go_region
   all_goals
     go_wp2_with fail
     refine bodyPost_ret (zaP rfl _ _ q 56 _ (0,0) _ rfl HZ.out.1 Tryz.underlying56 rfl (by kernel_rfl) _ _ _ rfl rfl rfl) rfl ?_
     exact HFin.out
 subst he1
 by_cases hn1:n<1∨4096<n
 case pos =>
   have hR1:R=(18,false):=by rw [HRR.out,hfA (by rw [hA];dsimp only;rw [if_pos ⟨rfl,hn1⟩];decide),hA];dsimp only;rw [if_pos ⟨rfl,hn1⟩]
   have hd:decide (n<1)=true∨(decide (n<1)=false∧decide (n > 4096)=true):=by
     by_cases h:n<1
     · exact .inl (decide_eq_true h)
     · exact .inr ⟨decide_eq_false h,decide_eq_true (by omega)⟩
   clear hn1
   rcases hd with d1|⟨d1,d2⟩
   all_goals
     have HZ:=Lib.hid (HM1.out.put (.int .i64 0) (.int .i64 0) (.string ⟨#[]⟩) (.slice none 0 0) (.bool false) (.string ⟨#[]⟩))
     have HFin:=Lib.hid (zbM.bad (V:=VV) (R:=R) (er:=18) HZ.out.2 (by decide) (by rw [hR1]) (by rw [hR1];exact .inl (show (18:Int)≠0 by decide)))
     unfold obC at HFin
     unfold putO at HZ HFin
     obtain ⟨⟨z0,z1,z2,z3,z4,z5⟩,-⟩:=zaJ HM1.out.zer
     obtain ⟨⟨u0,u1,u2,u3,u4,u5⟩,g0,g1,g2,g3,g4,g5⟩:=zaJ HM1.out.res
     have hqz:=HM1.out.ne
     clear HM1 HR0 HVV HRR HNN HLL hA hI hfA hR1 HST hn
     go_wp2_with fail
     go_region
     all_goals
       go_wp2_with fail
       refine bodyPost_ret (zaP rfl _ _ q 56 _ (0,0) _ rfl HZ.out.1 Tryz.underlying56 rfl (by kernel_rfl) _ _ _ rfl rfl rfl) rfl ?_
       exact HFin.out
 have d1:decide (n<1)=false:=decide_eq_false (by omega)
 have d2:decide (n > 4096)=false:=decide_eq_false (by omega)
 rw [if_neg (fun h=>hn1 h.2)] at hA
 clear hn1 hfA
 have HC2:=Lib.hid (fun (W:World) (hb:Below w.heap.size w W)=>zeE (HR0.out W hb) (by have:=HNN.out;omega) t last)
 have hB:=(show frB bs last=numS bs last 0 0 (t,0) from by unfold frB;rw [hA]).trans (numS_ok rfl)
 have hI2:=zfi (bs:=bs) (last:=last) (k:=t) (p:=zaC) hI.1 hI.2
 have hfB:=fr_B (bs:=bs) (last:=last)
 dsimp only at hB
 generalize oneW zaC (zai bs t last)=Y at *
 obtain ⟨y,fy,t2,er2⟩:=Y
 unfold zc5 at HC2
 dsimp only at HC2 hB hI2
 generalize y.vn=n2 at *
 clear hI hA
 go_wp2_with fail
 refine (HC2.out _ HM1.out.bel).mono ?_
 rintro e w2 ⟨rfl,hb2⟩
 have HM2:=Lib.hid (HM1.out.next hb2)
 clear hb2 HC2 HM1 d1 d2
 by_cases he2:er2=0
 case neg =>
   have hR1:R=(er2,false):=by rw [HRR.out,hfB (by rw [hB];dsimp only;rw [if_neg (fun h=>he2 h.1)];exact he2),hB];dsimp only;rw [if_neg (fun h=>he2 h.1)]
   obtain ⟨e1,e2⟩:=zds he2
   have HZ:=Lib.hid (HM2.out.put (.int .i64 0) (.int .i64 0) (.string ⟨#[]⟩) (.slice none 0 0) (.bool false) (.string ⟨#[]⟩))
   have HFin:=Lib.hid (zbM.bad (V:=VV) (R:=R) (er:=er2) HZ.out.2 he2 (by rw [hR1]) (by rw [hR1];exact .inl he2))
   unfold obC at HFin
   unfold putO at HZ HFin
   obtain ⟨⟨z0,z1,z2,z3,z4,z5⟩,-⟩:=zaJ HM2.out.zer
   obtain ⟨⟨u0,u1,u2,u3,u4,u5⟩,g0,g1,g2,g3,g4,g5⟩:=zaJ HM2.out.res
   have hqz:=HM2.out.ne
   clear HM2 HR0 HVV HRR HNN HLL hB hI2 hfB hR1 he2 HST hn
   go_wp2_with fail
   go_region
   all_goals
     go_wp2_with fail
     refine bodyPost_ret (zaP rfl _ _ q 56 _ (0,0) _ rfl HZ.out.1 Tryz.underlying56 rfl (by kernel_rfl) _ _ _ rfl rfl rfl) rfl ?_
     exact HFin.out
 subst he2
 by_cases hn2:n2=0
 case neg =>
   have hR1:R=(18,false):=by rw [HRR.out,hfB (by rw [hB];dsimp only;rw [if_pos ⟨rfl,by omega⟩];decide),hB];dsimp only;rw [if_pos ⟨rfl,by omega⟩]
   obtain ⟨e1,e2⟩:=zds hn2
   clear hn2
   have HZ:=Lib.hid (HM2.out.put (.int .i64 0) (.int .i64 0) (.string ⟨#[]⟩) (.slice none 0 0) (.bool false) (.string ⟨#[]⟩))
   have HFin:=Lib.hid (zbM.bad (V:=VV) (R:=R) (er:=18) HZ.out.2 (by decide) (by rw [hR1]) (by rw [hR1];exact .inl (show (18:Int)≠0 by decide)))
   unfold obC at HFin
   unfold putO at HZ HFin
   obtain ⟨⟨z0,z1,z2,z3,z4,z5⟩,-⟩:=zaJ HM2.out.zer
   obtain ⟨⟨u0,u1,u2,u3,u4,u5⟩,g0,g1,g2,g3,g4,g5⟩:=zaJ HM2.out.res
   have hqz:=HM2.out.ne
   clear HM2 HR0 HVV HRR HNN HLL hB hI2 hfB hR1 HST hn
   go_wp2_with fail
   go_region
   all_goals
     go_wp2_with fail
     refine bodyPost_ret (zaP rfl _ _ q 56 _ (0,0) _ rfl HZ.out.1 Tryz.underlying56 rfl (by kernel_rfl) _ _ _ rfl rfl rfl) rfl ?_
     exact HFin.out
 subst hn2
 rw [if_neg (by simp)] at hB
 clear hfB
 have HC3:=Lib.hid (fun (W:World) (hb:Below w.heap.size w W)=>rword_any (HR0.out W hb) (by have:=HNN.out;omega) t2 last kObj)
 have hC:=(show frC bs last=zd6 bs last kObj (t2,0) from by unfold frC;rw [hB]).trans (wordS_ok rfl)
 have hI3:=zfi (bs:=bs) (last:=last) (k:=t2) (p:=zcS kObj) hI2.1 hI2.2
 have hfC:=fr_C (bs:=bs) (last:=last)
 dsimp only at hC
 generalize oneW (zcS kObj) (zai bs t2 last)=Y at *
 obtain ⟨y3,fy3,t3,er3⟩:=Y
 unfold zcV at HC3
 dsimp only at HC3 hC hI3
 clear hI2 hB
 go_wp2_with fail
 refine (HC3.out _ HM2.out.bel).mono ?_
 rintro e w3 ⟨rfl,hb3⟩
 have HM3:=Lib.hid (HM2.out.next hb3)
 clear hb3 HC3 HM2
 by_cases he3:er3=0
 case neg =>
   have hR1:R=(er3,false):=by rw [HRR.out,hfC (by rw [hC];exact he3),hC]
   obtain ⟨e1,e2⟩:=zds he3
   have HZ:=Lib.hid (HM3.out.put (.int .i64 0) (.int .i64 0) (.string ⟨#[]⟩) (.slice none 0 0) (.bool false) (.string ⟨#[]⟩))
   have HFin:=Lib.hid (zbM.bad (V:=VV) (R:=R) (er:=er3) HZ.out.2 he3 (by rw [hR1]) (by rw [hR1];exact .inl he3))
   unfold obC at HFin
   unfold putO at HZ HFin
   obtain ⟨⟨z0,z1,z2,z3,z4,z5⟩,-⟩:=zaJ HM3.out.zer
   obtain ⟨⟨u0,u1,u2,u3,u4,u5⟩,g0,g1,g2,g3,g4,g5⟩:=zaJ HM3.out.res
   have hqz:=HM3.out.ne
   clear HM3 HR0 HVV HRR HNN HLL hC hI3 hfC hR1 he3 HST hn
   go_wp2_with fail
   go_region
   all_goals
     go_wp2_with fail
     refine bodyPost_ret (zaP rfl _ _ q 56 _ (0,0) _ rfl HZ.out.1 Tryz.underlying56 rfl (by kernel_rfl) _ _ _ rfl rfl rfl) rfl ?_
     exact HFin.out
 subst he3
 clear hfC
 have HC4:=Lib.hid (fun (W:World) (hb:Below w.heap.size w W)=>rvalue_any (HR0.out W hb) (by have:=HNN.out;omega) last t3)
 have hD:frD bs last=zbE bs last t3:=by unfold frD;rw [hC];exact valS_ok rfl
 have hI4:=wholeD_in (bs:=bs) (last:=last) hI3.1 hI3.2
 have hfD:=fr_D (bs:=bs) (last:=last)
 generalize zbE bs last t3=Y at *
 obtain ⟨v,t4,er4⟩:=Y
 unfold zb1 pvA at HC4
 dsimp only at HC4 hI4
 clear hI3 hC
 go_wp2_with fail
 refine (HC4.out _ HM3.out.bel).mono ?_
 rintro e w4 ⟨sl,rfl,hx,hb4⟩
 obtain ⟨sa,sc,rfl,-,-,-⟩:=hx.len
 have hb5:=hb4.alloc hb4.size (.cells #[.int .i64 v.kind,.int .i64 v.n,.string (mkB v.s),.slice sa v.l.length sc] 48)
 have HM4:=Lib.hid (HM3.out.next hb5)
 have HK4:=Lib.hid (zac (w:=w4) (b:=w4.heap.size) (.cells #[.int .i64 v.kind,.int .i64 v.n,.string (mkB v.s),.slice sa v.l.length sc] 48) rfl)
 have HX4:=Lib.hid ((IsV.under _ hx).below (zam w4 (.cells #[.int .i64 v.kind,.int .i64 v.n,.string (mkB v.s),.slice sa v.l.length sc] 48)))
 have HQ3:=Lib.hid (zaj HM3.out.res)
 have HQO:=Lib.hid (show ¬q=w4.heap.size from fun h=>by have:=HQ3.out;have:=hb4.size;omega)
 clear hb4 hb5 hx HC4 HM3
 go_upto_region 16 with fail
 obtain ⟨o,ho⟩:∃o,o=w4.heap.size:=⟨_,rfl⟩
 rw [←ho] at HK4 HX4 HQO ⊢
 clear ho
 generalize w4.alloc _=W4 at *
 by_cases he4:er4=0
 case neg =>
   have hR1:R=(er4,false):=by rw [HRR.out,hfD (by rw [hD];exact he4),hD]
   obtain ⟨e1,e2⟩:=zds he4
   have HZ:=Lib.hid (HM4.out.put (.int .i64 0) (.int .i64 0) (.string ⟨#[]⟩) (.slice none 0 0) (.bool false) (.string ⟨#[]⟩))
   have HFin:=Lib.hid (zbM.bad (V:=VV) (R:=R) (er:=er4) HZ.out.2 he4 (by rw [hR1]) (by rw [hR1];exact .inl he4))
   unfold obC at HFin
   unfold putO at HZ HFin
   obtain ⟨⟨z0,z1,z2,z3,z4,z5⟩,-⟩:=zaJ HM4.out.zer
   obtain ⟨⟨u0,u1,u2,u3,u4,u5⟩,g0,g1,g2,g3,g4,g5⟩:=zaJ HM4.out.res
   have hqz:=HM4.out.ne
   clear HM4 HK4 HX4 HQ3 HR0 HVV HRR HNN HLL hD hI4 hfD hR1 he4 HST hn
   go_wp2_with fail
   go_region
   all_goals
     go_wp2_with fail
     refine bodyPost_ret (zaP rfl _ _ q 56 _ (0,0) _ rfl HZ.out.1 Tryz.underlying56 rfl (by kernel_rfl) _ _ _ rfl rfl rfl) rfl ?_
     exact HFin.out
 subst he4
 obtain rfl:VV=v:=by rw [HVV.out,hD]
 clear hfD HVV
 have HC5:=Lib.hid (fun (W:World) (hb:Below w.heap.size w W)=>zbR (HR0.out W hb) (by have:=HNN.out;omega) t4 last)
 have hE:=(show frE bs last=zeb bs last (t4,0) from by unfold frE;rw [hD]).trans (strmS_ok rfl)
 have hI5:=zbe (bs:=bs) (k:=t4) last (hI4.1 rfl).1 (hI4.1 rfl).2
 have hfE:=fr_E (bs:=bs) (last:=last)
 have hfS:=fr_S (bs:=bs) (last:=last)
 dsimp only at hE
 have q1:=zbI (zai bs t4 last).1.s zbN
 have q2:=zbI (zai bs t4 last).1.s zbw
 generalize zai bs t4 last=Y at *
 obtain ⟨y5,f5,t5,er5⟩:=Y
 unfold zax tokN at HC5
 dsimp only at HC5 hE hI5 q1 q2
 have hI44:=hI4.2
 have h0t:=(hI4.1 rfl).1
 clear hI4
 go_wp2_with fail
 refine (HC5.out _ HM4.out.bel).mono ?_
 rintro e w6 ⟨rfl,hb6⟩
 have hb7:=hb6.alloc hb6.size (.cells #[.int .i64 y5.kind,.int .i64 f5,.int .i64 t5,.int .i64 y5.vk,.int .i64 y5.vn,.string (mkB y5.vs),.slice none 0 0,.string (mkB y5.s)] 91)
 have HM7:=Lib.hid (HM4.out.next hb7)
 have HK7:=Lib.hid (zab hb7 HK4.out)
 have HX7:=Lib.hid (HX4.out.below hb7)
 have HT7:=Lib.hid (zac (w:=w6) (b:=w6.heap.size) (.cells #[.int .i64 y5.kind,.int .i64 f5,.int .i64 t5,.int .i64 y5.vk,.int .i64 y5.vn,.string (mkB y5.vs),.slice none 0 0,.string (mkB y5.s)] 91) rfl)
 have HQT:=Lib.hid (show ¬q=w6.heap.size from fun h=>by have:=zaj HM4.out.res;have:=hb6.size;omega)
 clear hb6 hb7 HC5 HM4 HK4 HX4
 go_upto_region 19 with fail
 generalize w6.heap.size=tk at HT7 HQT ⊢
 generalize w6.alloc _=W7 at *
 by_cases he5:er5=0
 case neg =>
   have hS:strE (y5,f5,t5,er5)=er5:=if_pos he5
   rw [hS] at hE
   have hR1:R=(er5,false):=by rw [HRR.out,hfE (by rw [hE];exact decide_eq_false fun h=>he5 h.1),hE]
   obtain ⟨e1,e2⟩:=zds he5
   have HZ:=Lib.hid (HM7.out.put (.int .i64 0) (.int .i64 0) (.string ⟨#[]⟩) (.slice none 0 0) (.bool false) (.string ⟨#[]⟩))
   have HFin:=Lib.hid (zbM.bad (V:=VV) (R:=R) (er:=er5) HZ.out.2 he5 (by rw [hR1]) (by rw [hR1];exact .inl he5))
   unfold obC at HFin
   unfold putO at HZ HFin
   obtain ⟨⟨z0,z1,z2,z3,z4,z5⟩,-⟩:=zaJ HM7.out.zer
   obtain ⟨⟨u0,u1,u2,u3,u4,u5⟩,g0,g1,g2,g3,g4,g5⟩:=zaJ HM7.out.res
   have hqz:=HM7.out.ne
   clear HM7 HK7 HX7 HT7 HQ3 HR0 HRR HNN HLL hD hE hI5 hfE hfS hR1 he5 HST hn hS q1 q2 hI44 h0t
   go_wp2_with fail
   go_region
   all_goals
     go_wp2_with fail
     refine bodyPost_ret (zaP rfl _ _ q 56 _ (0,0) _ rfl HZ.out.1 Tryz.underlying56 rfl (by kernel_rfl) _ _ _ rfl rfl rfl) rfl ?_
     exact HFin.out
 subst he5
 have hS:strE (y5,f5,t5,0)=strT y5:=if_neg (by simp)
 rw [hS] at hE
 unfold strT at hE
 obtain ⟨⟨k0,k1,k2,k3⟩,-⟩:=zae HK7.out
 obtain ⟨⟨t0,t1,t2c,t3c,t4c,t5c,t6c,t7c⟩,-⟩:=zaf HT7.out
 by_cases g0:y5.kind=0
 case pos =>
   rw [if_pos g0] at hE
   have hR1:R=(10,false):=by rw [HRR.out,hfE (by rw [hE];rfl),hE]
   have e1:(y5.kind==0)=true:=by rw [g0];rfl
   clear g0
   have HZ:=Lib.hid (HM7.out.put (.int .i64 0) (.int .i64 0) (.string ⟨#[]⟩) (.slice none 0 0) (.bool false) (.string ⟨#[]⟩))
   have HFin:=Lib.hid (zbM.bad (V:=VV) (R:=R) (er:=10) HZ.out.2 (by decide) (by rw [hR1]) (by rw [hR1];exact .inl (show (10:Int)≠0 by decide)))
   unfold obC at HFin
   unfold putO at HZ HFin
   obtain ⟨⟨z0,z1,z2,z3,z4,z5⟩,-⟩:=zaJ HM7.out.zer
   obtain ⟨⟨u0,u1,u2,u3,u4,u5⟩,g0,g1,g2,g3,g4,g5⟩:=zaJ HM7.out.res
   have hqz:=HM7.out.ne
   clear HM7 HK7 HX7 HT7 HQ3 HR0 HRR HNN HLL hD hE hI5 hfE hfS hR1 HST hn hS q1 q2 hI44 h0t k0 k1 k2 k3 t1 t2c t3c t4c t5c t6c t7c
   generalize y5.kind=yk at *
   go_wp2_with fail
   go_region
   all_goals
     go_wp2_with fail
     refine bodyPost_ret (zaP rfl _ _ q 56 _ (0,0) _ rfl HZ.out.1 Tryz.underlying56 rfl (by kernel_rfl) _ _ _ rfl rfl rfl) rfl ?_
     exact HFin.out
 rw [if_neg g0] at hE
 have e1:(y5.kind==0)=false:=by rw [beq_eq_false_iff_ne];exact g0
 by_cases g6:y5.kind=6
 case neg =>
   rw [if_neg (fun h=>g6 h.1)] at hE
   have hR1:R=(18,false):=by rw [HRR.out,hfE (by rw [hE];rfl),hE]
   have e6:(y5.kind==6)=false:=by rw [beq_eq_false_iff_ne];exact g6
   clear g0 g6
   have HZ:=Lib.hid (HM7.out.put (.int .i64 0) (.int .i64 0) (.string ⟨#[]⟩) (.slice none 0 0) (.bool false) (.string ⟨#[]⟩))
   have HFin:=Lib.hid (zbM.bad (V:=VV) (R:=R) (er:=18) HZ.out.2 (by decide) (by rw [hR1]) (by rw [hR1];exact .inl (show (18:Int)≠0 by decide)))
   unfold obC at HFin
   unfold putO at HZ HFin
   obtain ⟨⟨z0,z1,z2,z3,z4,z5⟩,-⟩:=zaJ HM7.out.zer
   obtain ⟨⟨u0,u1,u2,u3,u4,u5⟩,g0,g1,g2,g3,g4,g5⟩:=zaJ HM7.out.res
   have hqz:=HM7.out.ne
   clear HM7 HK7 HX7 HT7 HQ3 HR0 HRR HNN HLL hD hE hI5 hfE hfS hR1 HST hn hS q1 q2 hI44 h0t k0 k1 k2 k3 t1 t2c t3c t4c t5c t6c
   generalize y5.kind=yk at *
   go_wp2_with fail
   go_region
   all_goals
     go_wp2_with fail
     refine bodyPost_ret (zaP rfl _ _ q 56 _ (0,0) _ rfl HZ.out.1 Tryz.underlying56 rfl (by kernel_rfl) _ _ _ rfl rfl rfl) rfl ?_
     exact HFin.out
 have e6:(y5.kind==6)=true:=by rw [g6];rfl
 by_cases ge:y5.s=zbN
 case pos =>
   have gs:¬y5.s=zbw:=by rw [ge];decide
   rw [if_pos ⟨g6,.inl ge⟩] at hE
   have hR1:R=(0,false):=by rw [HRR.out,hfE (by rw [hE];exact decide_eq_false fun h=>gs h.2),hE]
   have q3:=q1.trans (decide_eq_true ge)
   unfold zbN at q3
   have HZ:=Lib.hid (HM7.out.put (.int .i64 VV.kind) (.int .i64 VV.n) (.string (mkB VV.s)) (.slice sa VV.l.length sc) (.bool false) (.string ⟨#[]⟩))
   have hxz:=zgj (q:=q) HX7.out (fun b hb=>by have h1:=HQ3.out;have h2:w3.heap.size≤b:=hb.1;omega) (.int .i64 VV.kind) (.int .i64 VV.n) (.string (mkB VV.s)) (.slice sa VV.l.length sc) (.bool false) (.string ⟨#[]⟩)
   have HFin:=Lib.hid (zbM.good (R:=R) HZ.out.2 hxz hI44 hR1)
   unfold obC at HFin
   unfold putO at HZ HFin
   obtain ⟨⟨u0,u1,u2,u3,u4,u5⟩,g0,g1,g2,g3,g4,g5⟩:=zaJ HM7.out.res
   have htq:=HQT.out
   have hoq:=HQO.out
   clear HM7 HK7 HX7 HT7 HQ3 HR0 HRR HNN HLL hD hE hI5 hfE hfS hR1 HST hn hS q1 q2 hI44 h0t hxz ge gs
   generalize y5.kind=yk at *
   generalize mkB y5.s=ys at *
   generalize VV.kind=vk at *
   generalize VV.n=vn at *
   generalize mkB VV.s=vs at *
   generalize VV.l.length=vl at *
   go_wp2_with fail
   go_region
   all_goals
     go_wp2_with fail
     refine bodyPost_ret (zaP rfl _ _ q 56 _ (0,0) _ rfl HZ.out.1 Tryz.underlying56 rfl (by kernel_rfl) _ _ _ rfl rfl rfl) rfl ?_
     exact HFin.out _ _
 have q3:=q1.trans (decide_eq_false ge)
 unfold zbN at q3
 by_cases gs:y5.s=zbw
 case neg =>
   rw [if_neg (by rintro ⟨-,h|h⟩;exact ge h;exact gs h)] at hE
   have hR1:R=(18,false):=by rw [HRR.out,hfE (by rw [hE];rfl),hE]
   have q4:=q2.trans (decide_eq_false gs)
   unfold zbw at q4
   clear g0 g6 ge gs
   have HZ:=Lib.hid (HM7.out.put (.int .i64 0) (.int .i64 0) (.string ⟨#[]⟩) (.slice none 0 0) (.bool false) (.string ⟨#[]⟩))
   have HFin:=Lib.hid (zbM.bad (V:=VV) (R:=R) (er:=18) HZ.out.2 (by decide) (by rw [hR1]) (by rw [hR1];exact .inl (show (18:Int)≠0 by decide)))
   unfold obC at HFin
   unfold putO at HZ HFin
   obtain ⟨⟨z0,z1,z2,z3,z4,z5⟩,-⟩:=zaJ HM7.out.zer
   obtain ⟨⟨u0,u1,u2,u3,u4,u5⟩,g0,g1,g2,g3,g4,g5⟩:=zaJ HM7.out.res
   have hqz:=HM7.out.ne
   clear HM7 HK7 HX7 HT7 HQ3 HR0 HRR HNN HLL hD hE hI5 hfE hfS hR1 HST hn hS q1 q2 hI44 h0t k0 k1 k2 k3 t1 t2c t3c t4c t5c t6c
   generalize y5.kind=yk at *
   generalize mkB y5.s=ys at *
   go_wp2_with fail
   go_region
   all_goals
     go_wp2_with fail
     refine bodyPost_ret (zaP rfl _ _ q 56 _ (0,0) _ rfl HZ.out.1 Tryz.underlying56 rfl (by kernel_rfl) _ _ _ rfl rfl rfl) rfl ?_
     exact HFin.out
 have q4:=q2.trans (decide_eq_true gs)
 unfold zbw at q4
 rw [if_pos ⟨g6,.inr gs⟩] at hE
 have hE1:(frE bs last).1=true:=by rw [hE];exact decide_eq_true ⟨rfl,gs⟩
 have hR1:R=((zfu bs last VV t5).2,true):=by rw [HRR.out,hfS hE1,hE,hD]
 have HC6:=Lib.hid (HST hE1 W7 t5 VV (.slice sa VV.l.length sc) _ (HR0.out W7 HM7.out.bel) (by omega) hI5.2 HX7.out hI44)
 unfold RstEnd pvA at HC6
 generalize (zfu bs last VV t5).2=E at *
 have HRE:=Lib.hid hR1
 have HQ7:=Lib.hid (zaj HM7.out.res)
 clear HT7 HR0 HRR HNN HLL hD hE hI5 hfE hfS hR1 HST hn hS q1 q2 hI44 h0t ge gs g0 g6 hE1 HX7 HK7
 generalize y5.kind=yk at *
 generalize mkB y5.s=ys at *
 generalize hvk:VV.kind=vk at *
 generalize hvn:VV.n=vn at *
 generalize hvs:mkB VV.s=vs at *
 generalize hvl:VV.l.length=vl at *
 clear hvk hvn hvs hvl
 go_wp2_with fail
 refine HC6.out.mono ?_
 rintro e w8 ⟨v2,sl2,st2,d2,at2,er2,rfl,hx2,hev2,hb8,hE2,hE3⟩
 obtain ⟨ta,tc,rfl,-,-,-⟩:=hx2.len
 have hb9:=hb8.alloc hb8.size (.cells (obC v2 (.slice ta v2.l.length tc) st2 d2) 56)
 have HM9:=Lib.hid (HM7.out.next hb9)
 have HO9:=Lib.hid (zac (w:=w8) (b:=w8.heap.size) (.cells (obC v2 (.slice ta v2.l.length tc) st2 d2) 56) rfl)
 have HX9:=Lib.hid (hx2.below (zam w8 (.cells (obC v2 (.slice ta v2.l.length tc) st2 d2) 56)))
 have HE2:=Lib.hid hE2
 have HE3:=Lib.hid hE3
 have HEV:=Lib.hid hev2
 have HOQ:=Lib.hid (show ¬q=w8.heap.size from fun h=>by have:=HQ7.out;have:=hb8.size;omega)
 clear hx2 hev2 hb8 hb9 hE2 hE3 HC6 HM7 k0 k1 k2 k3 t0 t1 t2c t3c t4c t5c t6c t7c
 unfold obC at HM9 HO9 HX9 ⊢
 go_upto_region 27 with fail
 obtain ⟨o2,ho2⟩:∃o2,o2=w8.heap.size:=⟨_,rfl⟩
 rw [←ho2] at HO9 HOQ ⊢
 clear ho2
 generalize w8.alloc _=W9 at *
 obtain ⟨⟨o0,o1,p2,p3,p4,p5⟩,-⟩:=zaJ HO9.out
 by_cases he6:er2=0
 case neg =>
   have h66:er2=6↔E=6:=by
     by_cases h:E=0
     · rcases HE3.out h with ⟨h1,-⟩|h1
       · exact absurd h1 he6
       · omega
     · rw [HE2.out h]
   have hR1:=HRE.out
   obtain ⟨e7,e8⟩:=zds he6
   have HZ:=Lib.hid (HM9.out.put (.int .i64 0) (.int .i64 0) (.string ⟨#[]⟩) (.slice none 0 0) (.bool false) (.string ⟨#[]⟩))
   have HFin:=Lib.hid (zbM.bad (V:=VV) (R:=R) (er:=er2) HZ.out.2 he6 (by rw [hR1];exact h66) (by rw [hR1];exact .inr rfl))
   unfold obC at HFin
   unfold putO at HZ HFin
   obtain ⟨⟨z0,z1,z2,z3,z4,z5⟩,-⟩:=zaJ HM9.out.zer
   obtain ⟨⟨u0,u1,u2,u3,u4,u5⟩,g0,g1,g2,g3,g4,g5⟩:=zaJ HM9.out.res
   have hqz:=HM9.out.ne
   clear HM9 HO9 HX9 HE2 HE3 HEV HOQ HRE hR1 he6 h66 HQ7 o0 o1 p2 p3 p4 p5
   go_wp2_with fail
   go_region
   all_goals
     go_wp2_with fail
     refine bodyPost_ret (zaP rfl _ _ q 56 _ (0,0) _ rfl HZ.out.1 Tryz.underlying56 rfl (by kernel_rfl) _ _ _ rfl rfl rfl) rfl ?_
     exact HFin.out
 subst he6
 have hE0:¬E=6:=fun h=>by have:=HE2.out (by omega);omega
 have hst:st2=true:=by
   by_cases h:E=0
   · rcases HE3.out h with ⟨-,h1⟩|h1
     · exact h1
     · omega
   · exact absurd (HE2.out h).symm h
 subst hst
 have HZ:=Lib.hid (HM9.out.put (.int .i64 v2.kind) (.int .i64 v2.n) (.string (mkB v2.s)) (.slice ta v2.l.length tc) (.bool true) (.string d2))
 have hxz:=zgj (q:=q) HX9.out (fun b hb=>by have h1:=HQ3.out;have h4:=HQ7.out;rcases hb with h|h;(have h2:w3.heap.size≤b:=h.1;omega);(have h3:W7.heap.size≤b:=h;omega)) (.int .i64 v2.kind) (.int .i64 v2.n) (.string (mkB v2.s)) (.slice ta v2.l.length tc) (.bool true) (.string d2)
 have HFin:=Lib.hid (zbM.stm (R:=R) (V:=VV) (d:=d2) HZ.out.2 hxz HEV.out HRE.out hE0)
 unfold obC at HFin
 unfold putO at HZ HFin
 obtain ⟨⟨u0,u1,u2,u3,u4,u5⟩,g0,g1,g2,g3,g4,g5⟩:=zaJ HM9.out.res
 have hoq:=HOQ.out
 clear HM9 HO9 HX9 HE2 HE3 HEV HOQ HRE HQ7 HQ3 hxz hE0
 generalize v2.kind=wk at *
 generalize v2.n=wn at *
 generalize mkB v2.s=ws at *
 generalize v2.l.length=wl at *
 go_wp2_with fail
 go_region
 all_goals
   go_wp2_with fail
   refine bodyPost_ret (zaP rfl _ _ q 56 _ (0,0) _ rfl HZ.out.1 Tryz.underlying56 rfl (by kernel_rfl) _ _ _ rfl rfl rfl) rfl ?_
   exact HFin.out _ _
theorem rfind_any {w:World} {F:Nat→Prop} {v:PV} {sl:Value} (h:IsV w F v sl) (hev:v.kind=7→v.l.length % 2=0) (key:List UInt8):Calls Tryz.prog 24 #[pvA v sl,.string (mkB key)] w (zfh w (zcr v key)):=by
 obtain ⟨a,cap,rfl,g1,g2,g3⟩:=h.len
 have hl63:(v.l.length:Int)≤9223372036854775807:=by unfold maxLen at g2;omega
 have HV:=Lib.hid h
 have HNO:=Lib.hid (fun h=>findN_no (v:=v) (key:=key) h)
 have HYE:=Lib.hid (fun h=>findN_yes (v:=v) (key:=key) h)
 obtain ⟨R,hR⟩:∃R,R=zcr v key:=⟨_,rfl⟩
 rw [←hR] at HNO HYE ⊢
 clear hR h g2 g3
 unfold pvA
 obtain ⟨l,hl⟩:∃l,l=v.l:=⟨_,rfl⟩
 rw [←hl] at HV HYE hl63 g1 hev ⊢
 have HL:=Lib.hid hl
 clear hl
 obtain ⟨B,hB⟩:∃B,B=w.heap.size:=⟨_,rfl⟩
 have HB1:=Lib.hid (zam w (.cells #[.int .i64 v.kind,.int .i64 v.n,.string (mkB v.s),.slice a l.length cap] 48))
 have HZ1:=Lib.hid (zac (w:=w) (b:=B) (.cells #[.int .i64 v.kind,.int .i64 v.n,.string (mkB v.s),.slice a l.length cap] 48) hB)
 have HV1:=Lib.hid (HV.out.below HB1.out)
 generalize v.kind=vk at *
 generalize v.n=vn at *
 generalize mkB v.s=vb at *
 go_enter Tryz.func24,Tryz.ntmps24
 go_upto_region 1 with fail
 rw [←hB]
 clear hB HV
 generalize w.alloc _=W1 at *
 obtain ⟨⟨z0,z1,z2,z3⟩,-⟩:=zae HZ1.out
 by_cases h7:vk=7
 case neg =>
   have HR:=Lib.hid (HNO.out h7)
   have e0:(vk==7)=false:=by rw [beq_eq_false_iff_ne];exact h7
   have e1:(vk != 7)=true:=by simp only [bne,e0,Bool.not_false]
   clear h7 HYE HNO hev
   go_wp2_with fail
   go_loop [5] (fun v5=>v5=.int .i64 0) (fun _=>0)
   case atStart=>rfl
   case round =>
   subst hrel
   go_wp2_with fail
   go_ret
   exact ⟨by rw [HR.out];rfl,HB1.out⟩
 have HR:=Lib.hid (HYE.out h7)
 have hl2:=hev h7
 clear hev
 subst h7
 clear HNO HYE
 go_wp2_with fail
 go_loop [5] (fun v5=>∃k:Nat,v5=.int .i64 k∧k≤l.length∧k % 2=0∧Hid (R=(fN key (l.drop k)).map (· + k))) (fun v5=>l.length+2-(intOf v5).toNat)
 case atStart=>exact ⟨0,rfl,by omega,rfl,Lib.hid (by rw [HR.out,List.drop_zero];cases fN key l<;>rfl)⟩
 case round =>
   obtain ⟨k,rfl,hk,hk2,HQ⟩:=hrel
   by_cases hlt:k<l.length
   · have hcd : decide ((k : Int) < (l.length : Int)) = true := decide_eq_true (by omega)
     have hcd2:decide (k<l.length)=true:=decide_eq_true hlt
     have hkb:(k:Int)+2≤9223372036854775807:=by omega
     have hkc:k+2≤l.length:=by omega
     have hv1:=HV1.out
     obtain ⟨-,-,-,b,off,rfl,-,-,hc⟩:=hv1.at (by omega)
     obtain ⟨x,hx⟩:∃x,l[k]?=some x:=⟨_,List.getElem?_eq_getElem hlt⟩
     obtain ⟨slx,-,c0,-,c2,-⟩:=hc k x (by rw [←HL.out];exact hx)
     have HST:=Lib.hid (fN_step (key:=key) hx)
     have hq:((mkB x.s).toList==(mkB key).toList)=decide (x.s=key):=by rw [zaM key];exact zbI x.s key
     clear hv1 hc hx
     by_cases h5:x.kind=5
     case neg =>
       have e0:(x.kind==5)=false:=by rw [beq_eq_false_iff_ne];exact h5
       have HQ2:=Lib.hid (show R=(fN key (l.drop (k+2))).map (· + (k+2)) by rw [HQ.out,HST.out,if_neg (fun h=>h5 h.1),Option.map_map];congr 1;funext q;show q+2+k=q+(k+2);omega)
       clear h5 HST HQ hq
       generalize x.kind=xk at *
       go_wp2_with fail
       go_round
       case rel=>exact ⟨k+2,by go_num,hkc,by omega,HQ2⟩
       case measure=>simp [intOf];omega
     have e0:(x.kind==5)=true:=by rw [beq_iff_eq];exact h5
     by_cases hs:x.s=key
     · have HQ2 := Lib.hid (show R = some k by rw [HQ.out, HST.out, if_pos ⟨h5, hs⟩]; show some (0 + k) = _; rw [Nat.zero_add])
       rw [decide_eq_true hs] at hq
       clear h5 HST HQ hs
       generalize x.kind=xk at *
       generalize mkB x.s=xb at *
       go_wp2_with fail
       go_ret
       exact ⟨by rw [HQ2.out];rfl,HB1.out⟩
     · have HQ2 := Lib.hid (show R = (fN key (l.drop (k + 2))).map (· + (k + 2)) by rw [HQ.out, HST.out, if_neg (fun h => hs h.2), Option.map_map]; congr 1; funext q; show q + 2 + k = q + (k + 2); omega)
       rw [decide_eq_false hs] at hq
       clear h5 HST HQ hs
       generalize x.kind=xk at *
       generalize mkB x.s=xb at *
       go_wp2_with fail
       go_round
       case rel=>exact ⟨k+2,by go_num,hkc,by omega,HQ2⟩
       case measure=>simp [intOf];omega
   · have hcd : decide ((k : Int) < (l.length : Int)) = false := decide_eq_false (by omega)
     have hcd2:decide (k<l.length)=false:=decide_eq_false hlt
     have HQ2:=Lib.hid (show R=none by rw [HQ.out,fN_end (by omega)];rfl)
     clear HQ
     go_wp2_with fail
     go_ret
     exact ⟨by rw [HQ2.out];rfl,HB1.out⟩
theorem rget_any {w:World} {F:Nat→Prop} {v:PV} {sl:Value} (h:IsV w F v sl) (hev:v.kind=7→v.l.length % 2=0) (key:List UInt8):Calls Tryz.prog 26 #[pvA v sl,.string (mkB key)] w (zfE w F (getP (getV v key))):=by
 obtain ⟨a,cap,rfl,g1,g2,g3⟩:=h.len
 have hl63:(v.l.length:Int)≤9223372036854775807:=by unfold maxLen at g2;omega
 have HV:=Lib.hid (IsV.lt _ h)
 have HF:=Lib.hid (fun (W:World) (hb:Below w.heap.size w W)=>rfind_any (h.below hb) hev key)
 obtain ⟨R,hR⟩:∃R,R=zcr v key:=⟨_,rfl⟩
 have HLT := Lib.hid (show ∀ k, R = some k → k < v.l.length from fun k hk => by
   rw [hR] at hk
   unfold zcr at hk
   split at hk
   · exact fN_lt hk
   · cases hk)
 obtain ⟨V,hV⟩:∃V,V=getP (getV v key):=⟨_,rfl⟩
 have HVN:=Lib.hid (show R=none→V=(PV.none,false) from fun h=>by rw [hV];unfold getV;rw [←hR,h];rfl)
 have HVS:=Lib.hid (show ∀k,R=some k→V=(v.l.getD (k+1) PV.none,true) from fun k h=>by rw [hV];unfold getV;rw [←hR,h];rfl)
 rw [←hR] at HF
 rw [←hV]
 clear hR hV h g2 g3
 unfold zfh pvA at HF
 unfold pvA
 obtain ⟨l,hl⟩:∃l,l=v.l:=⟨_,rfl⟩
 clear hev
 rw [←hl] at HV HF HLT HVS hl63 g1 ⊢
 have HL:=Lib.hid hl
 clear hl
 obtain ⟨B,hB⟩:∃B,B=w.heap.size:=⟨_,rfl⟩
 have HB1:=Lib.hid (zcn w (.cells #[.int .i64 v.kind,.int .i64 v.n,.string (mkB v.s),.slice a l.length cap] 48) (.cells #[.int .i64 0,.int .i64 0,.string ⟨#[]⟩,.slice none 0 0] 48))
 have HZ1:=Lib.hid (zao (w:=w.alloc (.cells #[.int .i64 v.kind,.int .i64 v.n,.string (mkB v.s),.slice a l.length cap] 48)) (.cells #[.int .i64 0,.int .i64 0,.string ⟨#[]⟩,.slice none 0 0] 48) (zac (w:=w) (b:=B) (.cells #[.int .i64 v.kind,.int .i64 v.n,.string (mkB v.s),.slice a l.length cap] 48) hB))
 have HY1:=Lib.hid (zac (w:=w.alloc (.cells #[.int .i64 v.kind,.int .i64 v.n,.string (mkB v.s),.slice a l.length cap] 48)) (b:=B+1) (.cells #[.int .i64 0,.int .i64 0,.string ⟨#[]⟩,.slice none 0 0] 48) (by rw [zas,hB]))
 have HW:=Lib.hid (show w.heap.size≤B+1 by omega)
 generalize v.kind=vk at *
 generalize v.n=vn at *
 generalize mkB v.s=vb at *
 go_enter Tryz.func26,Tryz.ntmps26
 go_upto_region 1 with fail
 try rw [←hB]
 generalize World.alloc _ _=W1 at *
 clear hB
 generalize B+1=r at *
 obtain ⟨⟨z0,z1,z2,z3⟩,-⟩:=zae HZ1.out
 go_wp2_with fail
 refine (HF.out _ HB1.out).mono ?_
 rintro e w2 ⟨rfl,hb2⟩
 have HZ2:=Lib.hid (zab hb2 HZ1.out)
 have HY2:=Lib.hid (zab hb2 HY1.out)
 have HB2:=Lib.hid (HB1.out.trans (hb2.mono HB1.out.size))
 have HV2:=Lib.hid (HV.out.below HB2.out)
 clear hb2 HZ1 HY1 HB1 HV HF z0 z1 z2 z3
 obtain ⟨⟨z0,z1,z2,z3⟩,-⟩:=zae HZ2.out
 obtain ⟨⟨y0,y1,y2,y3⟩,f0,f1,f2,f3⟩:=zae HY2.out
 cases R with
 | none =>
   have HE:=Lib.hid (HVN.out rfl)
   clear HVN HVS HLT
   unfold zfb
   go_wp2
   refine bodyPost_ret (zaa rfl _ _ r 48 _ (0,0) _ rfl (by exact set4 HY2.out _ _ _ _) Tryz.underlying48 rfl (by exact zap) _ rfl) rfl ?_
   rw [HE.out]
   exact ⟨_,rfl,IsV.leaf _ _ _ rfl,zad HB2.out HW.out _ _ _ _⟩
 | some k =>
   have hkl:=HLT.out k rfl
   have HE:=Lib.hid (HVS.out k rfl)
   have hd0:decide ((k:Int)<0)=false:=decide_eq_false (by omega)
   clear HVN HVS HLT
   unfold zfb
   simp only
   by_cases hle:k+1=l.length
   · have hq : ((k : Int) + 1 == (l.length : Int)) = true := by rw [beq_iff_eq]; omega
     have hq2:((k:Int)==(l.length:Int)-1)=true:=by rw [beq_iff_eq];omega
     have hg:l.getD (k+1) PV.none=PV.none:=by rw [List.getD_eq_getElem?_getD,List.getElem?_eq_none (by omega)];rfl
     have HE2:=Lib.hid (HE.out.trans (by rw [hg]))
     clear hg HE hle
     go_wp2
     refine bodyPost_ret (zaa rfl _ _ r 48 _ (0,0) _ rfl (by exact set4 HY2.out _ _ _ _) Tryz.underlying48 rfl (by exact zap) _ rfl) rfl ?_
     rw [HE2.out]
     exact ⟨_,rfl,IsV.leaf _ _ _ rfl,zad HB2.out HW.out _ _ _ _⟩
   · have hq : ((k : Int) + 1 == (l.length : Int)) = false := by rw [beq_eq_false_iff_ne]; omega
     have hq2:((k:Int)==(l.length:Int)-1)=false:=by rw [beq_eq_false_iff_ne];omega
     have hk1:k+1<l.length:=by omega
     have hv2:=HV2.out
     obtain ⟨-,-,-,b,off,rfl,-,-,hc⟩:=hv2.at (by omega)
     obtain ⟨x,hx⟩:∃x,l[k+1]?=some x:=⟨_,List.getElem?_eq_getElem hk1⟩
     obtain ⟨slx,hsx,c0,c1,c2,c3⟩:=hc (k+1) x (by rw [←HL.out];exact hx)
     have hg:l.getD (k+1) PV.none=x:=by rw [List.getD_eq_getElem?_getD,hx];rfl
     have HE2:=Lib.hid (HE.out.trans (by rw [hg]))
     obtain ⟨xa,xc,rfl,-,-,-⟩:=hsx.len
     have HSX:=Lib.hid hsx
     have HPA:=Lib.hid (show pvA x (.slice xa x.l.length xc)=.agg #[.int .i64 x.kind,.int .i64 x.n,.string (mkB x.s),.slice xa x.l.length xc] from rfl)
     have HRW:=Lib.hid (zaj HY2.out)
     obtain ⟨j,hj⟩:∃j,j=k+1:=⟨_,rfl⟩
     have hji:(k:Int)+1=(j:Int):=by omega
     rw [←hj] at c0 c1 c2 c3 hk1
     have HJ:=Lib.hid hj
     clear hj hv2 hc hx hg HE hle hsx
     generalize x.kind=xk at *
     generalize x.n=xn at *
     generalize mkB x.s=xb at *
     go_wp2
     refine bodyPost_ret (zaa rfl _ _ r 48 _ (0,0) _ rfl (by exact set4 HY2.out _ _ _ _) Tryz.underlying48 rfl (by exact zap) _ rfl) rfl ?_
     rw [HE2.out]
     refine ⟨.slice xa x.l.length xc,by rw [HPA.out];rfl,?_,zad HB2.out HW.out _ _ _ _⟩
     exact IsV.keep ⟨by rw [zaN];exact Nat.le_refl _,fun b _ hb=>zaO (by have:=HW.out;have:=hb.2;omega) _ _ _ _⟩ (fun b hb=>hb.1) _ HSX.out
theorem intK_is (v:PV) (k:List UInt8):((getP (getV v k)).2&&((getP (getV v k)).1.kind==2))=intK v k:=by
 rw [zfK]
 cases h:(getP (getV v k)).2 with
 | true=>rfl
 | false =>
   unfold intK
   cases hg:getV v k with
   | none=>rfl
   | some x=>rw [hg] at h;cases h
theorem named_is (v:PV) (k:List UInt8):(getP (getV v k)).2=(zcr v k).isSome:=by
 unfold getV
 cases zcr v k<;>rfl
def WhlEnd (w:World) (n:Int) (b:Bool) (e:Ending) (w':World):Prop:=e=.returned (.tuple #[.int .i64 n,.bool b])∧Below w.heap.size w w'
theorem rwhole29 {w:World} {F:Nat→Prop} {v:PV} {sl:Value} (h:IsV w F v sl) (hev:v.kind=7→v.l.length % 2=0) (k:List UInt8):Calls Tryz.prog 25 #[pvA v sl,.string (mkB k)] w (WhlEnd w (intN v k) (intK v k)):=by
 obtain ⟨a,c,rfl,-,-,-⟩:=h.len
 have HG:=Lib.hid (fun W (hb:Below w.heap.size w W)=>rget_any (h.below hb) hev k)
 have HB1:=Lib.hid (zam w (.cells #[.int .i64 v.kind,.int .i64 v.n,.string (mkB v.s),.slice a v.l.length c] 48))
 have HK1:=Lib.hid (zac (w:=w) (b:=w.heap.size) (.cells #[.int .i64 v.kind,.int .i64 v.n,.string (mkB v.s),.slice a v.l.length c] 48) rfl)
 have HI:=Lib.hid (intK_is v k)
 have HN:=Lib.hid (show intN v k=(getP (getV v k)).1.n from rfl)
 generalize intK v k=ik at *
 generalize intN v k=nk at *
 generalize getP (getV v k)=G at *
 obtain ⟨g,is⟩:=G
 unfold zfE at HG
 unfold WhlEnd
 unfold pvA at HG ⊢
 dsimp only at HG HI HN ⊢
 clear h hev
 generalize v.kind=kd at *
 generalize v.n=n at *
 generalize mkB v.s=s at *
 generalize v.l.length=l at *
 generalize mkB k=kb at *
 go_enter Tryz.func25,Tryz.ntmps25
 go_upto_region 1 with fail
 generalize w.heap.size=r at HK1 ⊢
 generalize w.alloc _=W1 at *
 obtain ⟨⟨t0,t1,t2,t3⟩,-⟩:=zae HK1.out
 go_wp2_with fail
 refine (HG.out _ HB1.out).mono ?_
 rintro e w2 ⟨sl2,rfl,hx,hb2⟩
 obtain ⟨ta,tc,rfl,-,-,-⟩:=hx.len
 have HB3:=Lib.hid (HB1.out.trans ((hb2.alloc hb2.size (.cells #[.int .i64 g.kind,.int .i64 g.n,.string (mkB g.s),.slice ta g.l.length tc] 48)).mono HB1.out.size))
 have HK3:=Lib.hid (zac (w:=w2) (b:=w2.heap.size) (.cells #[.int .i64 g.kind,.int .i64 g.n,.string (mkB g.s),.slice ta g.l.length tc] 48) rfl)
 clear hb2 hx t0 t1 t2 t3 HK1 HB1 HG
 go_upto_region 2 with fail
 obtain ⟨o,ho⟩:∃o,o=w2.heap.size:=⟨_,rfl⟩
 rw [←ho] at HK3 ⊢
 clear ho
 generalize w2.alloc _=W3 at *
 obtain ⟨⟨t0,t1,t2,t3⟩,-⟩:=zae HK3.out
 generalize g.kind=gk at *
 generalize g.n=gn at *
 obtain rfl:=HN.out
 cases is with
 | false =>
   have hi:ik=false:=HI.out.symm
   subst hi
   go_quiet (fail)
   go_wp2_with fail
   go_ret2
   exact ⟨rfl,zag HB3.out _⟩
 | true =>
   have hi:=HI.out
   rw [Bool.true_and] at hi
   go_quiet (fail)
   go_wp2_with fail
   go_ret2
   exact ⟨by rw [←hi];rfl,zag HB3.out _⟩
end Go.Proofs.YtkhcjoomijkfbaaGreatDoor
