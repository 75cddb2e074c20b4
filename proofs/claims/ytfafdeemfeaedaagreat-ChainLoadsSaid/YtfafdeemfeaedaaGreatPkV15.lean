/-
  Our texts Cr4 to ArgsC, in one.
-/
import Derived.Test.YtfafdeemfeaedaaGreatPkV14
import Derived.Deep.SlicePairs
import Derived.Lib.SmallJoins
import Derived.ChangeSlices
set_option maxRecDepth 8000
set_option maxHeartbeats 8000000
open Go
variable {A B c2 e f i j k kc m off p r u:Nat} {F S U X:Nat->Prop} {L R T:List (Int×Int)} {x:Int} {W W' W1 W2 w' w0 w1 w2:World} {gv sl v' y0 y1 y2 y3 z:Value} {c:UInt8} {cs xs:List Value} {rd:List Int} {ka sa:Option Addr} {yq:Bool} {t:TypeId}
namespace Go.Proofs.YtfafdeemfeaedaaGreat
open Go.RowKit
theorem ERSec:zc9 Tryz.prog 65 33 (.agg #[.slice none 0 0,.int .i64 0,.int .i64 0,.string ⟨#[]⟩,.slice none 0 0]) 5 80:=⟨Tryz.underlying65,by kernel_rfl,rfl,by omega⟩
theorem EIntC:zc9 Tryz.prog 72 3 (.int .i64 0) 1 8:=⟨Tryz.underlying72,by kernel_rfl,rfl,by omega⟩
theorem SsM.swap {w:World} {Y:Nat->Prop} {l:List Sec} {v:Value} (h:SsM t w W X l cs v) (hX:∀b,b<W.heap.size->Y b->X b):SsM t w W Y l cs v :=
 ⟨h.own,h.hold.ltw.keep (zaK.refl _ _) (fun b hb=>⟨hb.1.1,hb.1.2.1,fun hy=>hb.1.2.2 (hX b hb.2 hy)⟩)⟩
theorem SsM.move {w:World} {Y:Nat->Prop} {l:List Sec} {v:Value} (h:SsM t w W X l cs v) (hk:zaj X W W') (hv:∀b,v.ownBlock=some b->¬X b) (hY:∀b,b<W.heap.size->Y b->X b):SsM t w W' Y l cs v :=
 ⟨zaE h.own (fun b hb=>hk.block b (h.own.lt b hb).2 (hv b hb)),h.hold.ltw.keep ⟨hk.size,fun b hb hF=>hk.block b hb hF.1.2.2⟩ (fun b hb=>⟨hb.1.1,hb.1.2.1,fun hy=>hb.1.2.2 (hY b hb.2 hy)⟩)⟩
def RdM (w W:World) (rd:List Int) (v:Value):Prop:=W.ownsRow w.heap.size 3 1 v rd.length (rd.map (Value.int .i64))
theorem zg4 {w:World} {a:Option Addr} {cap:Nat} {bs:List UInt8} {kn:List Bool} (h:FlM w a cap bs ka kc kn) (hl:bs.length<=390000) (k:Int) :
  Calls Tryz.prog 25 #[.agg #[.slice a bs.length cap,.slice ka bs.length kc],.int .i64 k] w (zfJ w (zcf bs kn 33 [] [] k)):=by
 have HI:=yb h
 obtain ⟨R,hR⟩:∃R,R=zcf bs kn 33 [] [] k:=⟨_,rfl⟩
 have HR:=yb hR
 rw [<-hR]
 clear h hR
 obtain ⟨B,hB⟩:∃B,B=w.heap.size:=⟨_,rfl⟩
 have Qa:=yb (zam w (.cells #[.slice a bs.length cap,.slice ka bs.length kc] 59))
 have QD:=yb (zac (w:=w) (b:=B) (.cells #[.slice a bs.length cap,.slice ka bs.length kc] 59) hB)
 have ZR:=yb (show B<(w.alloc (.cells #[.slice a bs.length cap,.slice ka bs.length kc] 59)).heap.size/\w.heap.size<=(w.alloc (.cells #[.slice a bs.length cap,.slice ka bs.length kc] 59)).heap.size by rw [zan,hB];omega)
 go_enter Tryz.func25,Tryz.ntmps25
 go_upto_region 1 with fail
 try rw [<-hB]
 clear hB
 generalize w.alloc _=W1 at *
 have QS:=yb (SsM.nil 33 W1 W1 (fun b=>Value.ownBlock (.slice none 0 0)=some b))
 have ZS:=yb (show RdM W1 W1 [] (.slice none 0 0) from World.ownsRow_nil _ _ _ _)
 go_wp2_with fail
 go_loopw [1,7,8,9] (fun v1 v7 v8 v9 wr=>∃(rd:List Int) (l:List Sec) (k:Int) (cs:List Value),v1=.int .i64 k/\v9=.int .i64 l.length/\l.length<=32/\Hid (rd.length=l.length)/\Hid (SsM 33 W1 wr (fun b=>v8.ownBlock=some b) l cs v7)/\Hid (RdM W1 wr rd v8)/\Hid (Below W1.heap.size W1 wr)/\Hid (R=zcf bs kn (33-l.length) rd l k)) (fun _ _ _ v9 _=>33-(intOf v9).toNat)
 case atStart=>exact ⟨[],[],k,[],rfl,rfl,by simp,yb rfl,QS,ZS,yb (Below.refl _ _),HR⟩
 case round =>
  obtain ⟨rd,l,k,cs,rfl,rfl,Q8,Zt,QT,QE,HB,HQ⟩:=hrel
  have Z8:rd.length<=32:=by have:=Zt.out;omega
  obtain ⟨sa,sc,rfl,-,-⟩:=zas QT.out.own
  obtain ⟨da,dc,rfl,-,Z9⟩:=zas QE.out
  have HZ:=yb (zab HB.out QD.out)
  have QH:=yb (Qa.out.trans (HB.out.mono Qa.out.size))
  obtain ⟨⟨z0,z1⟩,-⟩:=zaA HZ.out
  obtain ⟨m,hm⟩:∃m,m+1=33-l.length:=⟨32-l.length,by omega⟩
  have hQ:=HQ.out
  rw [<-hm,zei] at hQ
  have HM:=yb hm
  have d0:decide ((l.length:Int)<=32)=true:=yd (by omega)
  have d0n:decide (l.length<=32)=true:=yd Q8
  clear HQ hm
  by_cases h1:k<0
  ·have d1:decide (k<0)=true:=yd h1
   have HV:=yb (hQ.trans (yg (.inl h1)))
   clear hQ
   go_wp2_with fail
   go_ret3
   exact zbU HV.out QH.out
  have d1:decide (k<0)=false:=ye h1
  by_cases h2:(bs.length:Int)<=k
  ·have d2:decide ((bs.length:Int)<=k)=true:=yd h2
   have HV:=yb (hQ.trans (yg (.inr h2)))
   clear hQ
   go_wp2_with fail
   go_ret3
   exact zbU HV.out QH.out
  have d2:decide ((bs.length:Int)<=k)=false:=ye h2
  obtain ⟨K,rfl⟩:∃K:Nat,k=(K:Int):=⟨k.toNat,by omega⟩
  have ZT:K<bs.length:=by omega
  have Zu:=yb ZT
  rw [yh (by rintro (h|h);exact h1 h;exact h2 h),show ((K:Int)).toNat=K from rfl] at hQ
  have HQ:=yb hQ
  have Qt:=yb (Row.of_own QE.out).2
  clear h1 h2 hQ
  go_wp2_with fail
  go_loop [10] (fun v10=>∃j:Nat,v10=.int .i64 j/\j<=rd.length/\Hid (∀i,i<j->rd.getD i 0≠(K:Int))) (fun v10=>rd.length-(intOf v10).toNat)
  case atStart=>exact ⟨0,rfl,by omega,yb (fun i hi=>by omega)⟩
  case round =>
   obtain ⟨j,rfl,hj,QU⟩:=hrel
   by_cases hlt:j<rd.length
   ·have ZU:decide ((j:Int)<(rd.length:Int))=true:=yd (by omega)
    have Q9:decide (j<rd.length)=true:=yd hlt
    have ZV:=Qt.out.2.1
    obtain ⟨b,off,rfl,-,Zv⟩:=Qt.out.at 0 j hlt
    have Ya:=Zv j hlt
    have Za:=yb (show rd.getD j 0=(K:Int)->(K:Int)∈rd from fun e=>by
     rw [<-e,List.getD_eq_getElem?_getD,List.getElem?_eq_getElem hlt];exact List.getElem_mem hlt)
    clear Zv
    generalize hx:rd.getD j 0=x at *
    have HX:=yb hx
    clear hx
    by_cases hxk:x=(K:Int)
    ·subst hxk
     have e0:((K:Int)==(K:Int))=true:=by simp
     have HV:=yb (HQ.out.trans (yg (.inl (Za.out rfl))))
     clear HQ Za
     go_wp2_with fail
     go_ret3
     exact zbU HV.out QH.out
    ·have e0:(x==(K:Int))=false:=by rw [yf];exact hxk
     have Zb:=yb (show ∀i,i<j+1->rd.getD i 0≠(K:Int) from fun i hi=>by
      rcases Nat.lt_or_ge i j with h|h
      ·exact QU.out i h
      ·obtain rfl:i=j:=by omega
       rw [HX.out];exact hxk)
     clear Za QU hxk
     go_wp2_with fail
     go_round
     case rel=>exact ⟨j+1,by go_num,by omega,Zb⟩
     case measure=>simp [intOf];omega
   ·have ZU:decide ((j:Int)<(rd.length:Int))=false:=ye (by omega)
    have Q9:decide (j<rd.length)=false:=ye hlt
    have ZW:=yb (show (K:Int)∉rd from fun hm=>by
     obtain ⟨i,hi,e⟩:=List.getElem_of_mem hm
     refine QU.out i (by omega) ?_
     rw [List.getD_eq_getElem?_getD,List.getElem?_eq_getElem hi]
     exact e)
    clear QU hlt hj
    by_cases h32:l.length=32
    ·have HV:=yb (HQ.out.trans (yg (.inr (by omega))))
     have e0:((l.length:Int)==32)=true:=by rw [beq_iff_eq];omega
     have e1:(l.length==32)=true:=by rw [beq_iff_eq];exact h32
     clear HQ h32
     go_wp2_with fail
     go_ret3
     exact zbU HV.out QH.out
    have e0:((l.length:Int)==32)=false:=by rw [yf];omega
    have e1:(l.length==32)=false:=by rw [yf];exact h32
    have ZX:l.length<32:=by omega
    have hQ:=HQ.out.trans (yh (by rintro (h|h);exact ZW.out h;omega))
    have Zc:=yb (fun (W:World) (hb:Below w.heap.size w W)=>rfrom_any (HI.out.mono hb) Zu.out)
    have Zd:=yb (fun (W:World) (hb:Below w.heap.size w W)=>zdv (HI.out.mono hb) (Nat.le_of_lt Zu.out))
    have QV:=zhi (bs:=(bs.drop K).take (zaU kn K-K)) (yq:=zaU kn K==bs.length)
    have Ze:=yb (show secV ((bs.drop K).take (zaU kn K-K)) (zaU kn K==bs.length) 0=zc8 bs kn K from rfl)
    rw [Ze.out] at QV
    have Qu:=yb (show ((bs.drop K).take (zaU kn K-K)).length<=390000 by rw [List.length_take,ym];omega)
    generalize zc8 bs kn K=S at *
    obtain ⟨s,so,se⟩:=S
    simp only at hQ QV
    unfold zeD at Zc
    generalize zaU kn K=n at *
    generalize (bs.drop K).take (n-K)=xs at *
    generalize (n==bs.length)=lst at *
    have Qv:=yb hQ
    have QW:=yb QV
    clear hQ QV HQ h32
    have Zf:=yb (show ∀u∈[Value.int .i64 (K:Int)],u.oneCell'=true from fun u hu=>by simp at hu;subst hu;rfl)
    have Zw:=yb (show ∀b,Value.ownBlock (.slice sa l.length sc)=some b->¬Value.ownBlock (.slice da rd.length dc)=some b from fun b h1 h2=>by
     obtain ⟨c1,e1⟩:=zaJ QT.out.own h1
     obtain ⟨c2,e2⟩:=zaJ QE.out h2
     exact za4 e1 e2 (by decide) rfl)
    clear z0 z1
    go_wp2_with (at_builtin;go_loud (refine zbT EIntC rfl (.tmp 45) (.tmp 47) rfl W1.heap.size _ rd.length _ rfl (World.ownsRow.alloc QE.out _) _ 1 _ rfl (zcK _ #[.int .i64 (K:Int)] _ 1 rfl rfl) Zf.out (by unfold maxLen;omega) (by omega) (by rw [zan];have:=HB.out.size;omega) ?_);intro v' w8 hO8 hg8 hn8;obtain ⟨ua,uc,rfl,-,-⟩:=zas hO8;have Qw:=yb (QT.out.move (Y:=fun b=>Value.ownBlock (.slice ua (rd.length+1) uc)=some b) (((zaj.refl (fun b=>Value.ownBlock (.slice da rd.length dc)=some b) wr).alloc _).grown hg8 (fun k hk=>.inl hk)) Zw.out (fun b hb hy=>(hn8 b hy).resolve_right (by rw [zan];omega)));have Qn:=yb (show RdM W1 w8 (rd++[(K:Int)]) (.slice ua (rd.length+1) uc) by unfold RdM;rw [List.length_append,List.map_append];exact hO8);have Qf:=yb ((HB.out.alloc HB.out.size _).grown hg8 (by rw [zan];have:=HB.out.size;omega) (fun b hb=>(QE.out.lt b hb).1));have Zx:=yb (zab Qf.out QD.out);have QI:=yb (Qa.out.trans (Qf.out.mono Qa.out.size));clear hO8 hg8 hn8 QT QE HB HZ QH Qt Zw;obtain ⟨⟨z0,z1⟩,-⟩:=zaA Zx.out)
    refine (Zc.out _ QI.out).mono ?_
    rintro e w9 ⟨xa,xc,rfl,Zy,Qd⟩
    have Qh:=yo Qf Qd
    have Qx:=yb (Qw.out.below Qd)
    have QF:=yb (show RdM W1 w9 (rd++[(K:Int)]) (.slice ua (rd.length+1) uc) from zaE Qn.out fun b hb=>Qd.block b (Qn.out.lt b hb).2)
    have Zg:=yb (dparse_any Zy Qu.out 0 lst)
    rw [Ze.out] at Zg
    clear Zc Zy Qd Qf Qw Qn Zx QI z0 z1 Ze Qu
    go_wp2_with fail
    refine Zg.out.mono ?_
    rintro e w3 ⟨gv,sl,rfl,QX,Qg⟩
    obtain ⟨ga,gc,rfl,-,-,-⟩:=QX.1.len
    obtain ⟨ta,tc,rfl,-,-,-⟩:=QX.2.len
    simp only [secA]
    have Qi:=Qg.alloc Qg.size (.cells #[.slice ga s.gs.length gc,.int .i64 s.tr.kind,.int .i64 s.tr.n,.string (mkB s.tr.s),.slice ta s.tr.l.length tc] 33)
    have Qj:=yb (zac (w:=w3) (b:=w3.heap.size) (.cells #[.slice ga s.gs.length gc,.int .i64 s.tr.kind,.int .i64 s.tr.n,.string (mkB s.tr.s),.slice ta s.tr.l.length tc] 33) rfl)
    have Zh:=yb (QX.below (zam w3 (.cells #[.slice ga s.gs.length gc,.int .i64 s.tr.kind,.int .i64 s.tr.n,.string (mkB s.tr.s),.slice ta s.tr.l.length tc] 33)))
    have Qc:=yo Qh Qi
    have QJ:=yb (Qx.out.below Qi)
    have QK:=yb (show RdM W1 (w3.alloc (.cells #[.slice ga s.gs.length gc,.int .i64 s.tr.kind,.int .i64 s.tr.n,.string (mkB s.tr.s),.slice ta s.tr.l.length tc] 33)) (rd++[(K:Int)]) (.slice ua (rd.length+1) uc) from zaE QF.out fun b hb=>Qi.block b (QF.out.lt b hb).2)
    have Qy:=yb (show W1.heap.size<=w9.heap.size/\w9.heap.size<=w3.heap.size/\(∀b,Value.ownBlock (.slice sa l.length sc)=some b->b<w9.heap.size)/\∀b,Value.ownBlock (.slice ua (rd.length+1) uc)=some b->b<w9.heap.size from ⟨Qh.out.size,Qg.size,fun b hb=>(Qx.out.own.lt b hb).2,fun b hb=>(QF.out.lt b hb).2⟩)
    have Qo:=yb (zab Qc.out QD.out)
    have Qk:=yb (Qa.out.trans (Qc.out.mono Qa.out.size))
    clear Qg Qi QX Qx QF Qh Zg
    go_upto_region 18 with fail
    obtain ⟨T,hT⟩:∃T,T=w3.heap.size:=⟨_,rfl⟩
    rw [<-hT] at Qj Qy |-
    clear hT
    generalize World.alloc _ _=W3 at *
    obtain ⟨⟨t0,t1,t2,t3,t4⟩,-⟩:=zbn Qj.out
    obtain ⟨⟨z0,z1⟩,-⟩:=zaA Qo.out
    by_cases he6:se=6
    ·subst he6
     have HV:=yb (Qv.out.trans (yg rfl))
     have ZY:=yb (Zd.out _ Qk.out)
     clear Qv Zd QW
     go_wp2_with fail
     refine ZY.out.mono ?_
     rintro e w5 ⟨rfl,QY⟩
     have ZZ:=yo Qk QY
     clear QY
     go_wp2_with fail
     go_ret3
     exact zbU HV.out ZZ.out
    have QZ:=yb (Qv.out.trans (yh he6))
    have e6:(se==6)=false:=by rw [yf];exact he6
    clear Qv Zd
    by_cases he0:se=0
    case neg =>
     have HV:=yb (QZ.out.trans (yg he0))
     have e00:(se==0)=false:=by rw [yf];exact he0
     have e01:(se != 0)=true:=by simp only [bne,e00,yj]
     clear QZ he0 he6 QW
     go_wp2_with fail
     go_ret3
     exact zbU HV.out Qk.out
    subst he0
    have HV:=yb (QZ.out.trans (yh (fun h=>h rfl)))
    obtain ⟨-,Zz⟩:=QW.out rfl
    have Zi:=yb Zz
    clear QZ QW Zz he6
    have Zj:=yb (show secC s (.slice ga s.gs.length gc) (.slice ta s.tr.l.length tc)=[.slice ga s.gs.length gc,.int .i64 s.tr.kind,.int .i64 s.tr.n,.string (mkB s.tr.s),.slice ta s.tr.l.length tc] from rfl)
    have Z0:=yb (show pvA s.tr (.slice ta s.tr.l.length tc)=.agg #[.int .i64 s.tr.kind,.int .i64 s.tr.n,.string (mkB s.tr.s),.slice ta s.tr.l.length tc] from rfl)
    have Qz:∀u∈secC s (.slice ga s.gs.length gc) (.slice ta s.tr.l.length tc),u.oneCell'=true:=by
     intro u hu
     rw [Zj.out] at hu
     simp at hu
     rcases hu with rfl|rfl|rfl|rfl|rfl<;>rfl
    rw [Zj.out] at Qz
    have Zk:=yb Qz
    have Zl:=yb (fun (W:World) (hx:IsV W (fun b=>w9.heap.size<=b) s.tr (.slice ta s.tr.l.length tc))=>rget_any hx (fun _=>Zi.out) kPrev)
    rw [Z0.out] at Zl
    have QL:=yb (show ∀b,Value.ownBlock (.slice sa l.length sc)=some b->¬Value.ownBlock (.slice ua (rd.length+1) uc)=some b from fun b h1 h2=>by
     obtain ⟨c1,e1⟩:=zaJ QJ.out.own h1
     obtain ⟨c2,e2⟩:=zaJ QK.out h2
     exact za4 e1 e2 (by decide) rfl)
    clear Qz
    generalize hGV:getV s.tr kPrev=GV at *
    clear hGV
    generalize hK1:s.tr.kind=xk at *
    generalize hK2:s.tr.n=xn at *
    generalize hK3:mkB s.tr.s=xb at *
    clear hK1 hK2 hK3 z0 z1
    go_wp2_with (at_builtin;go_loud (refine zbT ERSec rfl (.tmp 69) (.tmp 71) rfl W1.heap.size _ l.length _ rfl (QJ.out.own.alloc _) _ 1 _ rfl (zcK _ #[.slice ga s.gs.length gc,.int .i64 xk,.int .i64 xn,.string xb,.slice ta s.tr.l.length tc] _ 5 rfl rfl) Zk.out (by unfold maxLen;omega) (by omega) (by rw [zan];have:=Qy.out;have:=zai Qj.out;omega) ?_);intro v' w8 hO8 hg8 hn8;obtain ⟨qa,qc,rfl,-,-⟩:=zas hO8;have Qw:=yb (QJ.out.app hg8 Zh.out Qy.out.1 Qy.out.2.2.1 Qy.out.2.2.2 (by rw [Zj.out];exact hO8) hn8);have QA:=yb (zfn hg8 Qy.out.2.2.1);have Zm:=yb (Zh.out.keep QA.out (fun _ h=>h));have Zn:=yb ((QA.out.2 T (zai Qj.out) Qy.out.2.1).trans Qj.out);have Qn:=yb (show RdM W1 w8 (rd++[(K:Int)]) (.slice ua (rd.length+1) uc) from zaE QK.out fun b hb=>(hg8.block b (by rw [zan];have:=(QK.out.lt b hb).2;omega) (fun e=>QL.out b e.symm hb)).trans (zb7 _ _ (QK.out.lt b hb).2));have Qf:=yb ((Qc.out.alloc Qc.out.size _).grown hg8 (by rw [zan];have:=Qc.out.size;omega) (fun b hb=>(QJ.out.own.lt b hb).1));clear hO8 hg8 hn8 QJ Zh Qj QK Qc Qo Qk QL t0 t1 t2 t3 t4;obtain ⟨⟨t0,t1,t2,t3,t4⟩,-⟩:=zbn Zn.out)
    have Q0:=yb (Zl.out _ Zm.out.2)
    clear Zl
    cases GV with
    | none =>
     refine Q0.out.mono ?_
     rintro e w9 ⟨xl,rfl,QM,Qd⟩
     obtain ⟨la,lc,rfl,-,-,-⟩:=QM.len
     simp only [getP,pvA,PV.none]
     have Qh:=yb (Qa.out.trans ((Qf.out.trans (Qd.mono Qf.out.size)).mono Qa.out.size))
     have Qx:=yb (Qw.out.below Qd)
     clear QM Qd Q0 Zm Zn Qn Qf Qw t0 t1 t2 t3 t4
     go_wp2_with fail
     go_ret3
     rw [HV.out]
     exact ⟨_,rfl,((Qx.out.below (zam _ _)).fin.keep (zaK.refl _ _) (fun b hb=>Nat.le_trans ZR.out.2 hb)),Qh.out.alloc Qh.out.size _⟩
    | some v =>
     refine Q0.out.mono ?_
     rintro e w9 ⟨xl,rfl,QM,Qd⟩
     obtain ⟨la,lc,rfl,-,-,-⟩:=QM.len
     simp only [getP,pvA]
     have Ql:=Qd.alloc Qd.size (.cells #[.int .i64 v.kind,.int .i64 v.n,.string (mkB v.s),.slice la v.l.length lc] 27)
     have Z1:=yb (zac (w:=w9) (b:=w9.heap.size) (.cells #[.int .i64 v.kind,.int .i64 v.n,.string (mkB v.s),.slice la v.l.length lc] 27) rfl)
     have Qh:=yo Qf Ql
     have Qx:=yb (Qw.out.below Ql)
     have QF:=yb (show RdM W1 (w9.alloc (.cells #[.int .i64 v.kind,.int .i64 v.n,.string (mkB v.s),.slice la v.l.length lc] 27)) (rd++[(K:Int)]) (.slice ua (rd.length+1) uc) from zaE Qn.out fun b hb=>Ql.block b (Qn.out.lt b hb).2)
     clear QM Qd Ql Q0 Zm Zn Qn Qf Qw t0 t1 t2 t3 t4
     have Qp:=yb (show R=if v.kind≠2 then ([],0,20) else zcf bs kn m (rd++[(K:Int)]) (l++[s]) v.n from HV.out)
     clear HV
     generalize v.kind=vk at *
     generalize v.n=vn at *
     generalize mkB v.s=vb at *
     go_upto_region 24 with fail
     generalize w9.heap.size=Y at *
     generalize World.alloc _ _=W9 at *
     obtain ⟨⟨y0,y1,y2,y3⟩,-⟩:=zaf Z1.out
     by_cases hk2:vk=2
     case neg =>
      have Zo:=yb (Qp.out.trans (yg hk2))
      have e00:(vk==2)=false:=by rw [yf];exact hk2
      have e01:(vk != 2)=true:=by simp only [bne,e00,yj]
      have Z2:=yb (Qa.out.trans (Qh.out.mono Qa.out.size))
      clear hk2
      go_wp2_with fail
      go_ret3
      exact zbU Zo.out Z2.out
     subst hk2
     have Zo:=yb (Qp.out.trans (yh (fun h=>h rfl)))
     have Qu:=yb (show (l++[s]).length=l.length+1 by simp)
     clear Qp
     go_wp2_with fail
     go_roundw
     case rel=>exact ⟨rd++[(K:Int)],l++[s],vn,_,rfl,by rw [Qu.out];go_num,by rw [Qu.out];omega,yb (by rw [Qu.out,List.length_append,Zt.out];rfl),Qx,QF,Qh,yb (by rw [Zo.out,Qu.out,show 33-(l.length+1)=m by have:=HM.out;omega])⟩
     case measure=>simp [intOf];omega
theorem rload_any {w:World} {a:Option Addr} {cap:Nat} {bs:List UInt8} {kn:List Bool} (h:FlM w a cap bs ka kc kn) (hl:bs.length<=390000):Calls Tryz.prog 37 #[.agg #[.slice a bs.length cap,.slice ka bs.length kc]] w (zgK w (loadV bs kn)):=by
 have HI:=yb h
 have HS:=yb (fun (W:World) (hb:Below w.heap.size w W)=>rstart_any (h.mono hb) hl)
 have HQ:=yb (fun (W:World) (hb:Below w.heap.size w W) (k:Int)=>zg4 (h.mono hb) hl k)
 obtain ⟨ZA,ZB⟩:=ze9 (bs:=bs) (kn:=kn) 33 [] [] (zbj bs kn).1 (fun x hx=>(by cases hx)) (fun x hx=>(by cases hx))
 have HG:=yb (And.intro ZA ZB)
 obtain ⟨V,hV⟩:∃V,V=loadV bs kn:=⟨_,rfl⟩
 rw [<-hV]
 rw [loadV_def] at hV
 have HV:=yb hV
 unfold zeW at HS
 clear h hV ZA ZB
 generalize zbj bs kn=A at *
 obtain ⟨sa,sn,se⟩:=A
 simp only at HV HS HG
 have Q1:=yb (fun (W:World) (hb:Below w.heap.size w W)=>HQ.out W hb sa)
 clear HQ
 generalize zcf bs kn 33 [] [] sa=D at *
 obtain ⟨l,ln,le⟩:=D
 unfold zfJ at Q1
 simp only at HV Q1 HG
 obtain ⟨B,hB⟩:∃B,B=w.heap.size:=⟨_,rfl⟩
 have Qa:=yb (zbm w (.cells #[.slice a bs.length cap,.slice ka bs.length kc] 59) (.cells #[.slice none 0 0,.int .i64 0] 78))
 have Zp:=yb (zak (w:=w.alloc (.cells #[.slice a bs.length cap,.slice ka bs.length kc] 59)) (.cells #[.slice none 0 0,.int .i64 0] 78) (zac (w:=w) (b:=B) (.cells #[.slice a bs.length cap,.slice ka bs.length kc] 59) hB))
 have QD:=yb (zac (w:=w.alloc (.cells #[.slice a bs.length cap,.slice ka bs.length kc] 59)) (b:=B+1) (.cells #[.slice none 0 0,.int .i64 0] 78) (by rw [zan,hB]))
 have Q2:=yb (show w.heap.size<=B+1 by omega)
 go_enter Tryz.func37,Tryz.ntmps37
 go_upto_region 1 with fail
 try rw [<-hB]
 generalize World.alloc _ _=W1 at *
 clear hB
 generalize B+1=r at *
 obtain ⟨⟨f0,f1⟩,-⟩:=zaA Zp.out
 have QS:=yb (HS.out _ Qa.out)
 clear HS
 go_wp2_with fail
 refine QS.out.mono ?_
 rintro e w2 ⟨rfl,QG⟩
 have Q3:=yb (zab QG QD.out)
 have ZC:=yb (zab QG Zp.out)
 have Qq:=yo Qa QG
 clear QG QD Qa QS Zp f0 f1
 obtain ⟨⟨f0,f1⟩,-⟩:=zaA ZC.out
 obtain ⟨⟨z0,z1⟩,y0,y1⟩:=zaA Q3.out
 by_cases hse:se=0
 case neg =>
  have HE:=yb (HV.out.trans (yg hse))
  have e0:(se==0)=false:=by rw [yf];exact hse
  have e1:(se != 0)=true:=by simp only [bne,e0,yj]
  clear hse HV HG
  go_wp2_with fail
  refine yi (zae rfl _ _ r 78 _ (0,0) _ rfl (by exact zbW Q3.out _ _) Tryz.underlying78 rfl (by exact zbV) _ _ rfl rfl) rfl ?_
  exact zhm HE.out Qq.out Q2.out _ _
 subst hse
 have Qp:=yb (HV.out.trans (yh (fun h=>h rfl)))
 have Qv:=yb (Q1.out _ Qq.out)
 clear HV Q1
 go_wp2_with fail
 refine Qv.out.mono ?_
 rintro e w3 ⟨lv,rfl,Zq,Qg⟩
 obtain ⟨la,lc,rfl,-,-,-⟩:=Zq.len
 have Qo:=yb (zab Qg Q3.out)
 have Qc:=yo Qq Qg
 have HO:=yb (rof_any Zq HG.out.1 HG.out.2)
 clear Qg Q3 Qq Qv z0 z1 y0 y1 Zq HG ZC f0 f1
 obtain ⟨⟨z0,z1⟩,y0,y1⟩:=zaA Qo.out
 by_cases hle:le=0
 case neg =>
  have HE:=yb (Qp.out.trans (yg hle))
  have e0:(le==0)=false:=by rw [yf];exact hle
  have e1:(le != 0)=true:=by simp only [bne,e0,yj]
  clear hle Qp HO
  go_wp2_with fail
  refine yi (zae rfl _ _ r 78 _ (0,0) _ rfl (by exact zbW Qo.out _ _) Tryz.underlying78 rfl (by exact zbV) _ _ rfl rfl) rfl ?_
  exact zhm HE.out Qc.out Q2.out _ _
 subst hle
 have HE:=yb (Qp.out.trans (yh (fun h=>h rfl)))
 clear Qp
 generalize tabV l=T at *
 obtain ⟨⟨ps,root⟩,te⟩:=T
 unfold OfEnd at HO
 simp only at HE HO
 go_wp2_with fail
 refine HO.out.mono ?_
 rintro e w4 ⟨pa,pc,rfl,Zr,ZD,QN⟩
 have Qb:=QN.alloc QN.size (.cells #[.slice pa ps.length pc,.int .i64 root] 78)
 have Q4:=yb (zac (w:=w4) (b:=w4.heap.size) (.cells #[.slice pa ps.length pc,.int .i64 root] 78) rfl)
 have ZE:=yb (zab Qb Qo.out)
 have Q5:=yo Qc Qb
 have Q6:=yb (Zr.mono (zam w4 (.cells #[.slice pa ps.length pc,.int .i64 root] 78)))
 have ZF:=yb (show ∀x,pa=some x->w.heap.size<=x.block/\x.block≠r from fun x hx=>by have h1:=ZD x hx;have h2:=Qc.out.size;have h3:=zai Qo.out;omega)
 clear QN Qb Qo Qc HO z0 z1 y0 y1 ZD
 go_upto_region 8 with fail
 generalize w4.heap.size=T4 at *
 generalize World.alloc _ _=W4 at *
 obtain ⟨⟨z0,z1⟩,y0,y1⟩:=zaA ZE.out
 obtain ⟨⟨t0,t1⟩,-⟩:=zaA Q4.out
 go_wp2_with fail
 refine yi (zae rfl _ _ r 78 _ (0,0) _ rfl (by exact zbW ZE.out _ _) Tryz.underlying78 rfl (by exact zbV) _ _ rfl rfl) rfl ?_
 rw [HE.out]
 refine ⟨pa,pc,rfl,?_,fun x hx=>(ZF.out x hx).1,(Q5.out.setCell (p:=⟨r,0,none⟩) Q2.out _).setCell (p:=⟨r,1,none⟩) Q2.out _⟩
 exact Q6.out.stays (F:=fun b=>b≠r) ⟨by simp [World.setCell],fun b _ hb=>by rw [heap_setCell_other _ _ _ _ hb,heap_setCell_other _ _ _ _ hb]⟩ (fun _ x hx=>(ZF.out x hx).2)
theorem law_cloads {a:Option Addr} {cap n sc:Nat} {bs:List UInt8} (w:World) (hr:Row w 1 a bs.length cap (bs.map u8C)) (hs:SRow w sa n sc L) :
  Calls Tryz.prog 8 #[.slice a bs.length cap,.slice sa n sc] w (PlEndX w):=by
 have hi:=hr.i64
 have HW:=yb (fun W=>works17 W)
 by_cases hbig:800<bs.length
 ·have QG:decide (800<bs.length)=true:=yd hbig
  have Qg:decide ((800:Int)<bs.length)=true:=yd (by omega)
  clear hr hs hbig
  go_enter Tryz.func8,Tryz.ntmps8
  go_wp2_with (go_at_call 19;refine (HW.out _).mono ?_;rintro e w' ⟨rfl,hb⟩)
  go_ret
  exact ⟨rfl,hb⟩
 have QG:decide (800<bs.length)=false:=ye hbig
 have Qg:decide ((800:Int)<bs.length)=false:=ye (by omega)
 by_cases hbn:30<n
 ·have QN:decide (30<n)=true:=yd hbn
  have QY:decide ((30:Int)<n)=true:=yd (by omega)
  clear hr hs hbig hbn
  go_enter Tryz.func8,Tryz.ntmps8
  go_wp2_with (go_at_call 19;refine (HW.out _).mono ?_;rintro e w' ⟨rfl,hb⟩)
  go_ret
  exact ⟨rfl,hb⟩
 have QN:decide (30<n)=false:=ye hbn
 have QY:decide ((30:Int)<n)=false:=ye (by omega)
 have ZG:bs.length<=800:=by omega
 have ZH:=yb (sparse_any hr ZG hs (by omega))
 have ZI:=yb (fun (W:World) (hb:Below w.heap.size w W)=>rsparse_any (hr.mono hb) ZG (hs.mono hb) (by omega))
 generalize knL bs.length L=kn at *
 have QA:=yb (fun (W:World) (p:Nat) (h:SrcI W p bs kn)=>load_any h (by omega))
 have Q7:=yb (fun (W:World) (ka:Option Addr) (kc:Nat) (h:FlM W a cap bs ka kc kn)=>rload_any h (by omega))
 generalize loadV bs kn=V at *
 clear hr hs hbig hbn
 obtain ⟨⟨ps,root⟩,y,z⟩:=V
 unfold zgK at QA Q7
 simp only at QA Q7
 have Yb:(y==y)=true:=by simp
 have Yc:(z==z)=true:=by simp
 go_enter Tryz.func8,Tryz.ntmps8
 go_wp2_with fail
 refine ZH.out.mono ?_
 rintro e w1 ⟨p,U,rfl,hK,ZJ⟩
 have Qa:=yb ZJ
 have ZK:=yb (QA.out _ _ hK.srcI)
 clear hK ZJ ZH QA
 go_wp2_with fail
 refine ZK.out.mono ?_
 rintro e w2 ⟨pa,pc,rfl,Qr,-,QB⟩
 have QO:=QB.alloc QB.size (.cells #[.slice pa ps.length pc,.int .i64 root] 74)
 have ZL:=yb (zac (w:=w2) (b:=w2.heap.size) (.cells #[.slice pa ps.length pc,.int .i64 root] 74) rfl)
 have ZM:=yb (Qr.mono (zam w2 (.cells #[.slice pa ps.length pc,.int .i64 root] 74)))
 have Qq:=yo Qa QO
 have QP:=yb (ZI.out _ Qq.out)
 clear QB QO ZK Qa ZI Qr
 go_upto_region 4 with fail
 generalize w2.heap.size=T at *
 generalize World.alloc _ _=W2 at *
 go_wp2_with fail
 refine QP.out.mono ?_
 rintro e w3 ⟨ka,kc,rfl,hF,Qm⟩
 have Qc:=yo Qq Qm
 have Qj:=yb (zab Qm ZL.out)
 have ZN:=yb (ZM.out.mono Qm)
 have ZO:=yb (Q7.out _ _ _ hF)
 clear Qm hF QP Qq Q7 ZL ZM
 go_wp2_with fail
 refine ZO.out.mono ?_
 rintro e w4 ⟨qa,qc,rfl,Qs,-,QC⟩
 have Qb:=QC.alloc QC.size (.cells #[.slice qa ps.length qc,.int .i64 root] 78)
 have ZP:=yb (zac (w:=w4) (b:=w4.heap.size) (.cells #[.slice qa ps.length qc,.int .i64 root] 78) rfl)
 have ZQ:=yb (Qs.mono (zam w4 (.cells #[.slice qa ps.length qc,.int .i64 root] 78)))
 have Q4:=yb (zab Qb Qj.out)
 have Q6:=yb (ZN.out.mono Qb)
 have Q5:=yo Qc Qb
 clear QC Qb Qs ZO Qc Qj ZN
 go_upto_region 5 with fail
 generalize w4.heap.size=Q at *
 generalize World.alloc _ _=W4 at *
 obtain ⟨⟨t0,t1⟩,-⟩:=zaA Q4.out
 obtain ⟨⟨q0,q1⟩,-⟩:=zaA ZP.out
 have u0:=zbE.cell t0
 have u1:=zbE.cell t1
 have v0:=zbE.cell q0
 have v1:=zbE.cell q1
 have HS:=yb (fun p:zbE W4=>tsame_eq (Q6.out.mono p.h) (ZQ.out.mono p.h) root)
 have Z3:=yb (fun p:zbE W4=>table_any pa ps.length pc root p.w)
 clear t0 t1 q0 q1 Q6 ZQ Q4 ZP
 generalize ps.length=pl at *
 refine zck (by kernel_rfl) (by kernel_rfl) ?_
 repeat (go_big_quiet_step ((first
  |(go_at_call 35;with_reducible exact Calls.below_of (Z3.out _))
  |(go_at_call 34;with_reducible exact Calls.below_of (HS.out _))
  |(go_at_call 19;with_reducible exact Calls.below_of (HW.out _)))))
 refine wpQuiet_nil ?_
 rintro _ ⟨⟨w6,Z4⟩,rfl⟩
 go_wp2
 go_ret
 exact ⟨rfl,Q5.out.trans (Z4.mono Q5.out.size)⟩
end Go.Proofs.YtfafdeemfeaedaaGreat
namespace Go.Proofs.YtfafdeemfeaedaaGreat
open Go.RowKit Go.Sort Go.ChangeShapes Go.WideShapes Go.Joins Go.Deep
theorem bd_i64 {n:Int} (h:(Lit.int .i64 n).wf=true):-9223372036854775808<=n/\n<=9223372036854775807:=by
 simp [Lit.wf,IntKind.min,IntKind.max,IntKind.signed,IntKind.bits] at h;omega
section
variable {H : Type} {enc : TypeId × Value -> H} {w : World} {base : Nat} {spare : Nat -> Bool} {held : Bool}
theorem span_slice {a:Option Addr} {n cap:Nat} {d:DataW H} {p:List MemPlace} (h:DataW.Trod enc Tryz.prog w base spare held 50 (.slice a n cap) d p):∃l:List (Int×Int),SRow w a n cap l/\Fit l:=by
 obtain ⟨fuel,hf⟩:=h
 rcases open_slice_pairs Tryz.underlying50 Tryz.underlying129 (by kernel_rfl) rfl rfl (by kernel_rfl) (by kernel_rfl) hf with ⟨Qe,_⟩|⟨x,l,c,m,k,V0,V1,D0,D1,P0,P1,Qe,_,hl,hm,Z5,_,hc⟩
 ·simp [Value.cells] at Qe
  obtain ⟨rfl,rfl,rfl⟩:=Qe
  exact ⟨[],Row.nil w 2,fun x hx=>(by cases hx)⟩
 ·simp [Value.cells] at Qe
  obtain ⟨rfl,rfl,rfl⟩:=Qe
  have Yd:n<=m:=by rw [Z5];split<;>omega
  have each:∀i,i<n->∃q:Int×Int,w.cell? (x.add (i*2))=some (.int .i64 q.1)/\w.cell? (x.add (i*2+1))=some (.int .i64 q.2)/\(-9223372036854775808<=q.1/\q.1<=9223372036854775807)/\(-9223372036854775808<=q.2/\q.2<=9223372036854775807):=fun i hi=>by
   obtain ⟨e0,e1,t0,t1⟩:=hc i (by omega)
   obtain ⟨z0,h0,_,w0⟩:=DataW.trod_int Tryz.underlying3 t0
   obtain ⟨z1,h1,_,w1⟩:=DataW.trod_int Tryz.underlying3 t1
   simp at h0 h1
   exact ⟨(z0,z1),by rw [e0,h0],by rw [e1,h1],bd_i64 w0,bd_i64 w1⟩
  obtain ⟨f,hf⟩:=choose_lt each
  refine ⟨(List.range n).map f,⟨by rw [zbS];simp,hl,hm,fun h=>(by cases h),fun hn=>?_⟩,fun z hz=>?_⟩
  ·have h0:=(hf 0 (by omega)).1
   have hb:=World.block_lt_of_cell? w _ h0
   obtain ⟨b,off,spot⟩:=x
   have QQ:spot=none:=by simpa [Addr.add] using World.cell?_spot h0
   subst QQ
   refine ⟨b,off,rfl,by simpa [Addr.add] using hb,fun j u hj=>?_⟩
   have Z6:j<((List.range n).map f).length*2:=by
    have:=(List.getElem?_eq_some_iff.1 hj).1
    rwa [zbS] at this
   simp at Z6
   have hi:j / 2<n:=by omega
   obtain ⟨g0,g1⟩:=zhn ((List.range n).map f) (j / 2) (by simpa using hi)
   have hg:((List.range n).map f).getD (j / 2) (0,0)=f (j / 2):=by simp [List.getD,hi]
   rw [hg] at g0 g1
   obtain ⟨e0,e1,_⟩:=hf (j / 2) hi
   by_cases hp:j % 2=0
   ·have Zs:2*(j / 2)=j:=by omega
    rw [Zs] at g0
    rw [show j / 2*2=j from by omega,Addr.add_lit] at e0
    rw [e0,<-hj,g0]
   ·have Zs:2*(j / 2)+1=j:=by omega
    rw [Zs] at g1
    rw [show j / 2*2+1=j from by omega,Addr.add_lit] at e1
    rw [e1,<-hj,g1]
  ·obtain ⟨i,hi,rfl⟩:=List.mem_map.1 hz
   obtain ⟨_,_,b0,b1⟩:=hf i (List.mem_range.1 hi)
   exact ⟨b0.1,b0.2,b1.1,b1.2⟩
end
end Go.Proofs.YtfafdeemfeaedaaGreat
namespace Go.Proofs.YtfafdeemfeaedaaGreat
open Go.RowKit Go.ChangeShapes Go.WideShapes
theorem byte_slice {H:Type} {enc:TypeId×Value->H} {w:World} {a:Option Addr} {n cap:Nat} {d:DataW H} {p:List MemPlace} (h:DataW.Trod enc Tryz.prog w 0 (fun _=>true) true 22 (.slice a n cap) d p) :
  ∃bs:List UInt8,bs.length=n/\Row w 1 a bs.length cap (bs.map u8C):=by
 obtain ⟨fuel,hf⟩:=h
 rcases open_ints Tryz.underlying22 Tryz.underlying5 (by kernel_rfl) hf with ⟨Qe,_⟩|⟨x,l,c,zs,Qe,_,hl,hm,hz,_,QR,Z7⟩
 ·simp [Value.cells] at Qe
  obtain ⟨rfl,rfl,rfl⟩:=Qe
  exact ⟨[],rfl,Row.nil w 1⟩
 ·simp [Value.cells] at Qe
  obtain ⟨rfl,rfl,rfl⟩:=Qe
  exact row_bytes (w:=w) (a:=some x) (len:=n) (cap:=cap) (zs:=zs) (.inr ⟨x,rfl,hl,hm,by simpa using hz,QR,Z7⟩)
end Go.Proofs.YtfafdeemfeaedaaGreat
