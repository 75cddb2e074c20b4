/-
  Our texts Cr2 to ArgsC, in one.
-/
import Derived.Test.YtfafdeemfeaedaaGreatPkZ13
import Derived.Deep.SlicePairs
import Derived.Lib.SmallJoins
import Derived.ChangeSlices
set_option maxRecDepth 8000
set_option maxHeartbeats 8000000
namespace Go.Proofs.YtfafdeemfeaedaaGreat
open Go.RowKit
theorem slice_tail {W:World} {a:Option Addr} {cap:Nat} {bs:List UInt8} (hr:Row W 1 a bs.length cap (bs.map u8C)) {l:Nat} (hl:l≤bs.length) :
   ∃a' c',(∀W':World,(Instr.slice 22 (.slice a bs.length cap) (some (.int .i64 (l:Int))) none none).run Tryz.prog W'=.ok (.slice a' (bs.drop l).length c') W')∧Row W 1 a' (bs.drop l).length c' ((bs.drop l).map u8C):=by
 have hcp:=hr.2.1
 have hcm:=hr.2.2.1
 rcases Nat.lt_or_ge l bs.length with h|h
 · obtain ⟨b,o,rfl,-,-⟩:=hr.at 0 l h
   refine ⟨some ⟨b,o+l,none⟩,cap-l,fun W'=>?_,?_⟩
   · rw [List.length_drop]
     exact zfy W' b o bs.length cap l (bs.length-l) (by omega) (by omega) hcp
   · have:=zeR hr l (bs.length-l) (by omega)
     rw [List.take_of_length_le (by rw [List.length_drop];omega)] at this
     rw [List.length_drop]
     exact this
 · obtain rfl:l=bs.length:=by omega
   have ht':Tryz.prog.underlying 22=some (.slice (Tryz.prog.elem 22)):=by simp [Program.elem,Tryz.underlying22]
   have he:Tryz.prog.elem 22=5:=by simp [Program.elem,Tryz.underlying22]
   have hd:bs.drop bs.length=[]:=List.drop_length ..
   have hrun:∀W':World,∃a',(Instr.slice 22 (.slice a bs.length cap) (some (.int .i64 (bs.length:Int))) none none).run Tryz.prog W'=.ok (.slice a' 0 (cap-bs.length)) W'∧(a'=none→a=none)∧∀W'',(Instr.slice 22 (.slice a bs.length cap) (some (.int .i64 (bs.length:Int))) none none).run Tryz.prog W''=.ok (.slice a' 0 (cap-bs.length)) W'':=by
     intro W'
     have hgen:∀W'':World,(Instr.slice 22 (.slice a bs.length cap) (some (.int .i64 (bs.length:Int))) none none).run Tryz.prog W''=.ok (.slice (if cap=bs.length then a else a.map fun x=>x.add (bs.length * 1)) 0 (cap-bs.length)) W'':=fun W''=>by
       rw [run_slice_l W'' 22 _ _ _ ht' .i64 _ (by omega) (by omega),he,szByte]
       cases a with
       | none =>
         simp [Result.andThen,sliced]
       | some x =>
         by_cases hc:cap=bs.length
         · simp [Result.andThen,sliced,hc]
         · simp [Result.andThen,sliced,hc]
     refine ⟨_,hgen W',fun h=>?_,hgen⟩
     split at h
     · exact h
     · cases a with
       | none=>rfl
       | some x=>cases h
   obtain ⟨a',-,hn,hall⟩:=hrun W
   refine ⟨a',cap-bs.length,fun W'=>by rw [hd];exact hall W',?_⟩
   rw [hd]
   exact ⟨rfl,Nat.zero_le _,by show cap-bs.length≤maxLen;omega,fun h=>by have:=hr.2.2.2.1 (hn h);omega,fun h=>absurd h (Nat.lt_irrefl _)⟩
def lastUp (w b:List UInt8):Nat→Option Nat
 | 0=>none
 | k+1=>zcZ w b k
theorem lastUp_go {w b:List UInt8} {k:Nat}:lastUp w b (k+1)=if (b.drop k).take w.length=w then some k else lastUp w b k:=by
 cases k with
 | zero=>rfl
 | succ k=>rfl
theorem lastUp_end {w b:List UInt8} {k:Nat} (h:k=0∨k+w.length≤b.length+1) (h2:¬k+w.length≤b.length) (_hw:0<w.length):zcu w b=lastUp w b k:=by
 unfold zcu
 rcases h with rfl|h
 · rw [if_pos (by omega)];rfl
 · cases k with
   | zero=>rw [if_pos (by omega)];rfl
   | succ k=>rw [if_neg (by omega),show b.length-w.length=k by omega];rfl
theorem rstart_any {w:World} {a:Option Addr} {cap:Nat} {bs:List UInt8} {ka:Option Addr} {kc:Nat} {kn:List Bool} (h:FlM w a cap bs ka kc kn) (hl:bs.length≤390000) :
   Calls Tryz.prog 22 #[.agg #[.slice a bs.length cap,.slice ka bs.length kc]] w (zgb w (zbh bs kn)):=by
 obtain ⟨fr,hfr⟩:∃fr,fr=bs.length-64:=⟨_,rfl⟩
 have HN:=Lib.hid (fun (W:World) (hb:Below w.heap.size w W)=>rnext16_any (h.mono hb) (k:=fr) (by omega))
 obtain ⟨n1,n2⟩:=zdC (kn:=kn) (a:=fr) (by have:=h.len;omega)
 rw [h.len] at n2
 have HS1:=Lib.hid (fun h=>zeC (bs:=bs) (kn:=kn) h)
 have HS2:=Lib.hid (fun h hk=>ze5 (bs:=bs) (kn:=kn) h hk)
 have HS3:=Lib.hid (fun k h hk=>zeF (bs:=bs) (kn:=kn) h (k:=k) hk)
 rw [←hfr] at HS1 HS2 HS3
 obtain ⟨V,hV⟩:∃V,V=zbh bs kn:=⟨_,rfl⟩
 rw [←hV] at HS1 HS2 HS3 ⊢
 obtain ⟨ta,tc,hsl,htr⟩:=slice_tail h.row (l:=fr) (by omega)
 have HSL:=Lib.hid hsl
 have HTR:=Lib.hid htr
 have HDL:=Lib.hid (show (bs.drop fr).length≤64 by rw [List.length_drop];omega)
 have HFR:=Lib.hid hfr
 generalize zaR kn fr=n at *
 clear h hV hsl htr hfr
 obtain ⟨B,hB⟩:∃B,B=w.heap.size:=⟨_,rfl⟩
 have HB1:=Lib.hid (zak w (.cells #[.slice a bs.length cap,.slice ka bs.length kc] 59))
 have HZ1:=Lib.hid (zac (w:=w) (b:=B) (.cells #[.slice a bs.length cap,.slice ka bs.length kc] 59) hB)
 go_enter Tryz.func22,Tryz.ntmps22
 go_upto_region 1 with fail
 try rw [←hB]
 clear hB
 generalize w.alloc _=W1 at *
 obtain ⟨⟨z0,z1⟩,-⟩:=zaV HZ1.out
 go_upto_if 17 with fail
 go_cut [5] from 12 (fun v wx=>v=.int .i64 (fr:Nat)∧wx=W1)
 case first =>
   by_cases h64:bs.length<64
   · have d1:decide ((bs.length:Int)-64<0)=true:=decide_eq_true (by omega)
     obtain rfl:fr=0:=by have:=HFR.out;omega
     go_wp2_with fail
     go_meet
     exact ⟨rfl,rfl⟩
   · have d1:decide ((bs.length:Int)-64<0)=false:=decide_eq_false (by omega)
     have e1:(bs.length:Int)-64=(fr:Int):=by have:=HFR.out;omega
     go_wp2_with fail
     go_meet
     exact ⟨by first|rfl|rw [e1],rfl⟩
 case rest =>
 obtain ⟨rfl,hw⟩:=hcut
 subst hw
 have HN1:=Lib.hid (fun p:zb5 wc=>HN.out p.w (HB1.out.trans (p.h.mono HB1.out.size)))
 have q0:=zb5.cell z0
 have q1:=zb5.cell z1
 go_upto_region 4 with fail
 refine zcD (by kernel_rfl) (by kernel_rfl) ?_
 repeat (go_big_quiet_step ((go_at_call 60;with_reducible exact Calls.below_of (HN1.out _))))
 refine wpQuiet_nil ?_
 rintro w9 ⟨⟨w2,hb2⟩,hw9⟩
 have hw8:w2=w9:=by first|exact hw9|exact hw9.symm
 subst hw8
 clear hw9
 have HZ2:=Lib.hid (zab hb2 HZ1.out)
 have HB2:=Lib.hid (HB1.out.trans (hb2.mono HB1.out.size))
 clear hb2 HZ1 HB1 HN1 z0 z1 q0 q1
 obtain ⟨⟨z0,z1⟩,-⟩:=zaV HZ2.out
 by_cases hn:n<bs.length
 · have d1:decide ((n:Int)<(bs.length:Int))=true:=decide_eq_true (by omega)
   have d2:decide (n<bs.length)=true:=decide_eq_true hn
   have HE:=Lib.hid (HS1.out hn)
   have HN2:=Lib.hid (HN.out _ HB2.out)
   clear HS1 HS2 HS3 HN
   go_wp2_with fail
   refine HN2.out.mono ?_
   rintro e w3 ⟨rfl,hb3⟩
   have HB3:=Lib.hid (HB2.out.trans (hb3.mono HB2.out.size))
   clear hb3
   go_wp2
   go_ret3
   rw [HE.out]
   exact ⟨rfl,HB3.out⟩
 have d1:decide ((n:Int)<(bs.length:Int))=false:=decide_eq_false (by omega)
 have d2:decide (n<bs.length)=false:=decide_eq_false hn
 have HNN:=Lib.hid hn
 have HTR2:=Lib.hid (HTR.out.mono HB2.out)
 have hsl:=HSL.out
 clear HS1 HN HTR HSL
 generalize bs.drop fr=cs at *
 have hcl:cs.length≤64:=HDL.out
 go_wp2_with fail
 clear hsl
 go_loop [7,8] (fun v7 v8=>∃k:Nat,v8=.int .i64 k∧v7=.int .i64 (zcY (lastUp zbp cs k))∧(k=0∨k+9≤cs.length+1)) (fun _ v8=>cs.length+1-(intOf v8).toNat)
 case atStart=>exact ⟨0,rfl,rfl,.inl rfl⟩
 case round =>
   obtain ⟨k,rfl,rfl,hk⟩:=hrel
   by_cases hlt:k+9≤cs.length
   · have d3:decide ((k:Int)+9≤(cs.length:Int))=true:=decide_eq_true (by omega)
     obtain ⟨b,o,rfl,-,-⟩:=HTR2.out.at 0 k (by omega)
     have hL9:((cs.drop k).take 9).length=9:=by rw [List.length_take,List.length_drop];omega
     have hcv:=zdo (bs:=(cs.drop k).take 9) (by rw [hL9];exact zeR HTR2.out k 9 hlt)
     rw [hL9] at hcv
     have hcap:=HTR2.out.2.1
     have hin:(k:Int)+9=((k+9:Nat):Int):=by omega
     have hsl:∀W,(Instr.slice 22 (.slice (some ⟨b,o,none⟩) cs.length tc) (some (.int .i64 (k:Int))) (some (.int .i64 ((k:Int)+9))) none).run Tryz.prog W=.ok (.slice (some ⟨b,o+k,none⟩) 9 (tc-k)) W:=fun W=>by
       rw [hin,Lib.run_slice_window W 22 5 Tryz.underlying22 szByte b o cs.length tc k (k+9) (by omega) (by omega),show k+9-k=9 by omega]
     have hq:=zdB ((cs.drop k).take 9) zbp
     have HGO:=Lib.hid (lastUp_go (w:=zbp) (b:=cs) (k:=k))
     rw [show zbp.length=9 from rfl] at HGO
     unfold zbp at hq
     clear hin hL9 hcap
     by_cases hm:(cs.drop k).take 9=zbp
     · rw [decide_eq_true (by exact hm)] at hq
       have HG:=Lib.hid (HGO.out.trans (if_pos hm))
       clear hm HGO
       generalize (cs.drop k).take 9=y at *
       go_wp2_with fail
       go_round
       case rel=>exact ⟨k+1,by go_num,by rw [HG.out];rfl,.inr (by omega)⟩
       case measure=>simp [intOf];omega
     · rw [decide_eq_false (by exact hm)] at hq
       have HG:=Lib.hid (HGO.out.trans (if_neg hm))
       clear hm HGO
       generalize (cs.drop k).take 9=y at *
       go_wp2_with fail
       go_round
       case rel=>exact ⟨k+1,by go_num,by rw [HG.out],.inr (by omega)⟩
       case measure=>simp [intOf];omega
   · have d3:decide ((k:Int)+9≤(cs.length:Int))=false:=decide_eq_false (by omega)
     have HLW:=Lib.hid (lastUp_end (w:=zbp) (b:=cs) (k:=k) (by rcases hk with h|h;exact .inl h;exact .inr h) hlt (by decide))
     have hkk:k≤64:=by omega
     rw [←HLW.out]
     clear hk hlt
     cases hlw:zcu zbp cs with
     | none =>
       have HE:=Lib.hid (HS2.out HNN.out hlw)
       clear HS2 HS3 hlw HLW
       unfold zcY
       go_wp2
       go_ret3
       rw [HE.out]
       exact ⟨rfl,HB2.out⟩
     | some j =>
       have HE:=Lib.hid (HS3.out j HNN.out hlw)
       have hkl:=lastW_le hlw
       have hd0:decide ((j:Int)<0)=false:=decide_eq_false (by omega)
       have hk9:j≤64:=by omega
       have HNB:=Lib.hid (rnumber_any HTR2.out (by omega) ((j:Int)+9) true)
       generalize oneW zaE (zah cs ((j:Int)+9) true)=S at *
       clear HS2 HS3 hlw HLW hkl
       obtain ⟨x,f,t,er⟩:=S
       unfold zdc at HNB
       unfold startN at HE
       simp only at HNB HE
       unfold zcY
       simp only
       generalize x.vn=xn at *
       go_wp2_with fail
       refine HNB.out.mono ?_
       rintro e w5 ⟨rfl,hb5⟩
       have HB5:=Lib.hid (HB2.out.trans (hb5.mono HB2.out.size))
       have HZ5:=Lib.hid (zab hb5 HZ2.out)
       clear hb5 HNB z0 z1
       obtain ⟨⟨z0,z1⟩,-⟩:=zaV HZ5.out
       by_cases he:er=0
       case neg =>
         have HE2:=Lib.hid (HE.out.trans (if_pos (.inl he)))
         have e0:(er==0)=false:=by rw [beq_eq_false_iff_ne];exact he
         have e1:(er != 0)=true:=by simp only [bne,e0,Bool.not_false]
         clear HE he
         go_wp2
         go_ret3
         rw [HE2.out]
         exact ⟨rfl,HB5.out⟩
       subst he
       by_cases h1:xn<0
       · have HE2:=Lib.hid (HE.out.trans (if_pos (.inr (.inl h1))))
         have d1:decide (xn<0)=true:=decide_eq_true h1
         clear HE h1
         go_wp2
         go_ret3
         rw [HE2.out]
         exact ⟨rfl,HB5.out⟩
       have d1:decide (xn<0)=false:=decide_eq_false h1
       by_cases h2:(bs.length:Int)≤xn
       · have HE2:=Lib.hid (HE.out.trans (if_pos (.inr (.inr h2))))
         have d2:decide ((bs.length:Int)≤xn)=true:=decide_eq_true h2
         clear HE h2 h1
         go_wp2_with fail
         go_ret3
         rw [HE2.out]
         exact ⟨rfl,HB5.out⟩
       have d2:decide ((bs.length:Int)≤xn)=false:=decide_eq_false h2
       have HE2:=Lib.hid (HE.out.trans (if_neg (by rintro (h|h|h);exact h rfl;exact h1 h;exact h2 h)))
       clear HE h1 h2
       go_wp2_with fail
       go_ret3
       rw [HE2.out]
       exact ⟨rfl,HB5.out⟩
theorem law_cstarts {a sa:Option Addr} {cap n sc:Nat} {bs:List UInt8} {L:List (Int×Int)} (w:World) (hr:Row w 1 a bs.length cap (bs.map u8C)) (hs:SRow w sa n sc L) :
   Calls Tryz.prog 5 #[.slice a bs.length cap,.slice sa n sc] w (PlEndX w):=by
 have hi:=hr.i64
 have HW:=Lib.hid (fun W=>works17 W)
 by_cases hbig:800<bs.length
 · have hb2:decide (800<bs.length)=true:=decide_eq_true hbig
   have hb3:decide ((800:Int)<bs.length)=true:=decide_eq_true (by omega)
   clear hr hs hbig
   go_enter Tryz.func5,Tryz.ntmps5
   go_wp2_with (go_at_call 19;refine (HW.out _).mono ?_;rintro e w' ⟨rfl,hb⟩)
   go_ret
   exact ⟨rfl,hb⟩
 have hb2:decide (800<bs.length)=false:=decide_eq_false hbig
 have hb3:decide ((800:Int)<bs.length)=false:=decide_eq_false (by omega)
 by_cases hbn:30<n
 · have hb4:decide (30<n)=true:=decide_eq_true hbn
   have hb5:decide ((30:Int)<n)=true:=decide_eq_true (by omega)
   clear hr hs hbig hbn
   go_enter Tryz.func5,Tryz.ntmps5
   go_wp2_with (go_at_call 19;refine (HW.out _).mono ?_;rintro e w' ⟨rfl,hb⟩)
   go_ret
   exact ⟨rfl,hb⟩
 have hb4:decide (30<n)=false:=decide_eq_false hbn
 have hb5:decide ((30:Int)<n)=false:=decide_eq_false (by omega)
 have hl8:bs.length≤800:=by omega
 have HSP:=Lib.hid (sparse_any hr hl8 hs (by omega))
 have HRS:=Lib.hid (fun (W:World) (hb:Below w.heap.size w W)=>rsparse_any (hr.mono hb) hl8 (hs.mono hb) (by omega))
 generalize knL bs.length L=kn at *
 have HST:=Lib.hid (fun (W:World) (p:Nat) (h:SrcI W p bs kn)=>zeI h (by omega))
 have HRT:=Lib.hid (fun (W:World) (ka:Option Addr) (kc:Nat) (h:FlM W a cap bs ka kc kn)=>rstart_any h (by omega))
 generalize zbh bs kn=V at *
 clear hr hs hbig hbn
 obtain ⟨x,y,z⟩:=V
 have hxx:(x==x)=true:=by simp
 have hyy:(y==y)=true:=by simp
 have hzz:(z==z)=true:=by simp
 go_enter Tryz.func5,Tryz.ntmps5
 go_wp2_with fail
 refine HSP.out.mono ?_
 rintro e w1 ⟨p,U,rfl,hK,hb1⟩
 have HB1:=Lib.hid hb1
 have HL1:=Lib.hid (HST.out _ _ hK.srcI)
 clear hK hb1 HSP HST
 go_wp2_with fail
 refine HL1.out.mono ?_
 rintro e w2 ⟨rfl,hb2'⟩
 have HB2:=Lib.hid (HB1.out.trans (hb2'.mono HB1.out.size))
 have HR2:=Lib.hid (HRS.out _ HB2.out)
 clear hb2' HL1 HB1 HRS
 go_wp2_with fail
 refine HR2.out.mono ?_
 rintro e w3 ⟨ka,kc,rfl,hF,hb3'⟩
 have HB3:=Lib.hid (HB2.out.trans (hb3'.mono HB2.out.size))
 have HL3:=Lib.hid (HRT.out _ _ _ hF)
 clear hb3' hF HR2 HB2 HRT
 go_wp2_with fail
 refine HL3.out.mono ?_
 rintro e w4 ⟨rfl,hb4'⟩
 have HB4:=Lib.hid (HB3.out.trans (hb4'.mono HB3.out.size))
 clear hb4' HL3 HB3
 go_wp2_with (go_at_call 19;refine (HW.out _).mono ?_;rintro e w5 ⟨rfl,hb5'⟩)
 go_ret
 exact ⟨rfl,HB4.out.trans (hb5'.mono HB4.out.size)⟩
end Go.Proofs.YtfafdeemfeaedaaGreat
namespace Go.Proofs.YtfafdeemfeaedaaGreat
open Go.RowKit Go.Sort Go.ChangeShapes Go.WideShapes Go.Joins Go.Deep
theorem bd_i64 {n:Int} (h:(Lit.int .i64 n).wf=true):-9223372036854775808≤n∧n≤9223372036854775807:=by
 simp [Lit.wf,IntKind.min,IntKind.max,IntKind.signed,IntKind.bits] at h;omega
section
variable {H : Type} {enc : TypeId × Value → H} {w : World} {base : Nat} {spare : Nat → Bool} {held : Bool}
theorem span_slice {a:Option Addr} {n cap:Nat} {d:DataW H} {p:List MemPlace} (h:DataW.Trod enc Tryz.prog w base spare held 50 (.slice a n cap) d p):∃l:List (Int×Int),SRow w a n cap l∧Fit l:=by
 obtain ⟨fuel,hf⟩:=h
 rcases open_slice_pairs Tryz.underlying50 Tryz.underlying129 (by kernel_rfl) rfl rfl (by kernel_rfl) (by kernel_rfl) hf with ⟨hcs,_⟩|⟨x,l,c,m,k,V0,V1,D0,D1,P0,P1,hcs,_,hl,hm,hmm,_,hc⟩
 · simp [Value.cells] at hcs
   obtain ⟨rfl,rfl,rfl⟩:=hcs
   exact ⟨[],Row.nil w 2,fun x hx=>(by cases hx)⟩
 · simp [Value.cells] at hcs
   obtain ⟨rfl,rfl,rfl⟩:=hcs
   have hnm:n≤m:=by rw [hmm];split<;>omega
   have each:∀i,i<n→∃q:Int×Int,w.cell? (x.add (i * 2))=some (.int .i64 q.1)∧w.cell? (x.add (i * 2+1))=some (.int .i64 q.2)∧(-9223372036854775808≤q.1∧q.1≤9223372036854775807)∧(-9223372036854775808≤q.2∧q.2≤9223372036854775807):=fun i hi=>by
     obtain ⟨e0,e1,t0,t1⟩:=hc i (by omega)
     obtain ⟨z0,h0,_,w0⟩:=DataW.trod_int Tryz.underlying3 t0
     obtain ⟨z1,h1,_,w1⟩:=DataW.trod_int Tryz.underlying3 t1
     simp at h0 h1
     exact ⟨(z0,z1),by rw [e0,h0],by rw [e1,h1],bd_i64 w0,bd_i64 w1⟩
   obtain ⟨f,hf⟩:=choose_lt each
   refine ⟨(List.range n).map f,⟨by rw [zbC];simp,hl,hm,fun h=>(by cases h),fun hn=>?_⟩,fun z hz=>?_⟩
   · have h0:=(hf 0 (by omega)).1
     have hb:=World.block_lt_of_cell? w _ h0
     obtain ⟨b,off,spot⟩:=x
     have hspot:spot=none:=by simpa [Addr.add] using World.cell?_spot h0
     subst hspot
     refine ⟨b,off,rfl,by simpa [Addr.add] using hb,fun j u hj=>?_⟩
     have hj2:j<((List.range n).map f).length * 2:=by
       have:=(List.getElem?_eq_some_iff.1 hj).1
       rwa [zbC] at this
     simp at hj2
     have hi:j / 2<n:=by omega
     obtain ⟨g0,g1⟩:=zfY ((List.range n).map f) (j / 2) (by simpa using hi)
     have hg:((List.range n).map f).getD (j / 2) (0,0)=f (j / 2):=by simp [List.getD,hi]
     rw [hg] at g0 g1
     obtain ⟨e0,e1,_⟩:=hf (j / 2) hi
     by_cases hp:j % 2=0
     · have hj3:2 * (j / 2)=j:=by omega
       rw [hj3] at g0
       rw [show j / 2 * 2=j from by omega,Addr.add_lit] at e0
       rw [e0,←hj,g0]
     · have hj3:2 * (j / 2)+1=j:=by omega
       rw [hj3] at g1
       rw [show j / 2 * 2+1=j from by omega,Addr.add_lit] at e1
       rw [e1,←hj,g1]
   · obtain ⟨i,hi,rfl⟩:=List.mem_map.1 hz
     obtain ⟨_,_,b0,b1⟩:=hf i (List.mem_range.1 hi)
     exact ⟨b0.1,b0.2,b1.1,b1.2⟩
end
end Go.Proofs.YtfafdeemfeaedaaGreat
namespace Go.Proofs.YtfafdeemfeaedaaGreat
open Go.RowKit Go.ChangeShapes Go.WideShapes
theorem byte_slice {H:Type} {enc:TypeId×Value→H} {w:World} {a:Option Addr} {n cap:Nat} {d:DataW H} {p:List MemPlace} (h:DataW.Trod enc Tryz.prog w 0 (fun _=>true) true 22 (.slice a n cap) d p) :
   ∃bs:List UInt8,bs.length=n∧Row w 1 a bs.length cap (bs.map u8C):=by
 obtain ⟨fuel,hf⟩:=h
 rcases open_ints Tryz.underlying22 Tryz.underlying5 (by kernel_rfl) hf with ⟨hcs,_⟩|⟨x,l,c,zs,hcs,_,hl,hm,hz,_,hcell,hwz⟩
 · simp [Value.cells] at hcs
   obtain ⟨rfl,rfl,rfl⟩:=hcs
   exact ⟨[],rfl,Row.nil w 1⟩
 · simp [Value.cells] at hcs
   obtain ⟨rfl,rfl,rfl⟩:=hcs
   exact row_bytes (w:=w) (a:=some x) (len:=n) (cap:=cap) (zs:=zs) (.inr ⟨x,rfl,hl,hm,by simpa using hz,hcell,hwz⟩)
end Go.Proofs.YtfafdeemfeaedaaGreat
