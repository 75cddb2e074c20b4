/-
  Our texts Xt1 to SecAM, in one.
-/
import Derived.Test.YtcmoehknppjkiaaGreatDoorPkP10
import Derived.Test.YtcmoehknppjkiaaGreatDoorProg
import Derived.Lib.Bytealg
import Derived.Deep.RegionHeld3
import Derived.WalkKit
import Derived.Deep.Cut
import Derived.BigQuiet
import Derived.Lib.SlBytesConst
import Derived.ProofKit
import Derived.OpenShut
import Derived.Deep.Slices
import Derived.SizedLaws
set_option maxRecDepth 8000
set_option maxHeartbeats 8000000
namespace Go.Proofs.YtcmoehknppjkiaaGreatDoor
open Go.RowKit
theorem formX_num (n:Int):zbg (.mk 2 n [] [])=numF n:=rfl
theorem rnum13 (n:Int) (W:World):Calls Tryz.prog 20 #[.agg #[.int .i64 2,.int .i64 n,.string ⟨#[]⟩,.slice none 0 0]] W fun e w'=>e=.returned (.string (mkB (numF n)))/\Below W.heap.size W w':=by
 have h:=rform_x _ (.mk 2 n [] []) (yp _) (by simp [bndV,bndL]) (.slice none 0 0) W (IsV.leaf W anyF _ rfl)
 rw [formX_num] at h
 exact h
theorem rtext15_any {s:Sec} {gv sl:Value} {w:World} (h:zbu w anyF s gv sl) (hck:zbj s=0) (he:∀g∈s.gs,g.es.length<=100) (hf:(zaz s.tr).length<=3000) (hb:bndV s.tr<=1152921504606846976) :
  Calls Tryz.prog 37 #[secA s gv sl] w fun e w'=>e=.returned (.string (mkB (secL s)))/\Below w.heap.size w w':=by
 have hend:=preG_end s
 obtain ⟨hc64,hcall,hcc,-⟩:=zb1 hck
 obtain ⟨gs,x⟩:=s
 simp only at hend hc64 hcall hcc hf hb he
 have hfx:zbg x=zaz x:=zcZ x (by unfold zbc at hcc;split at hcc;cases hcc;exact hcc)
 have HPL:=yb (fun c=>preG_len hcall he hc64 c)
 have HES:=yb (fun (g:Grp) (hg:g∈gs) (j:Nat)=>entsT_len (zc6 (List.all_eq_true.1 hcall g hg)) (he g hg) j)
 have HEO:=yb (fun (g:Grp) (hg:g∈gs) (e:Ent) (hm:e∈g.es)=>List.all_eq_true.1 (zc6 (List.all_eq_true.1 hcall g hg)) e hm)
 obtain ⟨ga,gc,rfl,hgc,hgm,-⟩:=h.1.len
 simp only at hgc
 have HFX:=yb (fun (W:World) (hW:Below w.heap.size w W)=>rform_x _ x (yp _) hb sl W (h.2.below hW))
 rw [hfx] at HFX
 have HGA:=yb (fun (W:World) (hb:Below w.heap.size w W)=>(h.1.below hb))
 obtain ⟨R,hR⟩:∃R,R=mkB (secL ⟨gs,x⟩):=⟨_,rfl⟩
 rw [<-hR]
 have HR:=yb (show R=mkB (preG gs gs.length)++⟨#[116,114,97,105,108,101,114,10]⟩++mkB (zaz x)++⟨#[10]⟩ by
  rw [hR,<-hend,show (⟨#[116,114,97,105,108,101,114,10]⟩:ByteArray)=mkB [116,114,97,105,108,101,114,10] from rfl,show (⟨#[10]⟩:ByteArray)=mkB [10] from rfl,zaQ,zaQ,zaQ]
  simp)
 have hfz:(mkB (zaz x)).size<=3000:=by rw [zar];exact hf
 unfold secA
 simp only at HGA |-
 obtain ⟨sa,sc,rfl,-,-,-⟩:=h.2.len
 simp only at HFX |-
 unfold pvA at HFX
 clear h hend hcall hcc hf hb he hfx hR hck
 have hg63:(gs.length:Int)<=9223372036854775807:=by unfold maxLen at hgm;omega
 generalize mkB (zaz x)=fx at *
 generalize x.kind=xk at *
 generalize x.n=xn at *
 generalize mkB x.s=xb at *
 generalize x.l.length=xl at *
 have HNF:=yb (fun (n:Int) (W:World)=>rnum13 n W)
 obtain ⟨B,hB⟩:∃B,B=w.heap.size:=⟨_,rfl⟩
 have HB1:=yb (zae w (.cells #[.slice ga gs.length gc,.int .i64 xk,.int .i64 xn,.string xb,.slice sa xl sc] 27))
 have HX1:=yb (zab (w:=w) (b:=B) (.cells #[.slice ga gs.length gc,.int .i64 xk,.int .i64 xn,.string xb,.slice sa xl sc] 27) hB)
 go_enter Tryz.func37,Tryz.ntmps37
 go_upto_region 1 with fail
 try rw [<-hB]
 clear hB
 generalize World.alloc _ _=W1 at *
 go_wp2_with fail
 go_loopw [3,4] (fun vo v wr=>∃(c:Nat) (O:ByteArray),v=.int .i64 c/\vo=.string O/\c<=gs.length/\O.size<=200000/\Hid (O=mkB (preG gs c))/\Hid (Below W1.heap.size W1 wr)) (fun _ v _=>gs.length-(intOf v).toNat)
 case atStart=>exact ⟨0,_,rfl,rfl,Nat.zero_le _,by decide,yb rfl,yb (Below.refl _ _)⟩
 case round =>
  obtain ⟨c,O,rfl,rfl,hc,hO,HO,HW⟩:=hrel
  have HB:=yb (HB1.out.trans (HW.out.mono HB1.out.size))
  obtain ⟨⟨x0,x1,x2,x3,x4⟩,-⟩:=zaL (zaa HW.out HX1.out)
  by_cases hlt:c<gs.length
  case neg =>
   have hce:c=gs.length:=by omega
   subst hce
   have hcd:decide ((gs.length:Int)<(gs.length:Int))=false:=ye (by omega)
   have hcd2:decide (gs.length<gs.length)=false:=ye (by omega)
   have HC:=yb (HFX.out wr HB.out)
   have HE:=yb (show O++⟨#[116,114,97,105,108,101,114,10]⟩++fx++⟨#[10]⟩=R by rw [HR.out,HO.out])
   have hz1:O.size+8<=9223372036854775807:=by omega
   have hz2:O.size+8+fx.size+1<=9223372036854775807:=by omega
   clear HO HR HPL HES HEO HGA HFX HNF
   go_wp2_with fail
   refine HC.out.mono ?_
   rintro e w3 ⟨rfl,hb⟩
   have HB3:=yo HB hb
   clear hb
   go_wp2
   go_ret
   exact ⟨by rw [<-HE.out];rfl,HB3.out⟩
  have hcd:decide ((c:Int)<(gs.length:Int))=true:=yd (by omega)
  have hcd2:decide (c<gs.length)=true:=yd (by omega)
  have hlj:(c:Int)<(gs.length:Int):=by omega
  obtain ⟨-,-,-,b,off,ha,-,-,hat⟩:=(HGA.out wr HB.out).at (by omega)
  subst ha
  obtain ⟨g,hg⟩:∃g,gs[c]?=some g:=⟨_,List.getElem?_eq_getElem hlt⟩
  obtain ⟨v,hv,g0,g1⟩:=hat c g hg
  obtain ⟨ea,ec,rfl,hel,hec,-⟩:=hv.len
  have HNX:=yb (preG_next hg)
  have HEL:=yb (fun j=>HES.out g (List.mem_of_getElem? hg) j)
  have HEOK:=yb (fun e hm=>HEO.out g (List.mem_of_getElem? hg) e hm)
  have HHD:=yb (headG_len g)
  have HPC:=yb (HPL.out (c+1))
  have HPC0:=yb (HPL.out c)
  have HHE:=yb (show O++mkB (numF g.first)++⟨#[32]⟩++mkB (numF (g.es.length:Int))++⟨#[10]⟩=mkB (preG gs c++zb6 g) by
   rw [HO.out,show (⟨#[32]⟩:ByteArray)=mkB [32] from rfl,show (⟨#[10]⟩:ByteArray)=mkB [10] from rfl,zaQ,zaQ,zaQ,zaQ]
   unfold zb6
   simp)
  have hn1:(mkB (numF g.first)).size<=40:=by rw [zar];exact zbK _
  have hn2:(mkB (numF (g.es.length:Int))).size<=40:=by rw [zar];exact zbK _
  have HIE:=yb hv
  have he63:(g.es.length:Int)<=9223372036854775807:=by unfold maxLen at hec;omega
  clear hat hv hg HO
  obtain ⟨gf,ge⟩:=g
  simp only at *
  have HBA:=yb (HW.out.alloc HW.out.size (.cells #[.int .i64 gf,.slice ea ge.length ec] 58))
  have HGB:=yb (zab (w:=wr) (.cells #[.int .i64 gf,.slice ea ge.length ec] 58) rfl)
  have HIE2:=yb (HIE.out.below (zae wr (.cells #[.int .i64 gf,.slice ea ge.length ec] 58)))
  have HN1:=yb (fun W=>HNF.out gf W)
  have HN2:=yb (fun W=>HNF.out (ge.length:Int) W)
  go_upto_region 6 with fail
  clear x0 x1 x2 x3 x4 HIE g0 g1
  generalize wr.heap.size=G at *
  generalize World.alloc _ _=W2 at *
  obtain ⟨⟨y0,y1⟩,-⟩:=za5 HGB.out
  have q0:=zas.cell y0
  have q1:=zas.cell y1
  clear y0 y1
  obtain ⟨nf1,hnf1⟩:∃t,t=mkB (numF gf):=⟨_,rfl⟩
  obtain ⟨nf2,hnf2⟩:∃t,t=mkB (numF (ge.length:Int)):=⟨_,rfl⟩
  rw [<-hnf1] at HN1 HHE hn1
  rw [<-hnf2] at HN2 HHE hn2
  clear hnf1 hnf2
  have hz0:O.size+nf1.size+1+nf2.size+1<=9223372036854775807:=by omega
  have hz1:O.size+nf1.size+1+nf2.size<=9223372036854775807:=by omega
  have hz2:O.size+nf1.size+1<=9223372036854775807:=by omega
  have hz3:O.size+nf1.size<=9223372036854775807:=by omega
  refine zaw (by kernel_rfl) (by kernel_rfl) ?_
  repeat (go_big_quiet_step ((go_at_call 20;first|(with_reducible exact Calls.below_of (HN1.out _))|(with_reducible exact Calls.below_of (HN2.out _)))))
  refine wpQuiet_nil ?_
  rintro w6 ⟨⟨_,hb6⟩,rfl⟩
  have HGB6:=yb (zaa hb6 HGB.out)
  have HBA6:=yo HBA hb6
  have HIE6:=yb (HIE2.out.below hb6)
  rw [HHE.out]
  clear hb6 q0 q1 HHE hz0 hz1 hz2 hz3 hn1 hn2 HN1 HN2 HGB HBA HIE2 hO
  go_wp2_with fail
  go_loopw [3,6] (fun vo v wq=>∃(j:Nat) (O2:ByteArray),v=.int .i64 j/\vo=.string O2/\j<=ge.length/\O2.size<=200000/\Hid (O2=mkB (preG gs c++zb6 ⟨gf,ge⟩++(ge.take j).flatMap entL))/\Hid (Below w6.heap.size w6 wq)) (fun _ v _=>ge.length-(intOf v).toNat)
  case atStart=>exact ⟨0,_,rfl,rfl,Nat.zero_le _,by rw [zar,List.length_append];have:=HPC0.out;have:=HHD.out;omega,yb (by simp),yb (Below.refl _ _)⟩
  case round =>
   obtain ⟨j,O2,rfl,rfl,hj,hO2,HO2,HWQ⟩:=hrel
   obtain ⟨⟨y0,y1⟩,-⟩:=za5 (zaa HWQ.out HGB6.out)
   by_cases hjl:j<ge.length
   case neg =>
    have hje:j=ge.length:=by omega
    subst hje
    have hjd:decide ((ge.length:Int)<(ge.length:Int))=false:=ye (by omega)
    have hjd2:decide (ge.length<ge.length)=false:=ye (by omega)
    have HN:=yb (HO2.out.trans (congrArg mkB HNX.out))
    have HWN:=yb (HBA6.out.trans (HWQ.out.mono HBA6.out.size))
    clear HO2 HNX HEOK HEL
    go_wp2
    go_roundw
    case rel=>exact ⟨c+1,O2,by go_num,rfl,by omega,hO2,HN,HWN⟩
    case measure=>simp [intOf];omega
   have hjd:decide ((j:Int)<(ge.length:Int))=true:=yd (by omega)
   have hjd2:decide (j<ge.length)=true:=yd (by omega)
   have hjj:(j:Int)<(ge.length:Int):=by omega
   obtain ⟨-,-,-,be,oe,hae,hbe,-,hae2⟩:=(HIE6.out.below HWQ.out).at (by omega)
   subst hae
   obtain ⟨ee,hee⟩:∃ee,ge[j]?=some ee:=⟨_,List.getElem?_eq_getElem hjl⟩
   obtain ⟨z0,z1,z2⟩:=hae2 j ee hee
   have hok:=HEOK.out ee (List.mem_of_getElem? hee)
   have HEN:=yb (fun W=>zd3 ee W)
   rw [show entR ee=(entL ee,0) by unfold entR;rw [yg hok]] at HEN
   have HN:=yb (show O2++mkB (entL ee)=mkB (preG gs c++zb6 ⟨gf,ge⟩++(ge.take (j+1)).flatMap entL) by
    rw [HO2.out,zaQ,zdq hee,List.append_assoc])
   have HNL:=yb (show (O2++mkB (entL ee)).size<=200000 by
    rw [HN.out,zar,List.length_append,List.length_append]
    have:=HPC0.out;have:=HHD.out;have:=HEL.out (j+1);omega)
   have hz:O2.size+(mkB (entL ee)).size<=9223372036854775807:=by rw [zar,zfI hok];omega
   clear hae2 hee hok HO2
   generalize mkB (entL ee)=el at *
   unfold entA at HEN
   obtain ⟨na,ng,nu⟩:=ee
   simp only at *
   go_wp2_with fail
   refine (HEN.out _).mono ?_
   rintro e w7 ⟨rfl,hb⟩
   have HWQ2:=yo HWQ hb
   clear hb HEN y0 y1 z0 z1 z2
   go_wp2
   go_roundw
   case rel=>exact ⟨j+1,_,by go_num,rfl,by omega,HNL.out,HN,HWQ2⟩
   case measure=>simp [intOf];omega
theorem rprint15_any {s:Sec} {gv sl:Value} {w:World} (h:zbu w anyF s gv sl) (hm:txM 140737488355328 s.tr) (ho:FewX s) :
  Calls Tryz.prog 14 #[secA s gv sl] w fun e w'=>e=.returned (.tuple #[.string (if zbj s=0 then mkB (secL s) else ⟨#[]⟩),.int .i64 (zbj s)])/\Below w.heap.size w w':=by
 have HCK:=yb (fun (W:World) (hb:Below w.heap.size w W)=>zdZ (h.below hb) (txM_le (by decide) _ hm) (zcW ho.2.1))
 have HT:=yb (fun (hc:zbj s=0) (W:World) (hb:Below w.heap.size w W)=>rtext15_any (h.below hb) hc ho.2.2.2 (by
  have hcc:=(zb1 hc).2.2.1
  have hfx:zbg s.tr=zaz s.tr:=zcZ s.tr (by unfold zbc at hcc;split at hcc;cases hcc;exact hcc)
  rw [<-hfx];exact ho.2.2.1) (bnd_few ho.2.1 hm))
 obtain ⟨ga,gc,rfl,-,-,-⟩:=h.1.len
 obtain ⟨sa,sc,rfl,-,-,-⟩:=h.2.len
 unfold secA at HCK HT |-
 clear h hm ho
 generalize zbj s=ck at *
 generalize mkB (secL s)=L at *
 generalize s.gs.length=gl at *
 generalize s.tr.kind=xk at *
 generalize s.tr.n=xn at *
 generalize mkB s.tr.s=xb at *
 generalize s.tr.l.length=xl at *
 obtain ⟨R,hR⟩:∃R,R=(if ck=0 then L else ⟨#[]⟩):=⟨_,rfl⟩
 rw [<-hR]
 have HR:=yb hR
 clear hR
 obtain ⟨B,hB⟩:∃B,B=w.heap.size:=⟨_,rfl⟩
 have HB1:=yb (zae w (.cells #[.slice ga gl gc,.int .i64 xk,.int .i64 xn,.string xb,.slice sa xl sc] 27))
 have HX1:=yb (zab (w:=w) (b:=B) (.cells #[.slice ga gl gc,.int .i64 xk,.int .i64 xn,.string xb,.slice sa xl sc] 27) hB)
 go_enter Tryz.func14,Tryz.ntmps14
 go_upto_region 1 with fail
 try rw [<-hB]
 clear hB
 generalize World.alloc _ _=W1 at *
 obtain ⟨⟨x0,x1,x2,x3,x4⟩,-⟩:=zaL HX1.out
 have HC1:=yb (HCK.out W1 HB1.out)
 go_wp2_with fail
 refine HC1.out.mono ?_
 rintro e w2 ⟨rfl,hb⟩
 have HB2:=yo HB1 hb
 have HX2:=yb (zaa hb HX1.out)
 clear hb HCK HC1 HX1 HB1 x0 x1 x2 x3 x4
 obtain ⟨⟨x0,x1,x2,x3,x4⟩,-⟩:=zaL HX2.out
 by_cases hck:ck=0
 case neg =>
  have e1:(ck==0)=false:=by rw [yf];exact hck
  have e2:(ck != 0)=true:=by simp only [bne,e1,yj]
  have HE:=yb (HR.out.trans (yh hck))
  clear hck HT HR
  go_wp2
  go_ret2
  exact ⟨by rw [HE.out];rfl,HB2.out⟩
 have HT2:=yb (HT.out hck w2 HB2.out)
 have HE:=yb (HR.out.trans (yg hck))
 subst hck
 clear HT HR
 go_wp2_with fail
 refine HT2.out.mono ?_
 rintro e w3 ⟨rfl,hb⟩
 have HB3:=yo HB2 hb
 clear hb
 go_wp2
 go_ret2
 exact ⟨by rw [HE.out];rfl,HB3.out⟩
noncomputable def zfQ (s t:Sec):Bool:=@decide (s=t) (Classical.propDecidable _)
theorem zei {s t:Sec} (h:s≠t):zfQ s t=false:=by unfold zfQ;exact @decide_eq_false _ (Classical.propDecidable _) h
theorem sameB_yes {s t:Sec} (h:s=t):zfQ s t=true:=by unfold zfQ;exact @decide_eq_true _ (Classical.propDecidable _) h
theorem zcX {α:Type} {l m:List α} {c:Nat} {x:α} (h:l.take c=m.take c) (h1:l[c]?=some x) (h2:m[c]?=some x):l.take (c+1)=m.take (c+1):=by
 rw [List.take_add_one,List.take_add_one,h1,h2,h]
theorem at_ne {α:Type} {l m:List α} {c:Nat} {x y:α} (h1:l[c]?=some x) (h2:m[c]?=some y) (h:x≠y):l≠m:=by
 rintro rfl;rw [h1] at h2;exact h (Option.some.inj h2)
theorem dsame_any {w:World} {F G:Nat->Prop} {s t:Sec} {gv sl gv' sl':Value} (h:zbu w F s gv sl) (h':zbu w G t gv' sl') :
  Calls Tryz.prog 12 #[secA s gv sl,secA t gv' sl'] w fun e w'=>e=.returned (.bool (zfQ s t))/\Below w.heap.size w w':=by
 obtain ⟨gs,x⟩:=s
 obtain ⟨gs',x'⟩:=t
 obtain ⟨ga,gc,rfl,hgc,hgm,-⟩:=h.1.len
 obtain ⟨ga',gc',rfl,hgc',hgm',-⟩:=h'.1.len
 obtain ⟨sa,sc,rfl,-,-,-⟩:=h.2.len
 obtain ⟨sa',sc',rfl,-,-,-⟩:=h'.2.len
 simp only at h h' hgc hgm hgc' hgm'
 have HG1:=yb (fun (W:World) (hb:Below w.heap.size w W)=>h.1.below hb)
 have HG2:=yb (fun (W:World) (hb:Below w.heap.size w W)=>h'.1.below hb)
 have HSA:=yb (fun (W:World) (hb:Below w.heap.size w W)=>same_any (h.2.below hb) (h'.2.below hb))
 have hci:=zep x x'
 simp only [pvA] at HSA
 have hg63:(gs.length:Int)<=9223372036854775807:=by unfold maxLen at hgm;omega
 have hg64:(gs'.length:Int)<=9223372036854775807:=by unfold maxLen at hgm';omega
 unfold secA
 simp only at HG1 HG2 |-
 obtain ⟨R,hR⟩:∃R,R=zfQ ⟨gs,x⟩ ⟨gs',x'⟩:=⟨_,rfl⟩
 rw [<-hR]
 have HNX:=yb (fun (h:x≠x')=>hR.trans (zei (fun e=>h (congrArg Sec.tr e))))
 have HNG:=yb (fun (h:gs≠gs')=>hR.trans (zei (fun e=>h (congrArg Sec.gs e))))
 have HY:=yb (fun (h1:x=x') (h2:gs=gs')=>hR.trans (sameB_yes (by rw [h1,h2])))
 have HCX:=yb (show zau x x'=0->x=x' from hci.1)
 have HCN:=yb (show zau x x'≠0->x≠x' from fun h e=>h (hci.2 e))
 clear h h' hgm' hgm hgc hgc' hR hci
 generalize hX:(x=x')=PX at *
 have HXN:=yb (show ¬PX->R=false from fun h=>HNX.out (by intro e;exact h (hX▸e)))
 have HCN2:=yb (show zau x x'≠0->¬PX from fun h e=>HCN.out h (by rw [hX];exact e))
 clear HNX HCN hX
 generalize zau x x'=cc at *
 generalize x.kind=xk at *
 generalize x.n=xn at *
 generalize mkB x.s=xb at *
 generalize x.l.length=xl at *
 generalize x'.kind=xk' at *
 generalize x'.n=xn' at *
 generalize mkB x'.s=xb' at *
 generalize x'.l.length=xl' at *
 obtain ⟨B,hB⟩:∃B,B=w.heap.size:=⟨_,rfl⟩
 have HM1:=yb (show SmM w ((w.alloc (.cells #[.slice ga gs.length gc,.int .i64 xk,.int .i64 xn,.string xb,.slice sa xl sc] 27)).alloc (.cells #[.slice ga' gs'.length gc',.int .i64 xk',.int .i64 xn',.string xb',.slice sa' xl' sc'] 27)) B (B+1) #[.slice ga gs.length gc,.int .i64 xk,.int .i64 xn,.string xb,.slice sa xl sc] #[.slice ga' gs'.length gc',.int .i64 xk',.int .i64 xn',.string xb',.slice sa' xl' sc'] from
  ⟨zaF w _ _,zak _ (zab _ hB),zab _ (by rw [zaq,hB])⟩)
 go_enter Tryz.func12,Tryz.ntmps12
 go_upto_region 1 with fail
 try rw [<-hB]
 generalize World.alloc _ _=W1 at *
 clear hB
 generalize B+1=B2 at *
 obtain ⟨⟨a0,a1,a2,a3,a4⟩,-⟩:=zaL HM1.out.one
 obtain ⟨⟨b0,b1,b2,b3,b4⟩,-⟩:=zaL HM1.out.two
 generalize hL2:gs'.length=L2 at *
 have HLEN:=yb hL2
 clear hL2
 by_cases hlen:gs.length=L2
 case neg =>
  have e1:((gs.length:Int)==L2)=false:=by rw [yf];omega
  have e2:((gs.length:Int) != L2)=true:=by simp only [bne,e1,yj]
  have HE:=yb (HNG.out (fun e=>hlen (by rw [e];exact HLEN.out)))
  clear hlen HNG HY HG1 HG2 HSA
  go_wp2_with fail
  go_ret
  exact ⟨by rw [HE.out];rfl,HM1.out.bel⟩
 subst hlen
 have hLL:((gs.length:Int) != gs.length)=false:=by simp
 have HSA1:=yb (HSA.out _ HM1.out.bel)
 go_wp2_with fail
 refine HSA1.out.mono ?_
 rintro e w2 ⟨rfl,hb2⟩
 have HM2:=yb (HM1.out.on hb2)
 clear hb2 a0 a1 a2 a3 a4 b0 b1 b2 b3 b4 HM1 HSA HSA1
 by_cases hcc:cc=0
 case neg =>
  have e1:(cc==0)=false:=by rw [yf];exact hcc
  have HE:=yb (HXN.out (HCN2.out hcc))
  clear hcc HNG HY HG1 HG2 HXN HCN2 HCX
  go_wp2_with fail
  go_ret
  exact ⟨by rw [HE.out];rfl,HM2.out.bel⟩
 have e1:(cc==0)=true:=by rw [beq_iff_eq];exact hcc
 have HY2:=yb (HY.out (HCX.out hcc))
 clear hcc HY HXN HCN2 HCX
 go_wp2_with fail
 go_loopw [5] (fun v wr=>∃c:Nat,v=.int .i64 c/\c<=gs.length/\Hid (gs.take c=gs'.take c)/\Hid (SmM w wr B B2 #[.slice ga gs.length gc,.int .i64 xk,.int .i64 xn,.string xb,.slice sa xl sc] #[.slice ga' gs.length gc',.int .i64 xk',.int .i64 xn',.string xb',.slice sa' xl' sc'])) (fun v _=>gs.length-(intOf v).toNat)
 case atStart=>exact ⟨0,rfl,Nat.zero_le _,yb rfl,HM2⟩
 case round =>
  obtain ⟨c,rfl,hc,HTK,HM⟩:=hrel
  obtain ⟨⟨a0,a1,a2,a3,a4⟩,-⟩:=zaL HM.out.one
  obtain ⟨⟨b0,b1,b2,b3,b4⟩,-⟩:=zaL HM.out.two
  by_cases hlt:c<gs.length
  case neg =>
   have hcd:decide ((c:Int)<(gs.length:Int))=false:=ye (by omega)
   have hcd2:decide (c<gs.length)=false:=ye (by omega)
   have HE:=yb (HY2.out (by
    have h1:=HTK.out
    rw [List.take_of_length_le (by omega),List.take_of_length_le (by have:=HLEN.out;omega)] at h1
    exact h1))
   clear HTK HY2 HNG HG1 HG2
   go_wp2
   go_ret
   exact ⟨by rw [HE.out];rfl,HM.out.bel⟩
  have hcd:decide ((c:Int)<(gs.length:Int))=true:=by simp;omega
  have hcd2:decide (c<gs.length)=true:=by simp;omega
  obtain ⟨-,-,-,b,off,ha,-,-,hat⟩:=(HG1.out wr HM.out.bel).at (by omega)
  obtain ⟨-,-,-,b',off',ha',-,-,hat'⟩:=(HG2.out wr HM.out.bel).at (by omega)
  subst ha
  subst ha'
  obtain ⟨g,hg⟩:∃g,gs[c]?=some g:=⟨_,List.getElem?_eq_getElem hlt⟩
  obtain ⟨g',hg'⟩:∃g,gs'[c]?=some g:=⟨_,List.getElem?_eq_getElem (by have:=HLEN.out;omega)⟩
  obtain ⟨v,hv,g0,g1⟩:=hat c g hg
  obtain ⟨v',hv',g0',g1'⟩:=hat' c g' hg'
  obtain ⟨ea,ec,rfl,hel,hec,-⟩:=hv.len
  obtain ⟨ea',ec',rfl,hel',hec',-⟩:=hv'.len
  have HE1:=yb (fun (W:World) (hb:Below wr.heap.size wr W)=>hv.below hb)
  have HE2:=yb (fun (W:World) (hb:Below wr.heap.size wr W)=>hv'.below hb)
  have he63:(g.es.length:Int)<=9223372036854775807:=by unfold maxLen at hec;omega
  have he64:(g'.es.length:Int)<=9223372036854775807:=by unfold maxLen at hec';omega
  have hci:(c:Int)<(gs.length:Int):=by omega
  have HGN:=yb (fun (h:g≠g')=>HNG.out (at_ne hg hg' h))
  have HTK2:=yb (fun (h:g=g')=>zcX HTK.out hg (by rw [h];exact hg'))
  clear hat hat' hv hv' hg hg' hel hel' hec hec' HTK
  obtain ⟨gf,ge⟩:=g
  obtain ⟨gf',ge'⟩:=g'
  simp only at *
  go_upto_region 6 with fail
  go_cut [6,7] from 24 to 104 (fun v6 v7 wx=>∃q1 q2,v6=.pointer (some ⟨q1,0,none⟩)/\v7=.pointer (some ⟨q2,0,none⟩)/\Hid (GgM wr wx q1 q2 #[.int .i64 gf,.slice ea ge.length ec] #[.int .i64 gf',.slice ea' ge'.length ec']))
  case first =>
   clear a1 a2 a3 a4 b1 b2 b3 b4
   have e0:=cell?_keep (Below.refl _ wr).drew a0
   have e1:=cell?_keep (Below.refl _ wr).drew b0
   have e2:=cell?_keep (Below.refl _ wr).drew g0
   have e3:=cell?_keep (Below.refl _ wr).drew g1
   have e4:=cell?_keep (Below.refl _ wr).drew g0'
   have e5:=cell?_keep (Below.refl _ wr).drew g1'
   go_region_held3 (fun w'=>w'.cell? ⟨B,0,none⟩=some (.slice (some ⟨b,off,none⟩) gs.length gc)/\w'.cell? ⟨B2,0,none⟩=some (.slice (some ⟨b',off',none⟩) gs.length gc')/\w'.cell? ⟨b,off+c*2,none⟩=some (.int .i64 gf)/\w'.cell? ⟨b,off+c*2+1,none⟩=some (.slice ea ge.length ec)/\w'.cell? ⟨b',off'+c*2,none⟩=some (.int .i64 gf')/\w'.cell? ⟨b',off'+c*2+1,none⟩=some (.slice ea' ge'.length ec')) (go_keep) (fail)
   all_goals (try go_wp2_with fail)
   all_goals go_meet
   ·exact ⟨_,_,rfl,rfl,yb ⟨(zaF wr _ _).drew,zak _ (zab _ rfl),zab _ (by rw [zaq])⟩⟩
   ·exact ⟨_,_,rfl,rfl,yb ⟨(zaF wr _ _).drew,zab _ (by rw [zaq]),zak _ (zab _ rfl)⟩⟩
  case rest =>
  obtain ⟨q1,q2,rfl,rfl,HGG⟩:=hcut
  have HM3:=yb (HM.out.on HGG.out.bel)
  clear HM a0 a1 a2 a3 a4 b0 b1 b2 b3 b4 g0 g1 g0' g1'
  obtain ⟨⟨g0,g1⟩,-⟩:=za5 HGG.out.one
  obtain ⟨⟨g0',g1'⟩,-⟩:=za5 HGG.out.two
  by_cases hgf:gf=gf'
  case neg =>
   have e1:(gf==gf')=false:=by rw [yf];exact hgf
   have e2:(gf != gf')=true:=by simp only [bne,e1,yj]
   have HE:=yb (HGN.out (fun e=>hgf (congrArg Grp.first e)))
   clear hgf HGN HTK2 HE1 HE2
   go_wp2_with fail
   go_ret
   exact ⟨by rw [HE.out];rfl,HM3.out.bel⟩
  subst hgf
  have hff:(gf != gf)=false:=by simp
  generalize hL3:ge'.length=L3 at *
  have HLN:=yb hL3
  clear hL3
  by_cases hln:ge.length=L3
  case neg =>
   have e1:((ge.length:Int)==L3)=false:=by rw [yf];omega
   have e2:((ge.length:Int) != L3)=true:=by simp only [bne,e1,yj]
   have HE:=yb (HGN.out (fun e=>hln ((congrArg List.length (congrArg Grp.es e)).trans HLN.out)))
   clear hln HGN HTK2 HE1 HE2
   go_wp2_with fail
   go_ret
   exact ⟨by rw [HE.out];rfl,HM3.out.bel⟩
  subst hln
  have hee:((ge.length:Int) != ge.length)=false:=by simp
  have HGN2:=yb (fun (h:ge≠ge')=>HGN.out (fun e=>h (congrArg Grp.es e)))
  have HTK3:=yb (fun (h:ge=ge')=>HTK2.out (by rw [h]))
  clear HGN HTK2
  go_wp2_with fail
  clear g0 g1 g0' g1'
  go_loopw [8] (fun v wr2=>∃d:Nat,v=.int .i64 d/\d<=ge.length/\Hid (ge.take d=ge'.take d)/\Hid (SmM w wr2 B B2 #[.slice (some ⟨b,off,none⟩) gs.length gc,.int .i64 xk,.int .i64 xn,.string xb,.slice sa xl sc] #[.slice (some ⟨b',off',none⟩) gs.length gc',.int .i64 xk',.int .i64 xn',.string xb',.slice sa' xl' sc'])/\Hid (GgM wr wr2 q1 q2 #[.int .i64 gf,.slice ea ge.length ec] #[.int .i64 gf,.slice ea' ge.length ec'])) (fun v _=>ge.length-(intOf v).toNat)
  case atStart=>exact ⟨0,rfl,Nat.zero_le _,yb rfl,HM3,HGG⟩
  case round =>
   obtain ⟨d,rfl,hd,HTD,HMM,HGQ⟩:=hrel
   obtain ⟨⟨g0,g1⟩,-⟩:=za5 HGQ.out.one
   obtain ⟨⟨g0',g1'⟩,-⟩:=za5 HGQ.out.two
   by_cases hle:d<ge.length
   case neg =>
    have hdd:decide ((d:Int)<(ge.length:Int))=false:=ye (by omega)
    have hdd2:decide (d<ge.length)=false:=ye (by omega)
    have HTC:=yb (HTK3.out (by
     have h1:=HTD.out
     rw [List.take_of_length_le (by omega),List.take_of_length_le (by have:=HLN.out;omega)] at h1
     exact h1))
    clear HTD HTK3 HGN2
    go_wp2
    go_roundw
    case rel=>exact ⟨c+1,by go_num,by omega,HTC,HMM⟩
    case measure=>simp [intOf];omega
   have hdd:decide ((d:Int)<(ge.length:Int))=true:=by simp;omega
   have hdd2:decide (d<ge.length)=true:=by simp;omega
   have hdi:(d:Int)<(ge.length:Int):=by omega
   obtain ⟨-,-,-,be,oe,hae,-,-,hat⟩:=(HE1.out wr HGQ.out.bel).at (by omega)
   obtain ⟨-,-,-,be',oe',hae',-,-,hat'⟩:=(HE2.out wr HGQ.out.bel).at (by omega)
   subst hae
   subst hae'
   obtain ⟨ee,hee1⟩:∃ee,ge[d]?=some ee:=⟨_,List.getElem?_eq_getElem hle⟩
   obtain ⟨ff,hff1⟩:∃ee,ge'[d]?=some ee:=⟨_,List.getElem?_eq_getElem (by have:=HLN.out;omega)⟩
   obtain ⟨e0,e1,e2⟩:=hat d ee hee1
   obtain ⟨e0',e1',e2'⟩:=hat' d ff hff1
   have HEN:=yb (fun (h:ee≠ff)=>HGN2.out (at_ne hee1 hff1 h))
   have HTD2:=yb (fun (h:ee=ff)=>zcX HTD.out hee1 (by rw [h];exact hff1))
   clear hat hat' hee1 hff1 HTD
   obtain ⟨na,ng,nu⟩:=ee
   obtain ⟨na',ng',nu'⟩:=ff
   simp only at *
   have HB3:=yb (fun q=>HMM.out.on (zad (Below.refl _ _) q))
   have HB4:=yb (fun q=>HGQ.out.on (zad (Below.refl _ _) q))
   have HB5:=yb (fun q=>zad HMM.out.bel q)
   go_upto_region 12 with fail
   by_cases hna:na=na'
   case neg =>
    have u1:(na==na')=false:=by rw [yf];exact hna
    have u2:(na != na')=true:=by simp only [bne,u1,yj]
    have HE:=yb (HEN.out (fun e=>hna (congrArg Ent.at_ e)))
    clear HEN HTD2 hna
    go_quiet (fail)
    go_wp2_with fail
    go_ret
    exact ⟨by rw [HE.out];rfl,HB5.out _⟩
   subst hna
   have u1:(na != na)=false:=by simp
   by_cases hng:ng=ng'
   case neg =>
    have u3:(ng==ng')=false:=by rw [yf];exact hng
    have u4:(ng != ng')=true:=by simp only [bne,u3,yj]
    have HE:=yb (HEN.out (fun e=>hng (congrArg Ent.gen e)))
    clear HEN HTD2 hng
    go_quiet (fail)
    go_wp2_with fail
    go_ret
    exact ⟨by rw [HE.out];rfl,HB5.out _⟩
   subst hng
   have u2:(ng != ng)=false:=by simp
   by_cases hnu:nu=nu'
   case neg =>
    have u3:(nu==nu')=false:=by rw [yf];exact hnu
    have u4:(nu != nu')=true:=by simp only [bne,u3,yj]
    have HE:=yb (HEN.out (fun e=>hnu (congrArg Ent.used e)))
    clear HEN HTD2 hnu
    go_quiet (fail)
    go_wp2_with fail
    go_ret
    exact ⟨by rw [HE.out];rfl,HB5.out _⟩
   subst hnu
   have u3:(nu != nu)=false:=by simp
   have HTD3:=yb (HTD2.out rfl)
   clear HEN HTD2
   go_quiet (fail)
   go_wp2_with fail
   go_roundw
   case rel=>exact ⟨d+1,by go_num,by omega,HTD3,HB3.out _,HB4.out _⟩
   case measure=>simp [intOf];omega
set_option maxRecDepth 100000 in
theorem bcmp_any (a b:ByteArray) (w:World):Calls Tryz.prog 124 #[.string a,.string b] w fun e w'=>e=.returned (.int .i64 (Lib.compareBytes a.data.toList b.data.toList))/\w=w':=by
 go_enter Tryz.func124,Tryz.ntmps124
 go_wp2
 rw [run_callFunc_extern Tryz.func154 (by kernel_rfl) (by kernel_rfl) (by kernel_rfl) (e:=Extern.BytealgCompare.compare) (by kernel_rfl),Lib.run_compareString]
 simp only [Result.andThen]
 rw [Oper.upon_value]
 go_wp2
 go_ret
 exact ⟨rfl,rfl⟩
theorem scmp_any (a b:ByteArray) (w:World):Calls Tryz.prog 85 #[.string a,.string b] w fun e w'=>e=.returned (.int .i64 (Lib.compareBytes a.data.toList b.data.toList))/\w=w':=by
 have HC:=yb (fun W=>bcmp_any a b W)
 go_enter Tryz.func85,Tryz.ntmps85
 go_wp2_with (go_at_call 124;refine (HC.out _).mono ?_;rintro e w' ⟨rfl,rfl⟩)
 go_ret
 exact ⟨rfl,rfl⟩
theorem isNaN_any (x:Int) (w:World):Calls Tryz.prog 123 #[.int .i64 x] w fun e w'=>e=.returned (.bool false)/\w=w':=by
 have h:(x != x)=false:=by simp
 go_enter Tryz.func123,Tryz.ntmps123
 go_wp2
 go_ret
 exact ⟨rfl,rfl⟩
theorem icmp_eq (x:Int) (w:World):Calls Tryz.prog 84 #[.int .i64 x,.int .i64 x] w fun e w'=>e=.returned (.int .i64 0)/\w=w':=by
 have HN:=yb (fun W=>isNaN_any x W)
 have h:decide (x<x)=false:=by simp
 go_enter Tryz.func84,Tryz.ntmps84
 go_wp2_with (go_at_call 123;refine (HN.out _).mono ?_;rintro e w' ⟨rfl,rfl⟩)
 go_ret
 exact ⟨rfl,rfl⟩
theorem zca:∀l:List UInt8,Lib.compareBytes l l=0
 | []=>rfl
 | a::l=>by
  rw [Lib.compareBytes,yh (UInt8.lt_irrefl a),yh (UInt8.lt_irrefl a)]
  exact zca l
theorem or_zero {w:World} {b:Nat} (h0:w.cell? ⟨b,0,none⟩=some (.int .i64 0)) (h1:w.cell? ⟨b,1,none⟩=some (.int .i64 0)) (h2:w.cell? ⟨b,2,none⟩=some (.int .i64 0)) :
  Calls Tryz.prog 83 #[.slice (some ⟨b,0,none⟩) 3 3] w fun e w'=>e=.returned (.int .i64 0)/\w=w':=by
 have hc:∀j:Nat,j<3->w.cell? ⟨b,0+j,none⟩=some (.int .i64 0):=fun j hj=>by
  match j,hj with
  | 0,_=>exact h0
  | 1,_=>exact h1
  | 2,_=>exact h2
 have HC:=yb hc
 clear h0 h1 h2 hc
 go_enter Tryz.func83,Tryz.ntmps83
 go_wp2
 go_loop [8] (fun v=>∃j:Nat,v=.int .i64 j/\j<=3) (fun v=>3-(intOf v).toNat)
 case atStart=>exact ⟨0,rfl,by omega⟩
 case round =>
  obtain ⟨j,rfl,hj⟩:=hrel
  by_cases hl:j<3
  ·have hd:decide ((j:Int)<3)=true:=by simp;omega
   have hd2:decide (j<3)=true:=by simp;omega
   have hcj:=HC.out j hl
   rw [Nat.zero_add] at hcj
   have hji:(j:Int)<3:=by omega
   go_wp2
   go_round
   case rel=>exact ⟨j+1,by go_num,by omega⟩
   case measure=>simp [intOf];omega
  ·have hd:decide ((j:Int)<3)=false:=ye (by omega)
   have hd2:decide (j<3)=false:=ye (by omega)
   go_wp2
   go_ret
   exact ⟨rfl,rfl⟩
def zew (x y:Int):Int:=if x<y then -1 else if y<x then 1 else 0
theorem icmp_any (x y:Int) (w:World):Calls Tryz.prog 84 #[.int .i64 x,.int .i64 y] w fun e w'=>e=.returned (.int .i64 (zew x y))/\w=w':=by
 have HN:=yb (fun x W=>isNaN_any x W)
 unfold zew
 by_cases h1:x<y
 ·have d1:decide (x<y)=true:=yd h1
  rw [yg h1]
  clear h1
  go_enter Tryz.func84,Tryz.ntmps84
  go_wp2_with (go_at_call 123;refine (HN.out _ _).mono ?_;rintro e w' ⟨rfl,rfl⟩)
  go_ret
  exact ⟨rfl,rfl⟩
 have d1:decide (x<y)=false:=ye h1
 rw [yh h1]
 by_cases h2:y<x
 ·have d2:decide (y<x)=true:=yd h2
  rw [yg h2]
  clear h1 h2
  go_enter Tryz.func84,Tryz.ntmps84
  go_wp2_with (go_at_call 123;refine (HN.out _ _).mono ?_;rintro e w' ⟨rfl,rfl⟩)
  go_ret
  exact ⟨rfl,rfl⟩
 ·have d2:decide (y<x)=false:=ye h2
  rw [yh h2]
  clear h1 h2
  go_enter Tryz.func84,Tryz.ntmps84
  go_wp2_with (go_at_call 123;refine (HN.out _ _).mono ?_;rintro e w' ⟨rfl,rfl⟩)
  go_ret
  exact ⟨rfl,rfl⟩
def orV (x y z:Int):Int:=if x≠0 then x else if y≠0 then y else z
theorem or_any {w:World} {b:Nat} {x y z:Int} (h0:w.cell? ⟨b,0,none⟩=some (.int .i64 x)) (h1:w.cell? ⟨b,1,none⟩=some (.int .i64 y)) (h2:w.cell? ⟨b,2,none⟩=some (.int .i64 z)) :
  Calls Tryz.prog 83 #[.slice (some ⟨b,0,none⟩) 3 3] w fun e w'=>e=.returned (.int .i64 (orV x y z))/\w=w':=by
 obtain ⟨f,hf⟩:∃f:Nat->Int,f=fun j=>if j=0 then x else if j=1 then y else z:=⟨_,rfl⟩
 have hc:∀j:Nat,j<3->w.cell? ⟨b,0+j,none⟩=some (.int .i64 (f j)):=fun j hj=>by
  subst hf
  match j,hj with
  | 0,_=>exact h0
  | 1,_=>exact h1
  | 2,_=>exact h2
 obtain ⟨R,hR⟩:∃R,R=orV x y z:=⟨_,rfl⟩
 rw [<-hR]
 have hit:∀j,j<3->(∀i,i<j->f i=0)->f j≠0->R=f j:=fun j hj hz hn=>by
  subst hf
  unfold orV at hR
  match j,hj with
  | 0,_=>rw [hR,yg (by simpa using hn)];rfl
  | 1,_ =>
   have e0:x=0:=by simpa using hz 0 (by omega)
   rw [hR,yh (by simp [e0]),yg (by simpa using hn)];rfl
  | 2,_ =>
   have e0:x=0:=by simpa using hz 0 (by omega)
   have e1:y=0:=by simpa using hz 1 (by omega)
   rw [hR,yh (by simp [e0]),yh (by simp [e1])];rfl
 have none:(∀i,i<3->f i=0)->R=0:=fun hz=>by
  subst hf
  have e0:x=0:=by simpa using hz 0 (by omega)
  have e1:y=0:=by simpa using hz 1 (by omega)
  have e2:z=0:=by simpa using hz 2 (by omega)
  rw [hR,e0,e1,e2];rfl
 have HC:=yb hc
 have HT:=yb hit
 have HN:=yb none
 clear h0 h1 h2 hc hit none hR hf
 go_enter Tryz.func83,Tryz.ntmps83
 go_wp2
 go_loop [8] (fun v=>∃j:Nat,v=.int .i64 j/\j<=3/\Hid (∀i,i<j->f i=0)) (fun v=>3-(intOf v).toNat)
 case atStart=>exact ⟨0,rfl,by omega,yb (fun i hi=>absurd hi (Nat.not_lt_zero _))⟩
 case round =>
  obtain ⟨j,rfl,hj,HZ⟩:=hrel
  by_cases hl:j<3
  ·have hd:decide ((j:Int)<3)=true:=by simp;omega
   have hd2:decide (j<3)=true:=by simp;omega
   have hcj:=HC.out j hl
   rw [Nat.zero_add] at hcj
   have hji:(j:Int)<3:=by omega
   have HT2:=yb (HT.out j hl HZ.out)
   have HZ2:=yb (show f j=0->∀i,i<j+1->f i=0 from fun h0 i hi=>by
    by_cases e:i=j
    ·rw [e];exact h0
    ·exact HZ.out i (by omega))
   clear HC HT HN HZ
   generalize f j=u at *
   by_cases hu:u=0
   ·subst hu
    have HZ3:=yb (HZ2.out rfl)
    clear HT2 HZ2
    go_wp2
    go_round
    case rel=>exact ⟨j+1,by go_num,by omega,HZ3⟩
    case measure=>simp [intOf];omega
   ·have e1:(u==0)=false:=by rw [yf];exact hu
    have e2:(u != 0)=true:=by simp only [bne,e1,yj]
    have HR:=yb (HT2.out hu)
    clear HT2 HZ2 hu
    go_wp2
    go_ret
    exact ⟨by rw [HR.out];rfl,rfl⟩
  ·have hd:decide ((j:Int)<3)=false:=ye (by omega)
   have hd2:decide (j<3)=false:=ye (by omega)
   obtain rfl:j=3:=by omega
   have HR:=yb (HN.out HZ.out)
   clear HC HT HN HZ
   go_wp2
   go_ret
   exact ⟨by rw [HR.out];rfl,rfl⟩
theorem cmpB_is:∀a b:List UInt8,Lib.compareBytes a b=if sLt a b=true then -1 else if a=b then 0 else 1
 | [],[]=>rfl
 | [],_::_=>rfl
 | _::_,[]=>rfl
 | a::l,b::m=>by
  have ih:=cmpB_is l m
  rw [Lib.compareBytes,sLt,ih]
  by_cases h1:a<b
  ·have h1':a.toNat<b.toNat:=UInt8.lt_iff_toNat_lt.1 h1
   rw [yg h1,yg h1',yg rfl]
  ·have h1':¬a.toNat<b.toNat:=fun h=>h1 (UInt8.lt_iff_toNat_lt.2 h)
   rw [yh h1,yh h1']
   by_cases h2:b<a
   ·have h2':b.toNat<a.toNat:=UInt8.lt_iff_toNat_lt.1 h2
    rw [yg h2,yg h2',yh (by decide),yh (by intro h;injection h with h3;rw [h3] at h2';omega)]
   ·have h2':¬b.toNat<a.toNat:=fun h=>h2 (UInt8.lt_iff_toNat_lt.2 h)
    have e:a=b:=UInt8.toNat_inj.1 (by omega)
    rw [yh h2,yh h2',e]
    simp
theorem cmp_parts (a b:PV):zau a b=if orV (zew a.kind b.kind) (zew a.n b.n) (Lib.compareBytes a.s b.s)≠0 then orV (zew a.kind b.kind) (zew a.n b.n) (Lib.compareBytes a.s b.s) else zaU a.l b.l:=by
 obtain ⟨k,n,s,l⟩:=a
 obtain ⟨k2,n2,s2,l2⟩:=b
 simp only [PV.kind,PV.n,PV.s,PV.l,zau,cmpB_is]
 unfold orV zew
 by_cases h1:k<k2
 ·simp [h1]
 by_cases h2:k2<k
 ·have:k≠k2:=by omega
  simp [h1,h2,this]
 obtain rfl:k=k2:=by omega
 by_cases h3:n<n2
 ·simp [h3]
 by_cases h4:n2<n
 ·have:n≠n2:=by omega
  simp [h3,h4,this]
 obtain rfl:n=n2:=by omega
 by_cases h5:sLt s s2=true
 ·simp [h5]
 by_cases h6:s=s2
 ·subst h6;simp [h5]
 ·simp [h5,h6]
def CmpE (a b:PV) (w:World) (e:Ending) (w':World):Prop:=e=.returned (.int .i64 (zau a b))/\Below w.heap.size w w'
def CmpAll (N:Nat):Prop:=∀(a b:PV) (sa sb:Value) (w:World),SizeOf.sizeOf a<=N->IsV w anyF a sa->IsV w anyF b sb->Calls Tryz.prog 51 #[pvA a sa,pvA b sb] w (CmpE a b w)
theorem cmpF_any {N:Nat} (ih:CmpAll N) {u v:PV} {a a':Option Addr} {c c':Nat} {w:World} (hu:∀(k:Nat) (x:PV),u.l[k]?=some x->SizeOf.sizeOf x<=N) (h:IsV w anyF u (.slice a u.l.length c)) (h':IsV w anyF v (.slice a' v.l.length c')) :
  Calls Tryz.prog 86 #[.slice a u.l.length c,.slice a' v.l.length c',.func (.func 51) #[] #[]] w fun e w'=>e=.returned (.int .i64 (zaU u.l v.l))/\Below w.heap.size w w':=by
 obtain ⟨l,hl⟩:∃l,l=u.l:=⟨_,rfl⟩
 obtain ⟨m,hm⟩:∃m,m=v.l:=⟨_,rfl⟩
 obtain ⟨_,_,e1,g1,g2,-⟩:=h.len
 injection e1 with e1a e1b e1c
 subst e1a e1c
 obtain ⟨_,_,e2,g3,g4,-⟩:=h'.len
 injection e2 with e2a e2b e2c
 subst e2a e2c
 clear e1b e2b
 rw [<-hl] at g1
 rw [<-hm] at g3
 have m1:(l.length:Int)<=9223372036854775807:=by unfold maxLen at g2;omega
 have m2:(m.length:Int)<=9223372036854775807:=by unfold maxLen at g4;omega
 have HU:=yb hu
 have HA:=yb h
 have HB:=yb h'
 have HL:=yb hl
 have HM:=yb hm
 have HI:=yb ih
 unfold CmpAll at HI
 obtain ⟨R,hR⟩:∃R,R=zaU l m:=⟨_,rfl⟩
 rw [hl,hm] at hR
 rw [<-hR]
 rw [<-hl,<-hm] at hR |-
 have HR:=yb hR
 clear hu h h' hl hm ih hR g2 g4
 go_enter Tryz.func86,Tryz.ntmps86
 go_wp2_with fail
 go_loopw [13] (fun vj wr=>∃j:Nat,vj=.int .i64 j/\j<=l.length/\j<=m.length/\Hid (Below w.heap.size w wr)/\Hid (R=zaU (l.drop j) (m.drop j))) (fun vj _=>l.length-(intOf vj).toNat)
 case atStart=>exact ⟨0,rfl,Nat.zero_le _,Nat.zero_le _,yb (Below.refl _ _),HR⟩
 case round =>
  obtain ⟨j,rfl,hj,hjm,HW,HV⟩:=hrel
  by_cases q1:j<l.length
  case neg =>
   have hje:j=l.length:=by omega
   have d1:decide ((j:Int)<(l.length:Int))=false:=ye (by omega)
   have d2:decide (j<l.length)=false:=ye q1
   by_cases q2:l.length<m.length
   ·have d3:decide (l.length<m.length)=true:=yd q2
    have d4:decide ((l.length:Int)<(m.length:Int))=true:=yd (by omega)
    have hr:=HV.out
    rw [zen (by omega) hj hjm,yg q2] at hr
    have HE:=yb hr
    clear hr HV hje HR HU HA HB HI
    go_wp2
    go_ret
    exact ⟨by rw [HE.out];rfl,HW.out⟩
   ·have d3:decide (l.length<m.length)=false:=ye q2
    have d4:decide ((l.length:Int)<(m.length:Int))=false:=ye (by omega)
    have hr:=HV.out
    rw [zen (by omega) hj hjm,yh q2,yh (by omega)] at hr
    have HE:=yb hr
    clear hr HV hje HR HU HA HB HI
    go_wp2
    go_ret
    exact ⟨by rw [HE.out];rfl,HW.out⟩
  have d1:decide ((j:Int)<(l.length:Int))=true:=yd (by omega)
  have d2:decide (j<l.length)=true:=yd q1
  have hjl:(j:Int)<(l.length:Int):=by omega
  obtain ⟨x,hx⟩:∃x,l[j]?=some x:=⟨_,List.getElem?_eq_getElem q1⟩
  obtain ⟨-,-,-,b1,o1,rfl,-,-,hax⟩:=(HA.out.below HW.out).at (by rw [<-HL.out];omega)
  rw [<-HL.out] at hax
  obtain ⟨sx,hsx,x0,x1,x2,x3⟩:=hax j x hx
  obtain ⟨xa,xc,rfl,-,-,-⟩:=hsx.len
  clear hax
  have HNX:=yb (HU.out j x (by rw [<-HL.out];exact hx))
  have HX:=yb hx
  have HBA:=yb (HW.out.alloc HW.out.size (.cells #[.int .i64 x.kind,.int .i64 x.n,.string (mkB x.s),.slice xa x.l.length xc] 25))
  have hbx:=zae wr (.cells #[.int .i64 x.kind,.int .i64 x.n,.string (mkB x.s),.slice xa x.l.length xc] 25)
  have HGX:=yb (zab (w:=wr) (.cells #[.int .i64 x.kind,.int .i64 x.n,.string (mkB x.s),.slice xa x.l.length xc] 25) rfl)
  have HSX:=yb (hsx.below hbx)
  clear hbx hx
  go_upto_region 4 with fail
  clear x0 x1 x2 x3 hsx
  generalize wr.heap.size=G at *
  generalize World.alloc _ _=W2 at *
  by_cases q2:j<m.length
  case neg =>
   have d3:decide (m.length<=j)=true:=yd (by omega)
   have d4:decide ((m.length:Int)<=(j:Int))=true:=yd (by omega)
   have hr:=HV.out
   rw [zen (by omega) hj hjm,yh (by omega),yg (by omega)] at hr
   have HE:=yb hr
   clear hr HV HR HU HA HB HI
   go_wp2
   go_ret
   exact ⟨by rw [HE.out];rfl,HBA.out⟩
  have d3:decide (m.length<=j)=false:=ye (by omega)
  have d4:decide ((m.length:Int)<=(j:Int))=false:=ye (by omega)
  have hjm2:(j:Int)<(m.length:Int):=by omega
  obtain ⟨y,hy⟩:∃y,m[j]?=some y:=⟨_,List.getElem?_eq_getElem q2⟩
  obtain ⟨-,-,-,b2,o2,rfl,-,-,hay⟩:=(HB.out.below HBA.out).at (by rw [<-HM.out];omega)
  rw [<-HM.out] at hay
  obtain ⟨sy,hsy,y0,y1,y2,y3⟩:=hay j y hy
  obtain ⟨ya,yc,rfl,-,-,-⟩:=hsy.len
  clear hay
  have HV2:=yb (HV.out.trans (cmpL_step HX.out hy))
  have hby:=zae W2 (.cells #[.int .i64 y.kind,.int .i64 y.n,.string (mkB y.s),.slice ya y.l.length yc] 25)
  have HBB:=yo HBA hby
  have HGY:=yb (zab (w:=W2) (.cells #[.int .i64 y.kind,.int .i64 y.n,.string (mkB y.s),.slice ya y.l.length yc] 25) rfl)
  have HGX2:=yb (zak (.cells #[.int .i64 y.kind,.int .i64 y.n,.string (mkB y.s),.slice ya y.l.length yc] 25) HGX.out)
  have HSX2:=yb (HSX.out.below hby)
  have HSY2:=yb (hsy.below hby)
  clear hby hy
  go_upto_region 7 with fail
  clear y0 y1 y2 y3 hsy HGX HSX HBA HV
  generalize W2.heap.size=G2 at *
  generalize World.alloc _ _=W3 at *
  obtain ⟨⟨x0,x1,x2,x3⟩,-⟩:=zah HGX2.out
  obtain ⟨⟨y0,y1,y2,y3⟩,-⟩:=zah HGY.out
  have HC:=yb (HI.out x y _ _ W3 HNX.out HSX2.out HSY2.out)
  unfold CmpE pvA at HC
  clear HNX HX HSX2 HSY2 HGX2 HGY
  generalize zau x y=cc at *
  generalize x.kind=xk at *
  generalize x.n=xn at *
  generalize mkB x.s=xs at *
  generalize x.l.length=xl at *
  generalize y.kind=yk at *
  generalize y.n=yn at *
  generalize mkB y.s=ys at *
  generalize y.l.length=yl at *
  go_wp2_with fail
  refine HC.out.mono ?_
  rintro e w4 ⟨rfl,hb4⟩
  have HB4:=yo HBB hb4
  clear hb4 HC x0 x1 x2 x3 y0 y1 y2 y3 HBB
  by_cases hcc:cc=0
  ·have e1:(cc==0)=true:=by rw [beq_iff_eq];exact hcc
   have e2:(cc != 0)=false:=by simp only [bne,e1,Bool.not_true]
   have HV3:=yb (HV2.out.trans (yh (by simpa using hcc)))
   clear HV2 hcc
   go_wp2
   go_roundw
   case rel=>exact ⟨j+1,by go_num,by omega,by omega,HB4,HV3⟩
   case measure=>simp [intOf];omega
  ·have e1:(cc==0)=false:=by rw [yf];exact hcc
   have e2:(cc != 0)=true:=by simp only [bne,e1,yj]
   have HE:=yb (HV2.out.trans (yg hcc))
   clear HV2 hcc HR HU HA HB HI
   go_wp2
   go_ret
   exact ⟨by rw [HE.out];rfl,HB4.out⟩
theorem vcmp_step {N:Nat} (ih:CmpAll N) (a b:PV) (sa sb:Value) (w:World) (hN:SizeOf.sizeOf a<=N+1) (ha:IsV w anyF a sa) (hb:IsV w anyF b sb):Calls Tryz.prog 51 #[pvA a sa,pvA b sb] w (CmpE a b w):=by
 have hu:∀(k:Nat) (x:PV),a.l[k]?=some x->SizeOf.sizeOf x<=N:=fun k x h=>by have:=zbh h;omega
 have HF:=yb (fun (W:World) (aa ba:Option Addr) (ac bc:Nat) (h1:IsV W anyF a (.slice aa a.l.length ac)) (h2:IsV W anyF b (.slice ba b.l.length bc))=>cmpF_any ih hu h1 h2)
 obtain ⟨aa,ac,rfl,-,-,-⟩:=ha.len
 obtain ⟨ba,bc,rfl,-,-,-⟩:=hb.len
 have HF2:=yb (fun (W:World) (h:Below w.heap.size w W)=>HF.out W aa ba ac bc (ha.below h) (hb.below h))
 have HI:=yb (fun x y W=>icmp_any x y W)
 have HS:=yb (fun W=>scmp_any (mkB a.s) (mkB b.s) W)
 rw [show (mkB a.s).data.toList=a.s from rfl,show (mkB b.s).data.toList=b.s from rfl] at HS
 have HO:=yb (fun (x y z:Int) (W:World) (b:Nat) (h0:W.cell? ⟨b,0,none⟩=some (.int .i64 x)) (h1:W.cell? ⟨b,1,none⟩=some (.int .i64 y)) (h2:W.cell? ⟨b,2,none⟩=some (.int .i64 z))=>or_any h0 h1 h2)
 have hp:=cmp_parts a b
 unfold CmpE
 obtain ⟨R,hR⟩:∃R,R=zau a b:=⟨_,rfl⟩
 rw [<-hR] at hp |-
 have HP:=yb hp
 clear ha hb hN hu ih hR hp HF
 unfold pvA
 generalize zaU a.l b.l=cl at *
 obtain ⟨c3,hc3⟩:∃c3,c3=Lib.compareBytes a.s b.s:=⟨_,rfl⟩
 rw [<-hc3] at HS HP
 clear hc3
 generalize a.kind=ak at *
 generalize a.n=an at *
 generalize mkB a.s=ast at *
 generalize a.l.length=al at *
 generalize b.kind=bk at *
 generalize b.n=bn at *
 generalize mkB b.s=bst at *
 generalize b.l.length=bl at *
 obtain ⟨B,hB⟩:∃B,B=w.heap.size:=⟨_,rfl⟩
 have HB1:=yb (zaF w (.cells #[.int .i64 ak,.int .i64 an,.string ast,.slice aa al ac] 25) (.cells #[.int .i64 bk,.int .i64 bn,.string bst,.slice ba bl bc] 25))
 have HX1:=yb (zak (w:=w.alloc (.cells #[.int .i64 ak,.int .i64 an,.string ast,.slice aa al ac] 25)) (.cells #[.int .i64 bk,.int .i64 bn,.string bst,.slice ba bl bc] 25) (zab (w:=w) (b:=B) (.cells #[.int .i64 ak,.int .i64 an,.string ast,.slice aa al ac] 25) hB))
 have HY1:=yb (zab (w:=w.alloc (.cells #[.int .i64 ak,.int .i64 an,.string ast,.slice aa al ac] 25)) (b:=B+1) (.cells #[.int .i64 bk,.int .i64 bn,.string bst,.slice ba bl bc] 25) (by rw [zaq,hB]))
 go_enter Tryz.func51,Tryz.ntmps51
 go_upto_region 1 with fail
 try rw [<-hB]
 generalize World.alloc _ _=W1 at *
 clear hB
 generalize B+1=B2 at *
 obtain ⟨o,ho⟩:∃o,o=orV (zew ak bk) (zew an bn) c3:=⟨_,rfl⟩
 rw [<-ho] at HP
 have HOO:=yb ho
 go_cut [5] from 6 (fun v wx=>v=.int .i64 o/\Hid (Below W1.heap.size W1 wx))
 case first =>
  obtain ⟨⟨p0,p1,p2,p3⟩,-⟩:=zah HX1.out
  obtain ⟨⟨q0,q1,q2,q3⟩,-⟩:=zah HY1.out
  have HC3:=yb (zbC (zab (w:=W1) (b:=W1.heap.size) (.cells #[.int .i64 (zew ak bk),.int .i64 (zew an bn),.int .i64 c3] 3) rfl))
  have d0:=cell?_keep (Below.refl _ W1).drew p0
  have d1:=cell?_keep (Below.refl _ W1).drew p1
  have d2:=cell?_keep (Below.refl _ W1).drew p2
  have e0:=cell?_keep (Below.refl _ W1).drew q0
  have e1:=cell?_keep (Below.refl _ W1).drew q1
  have e2:=cell?_keep (Below.refl _ W1).drew q2
  clear ho HP HF2
  go_region_held3 (fun w'=>w'.cell? ⟨B,0,none⟩=some (.int .i64 ak)/\w'.cell? ⟨B,1,none⟩=some (.int .i64 an)/\w'.cell? ⟨B,2,none⟩=some (.string ast)/\w'.cell? ⟨B2,0,none⟩=some (.int .i64 bk)/\w'.cell? ⟨B2,1,none⟩=some (.int .i64 bn)/\w'.cell? ⟨B2,2,none⟩=some (.string bst)) (go_keep)
   ((first
    |(go_at_call 84;refine (HI.out _ _ _).mono ?_;rintro e w' ⟨rfl,rfl⟩)
    |(go_at_call 85;refine (HS.out _).mono ?_;rintro e w' ⟨rfl,rfl⟩)
    |(go_at_call 83;refine (HO.out _ _ _ _ _ (cell?_keep (Below.refl _ _).drew HC3.out.1.1) (cell?_keep (Below.refl _ _).drew HC3.out.1.2.1) (cell?_keep (Below.refl _ _).drew HC3.out.1.2.2)).mono ?_;rintro e w' ⟨rfl,rfl⟩)))
  all_goals (try go_wp2_with fail)
  all_goals go_meet
  all_goals exact ⟨by rw [HOO.out],yb (zae W1 _).drew⟩
 case rest =>
 obtain ⟨rfl,HB2⟩:=hcut
 have HX2:=yb (zaa HB2.out HX1.out)
 have HY2:=yb (zaa HB2.out HY1.out)
 obtain ⟨⟨p0,p1,p2,p3⟩,-⟩:=zah HX2.out
 obtain ⟨⟨q0,q1,q2,q3⟩,-⟩:=zah HY2.out
 have HBB:=yb (HB1.out.trans (HB2.out.mono HB1.out.size))
 have HF3:=yb (HF2.out _ HBB.out)
 clear HF2 HO HI HS HOO ho
 by_cases h0:o=0
 ·subst h0
  have HE:=yb (HP.out.trans (yh (by decide)))
  clear HP
  go_wp2_with (go_at_call 86;refine HF3.out.mono ?_;rintro e w' ⟨rfl,hb⟩)
  go_ret
  exact ⟨by rw [HE.out];rfl,HBB.out.trans (hb.mono HBB.out.size)⟩
 ·have e1:(o==0)=false:=by rw [yf];exact h0
  have e2:(o != 0)=true:=by simp only [bne,e1,yj]
  have HE:=yb (HP.out.trans (yg h0))
  clear HP h0 HF3
  go_wp2
  go_ret
  exact ⟨by rw [HE.out];rfl,HBB.out⟩
theorem vcmp_all:∀N:Nat,CmpAll N
 | 0=>fun a _ _ _ _ h=>by obtain ⟨_,_,_,_⟩:=a;simp at h
 | N+1=>fun a b sa sb w hN ha hb=>vcmp_step (vcmp_all N) a b sa sb w hN ha hb
theorem vsame_any {a b:PV} {sa sb:Value} {w:World} (ha:IsV w anyF a sa) (hb:IsV w anyF b sb) :
  Calls Tryz.prog 22 #[pvA a sa,pvA b sb] w fun e w'=>e=.returned (.bool (zau a b==0))/\Below w.heap.size w w':=by
 have HB0:=yb (zaF w (.cells #[.int .i64 a.kind,.int .i64 a.n,.string (mkB a.s),sa] 25) (.cells #[.int .i64 b.kind,.int .i64 b.n,.string (mkB b.s),sb] 25))
 have hc:=fun (W:World) (h:Below w.heap.size w W)=>vcmp_all _ a b sa sb W (yp _) (ha.below h) (hb.below h)
 unfold CmpE at hc
 obtain ⟨aa,ac,rfl,-,-,-⟩:=ha.len
 obtain ⟨ba,bc,rfl,-,-,-⟩:=hb.len
 unfold pvA at *
 have HC:=yb hc
 clear hc ha hb
 generalize zau a b=c at *
 generalize a.kind=a0 at *
 generalize a.n=a1 at *
 generalize mkB a.s=a2 at *
 generalize a.l.length=a3 at *
 generalize b.kind=b0 at *
 generalize b.n=b1 at *
 generalize mkB b.s=b2 at *
 generalize b.l.length=b3 at *
 go_enter Tryz.func22,Tryz.ntmps22
 go_wp2_with (go_at_call 51;first|(refine (HC.out _ HB0.out).mono ?_;rintro e w' ⟨rfl,hb⟩)|(refine (HC.out _ (Below.refl _ _)).mono ?_;rintro e w' ⟨rfl,hb⟩))
 go_ret
 exact ⟨rfl,HB0.out.trans (hb.mono HB0.out.size)⟩
noncomputable def eqB {α:Type} (a b:α):Bool:=@decide (a=b) (Classical.propDecidable _)
theorem zeQ {α:Type} {a b:α} (h:a≠b):eqB a b=false:=by unfold eqB;exact @decide_eq_false _ (Classical.propDecidable _) h
theorem zdH {α:Type} {a b:α} (h:a=b):eqB a b=true:=by unfold eqB;exact @decide_eq_true _ (Classical.propDecidable _) h
theorem sleq_any {w:World} {F G:Nat->Prop} {es fs:List Ent} {v v':Value} (h:IsE w F es v) (h':IsE w G fs v') :
  Calls Tryz.prog 46 #[v,v'] w fun e w'=>e=.returned (.bool (eqB es fs))/\Below w.heap.size w w':=by
 obtain ⟨ea,ec,rfl,g1,g2,-⟩:=h.len
 obtain ⟨fa,fc,rfl,g3,g4,-⟩:=h'.len
 have he63:(es.length:Int)<=9223372036854775807:=by unfold maxLen at g2;omega
 have hf63:(fs.length:Int)<=9223372036854775807:=by unfold maxLen at g4;omega
 have HE:=yb h
 have HF:=yb h'
 obtain ⟨R,hR⟩:∃R,R=eqB es fs:=⟨_,rfl⟩
 rw [<-hR]
 have HN:=yb (fun (h:es≠fs)=>hR.trans (zeQ h))
 have HY:=yb (fun (h:es=fs)=>hR.trans (zdH h))
 clear h h' g1 g2 g3 g4 hR
 generalize hL2:fs.length=L2 at *
 have HLEN:=yb hL2
 clear hL2
 go_enter Tryz.func46,Tryz.ntmps46
 by_cases hlen:es.length=L2
 case neg =>
  have e1:((es.length:Int)==L2)=false:=by rw [yf];omega
  have e2:((es.length:Int) != L2)=true:=by simp only [bne,e1,yj]
  have HR:=yb (HN.out (fun e=>hlen (by rw [e];exact HLEN.out)))
  clear hlen HN HY HE HF
  go_wp2_with fail
  go_ret
  exact ⟨by rw [HR.out];rfl,Below.refl _ _⟩
 subst hlen
 have hLL:((es.length:Int) != es.length)=false:=by simp
 go_wp2_with fail
 go_loopw [13] (fun v wr=>∃j:Nat,v=.int .i64 j/\j<=es.length/\Hid (Below w.heap.size w wr)/\Hid (es.take j=fs.take j)) (fun v _=>es.length-(intOf v).toNat)
 case atStart=>exact ⟨0,rfl,Nat.zero_le _,yb (Below.refl _ _),yb rfl⟩
 case round =>
  obtain ⟨j,rfl,hj,HW,HT⟩:=hrel
  by_cases hlt:j<es.length
  case neg =>
   have hcd:decide ((j:Int)<(es.length:Int))=false:=ye (by omega)
   have hcd2:decide (j<es.length)=false:=ye hlt
   have HR:=yb (HY.out (by
    have h1:=HT.out
    rw [List.take_of_length_le (by omega),List.take_of_length_le (by have:=HLEN.out;omega)] at h1
    exact h1))
   clear HT HN HY HE HF
   go_wp2
   go_ret
   exact ⟨by rw [HR.out];rfl,HW.out⟩
  have hcd:decide ((j:Int)<(es.length:Int))=true:=yd (by omega)
  have hcd2:decide (j<es.length)=true:=yd hlt
  have hjl:(j:Int)<(es.length:Int):=by omega
  obtain ⟨-,-,-,be,oe,hae,-,-,hat⟩:=(HE.out.below HW.out).at (by omega)
  obtain ⟨-,-,-,be',oe',hae',-,-,hat'⟩:=(HF.out.below HW.out).at (by omega)
  subst hae
  subst hae'
  obtain ⟨ee,hee⟩:∃ee,es[j]?=some ee:=⟨_,List.getElem?_eq_getElem hlt⟩
  obtain ⟨ff,hff⟩:∃ee,fs[j]?=some ee:=⟨_,List.getElem?_eq_getElem (by have:=HLEN.out;omega)⟩
  obtain ⟨z0,z1,z2⟩:=hat j ee hee
  obtain ⟨y0,y1,y2⟩:=hat' j ff hff
  have HEN:=yb (fun (h:ee≠ff)=>HN.out (at_ne hee hff h))
  have HTD2:=yb (fun (h:ee=ff)=>zcX HT.out hee (by rw [h];exact hff))
  clear hat hat' hee hff HT
  obtain ⟨na,ng,nu⟩:=ee
  obtain ⟨na',ng',nu'⟩:=ff
  simp only at *
  have HB3:=yb (fun q=>zad HW.out q)
  go_upto_region 6 with fail
  by_cases hna:na=na'
  case neg =>
   have u1:(na==na')=false:=by rw [yf];exact hna
   have HR:=yb (HEN.out (fun e=>hna (congrArg Ent.at_ e)))
   clear HEN HTD2 hna HN HY HE HF
   go_quiet (fail)
   go_wp2_with fail
   go_ret
   exact ⟨by rw [HR.out];rfl,HB3.out _⟩
  subst hna
  have u1:(na==na)=true:=by simp
  by_cases hng:ng=ng'
  case neg =>
   have u3:(ng==ng')=false:=by rw [yf];exact hng
   have HR:=yb (HEN.out (fun e=>hng (congrArg Ent.gen e)))
   clear HEN HTD2 hng HN HY HE HF
   go_quiet (fail)
   go_wp2_with fail
   go_ret
   exact ⟨by rw [HR.out];rfl,HB3.out _⟩
  subst hng
  have u2:(ng==ng)=true:=by simp
  by_cases hnu:nu=nu'
  case neg =>
   have u3:(nu==nu')=false:=by rw [yf];exact hnu
   have HR:=yb (HEN.out (fun e=>hnu (congrArg Ent.used e)))
   clear HEN HTD2 hnu HN HY HE HF
   go_quiet (fail)
   go_wp2_with fail
   go_ret
   exact ⟨by rw [HR.out];rfl,HB3.out _⟩
  subst hnu
  have u3:(nu==nu)=true:=by simp
  have HTD3:=yb (HTD2.out rfl)
  clear HEN HTD2
  go_quiet (fail)
  go_wp2_with fail
  go_roundw
  case rel=>exact ⟨j+1,by go_num,by omega,HB3.out _,HTD3⟩
  case measure=>simp [intOf];omega
theorem same1_any {w:World} {F G:Nat->Prop} {g h:Grp} {v v':Value} (hv:IsE w F g.es v) (hv':IsE w G h.es v') :
  Calls Tryz.prog 45 #[.agg #[.int .i64 g.first,v],.agg #[.int .i64 h.first,v']] w fun e w'=>e=.returned (.bool (eqB g h))/\Below w.heap.size w w':=by
 obtain ⟨R,hR⟩:∃R,R=eqB g h:=⟨_,rfl⟩
 rw [<-hR]
 have HN1:=yb (fun (e:g.first≠h.first)=>hR.trans (zeQ (fun x=>e (congrArg Grp.first x))))
 have HEQ:=yb (fun (e:g.first=h.first)=>show R=eqB g.es h.es by
  rw [hR]
  obtain ⟨gf,ge⟩:=g
  obtain ⟨hf,he⟩:=h
  simp only at e
  subst e
  by_cases q:ge=he
  ·rw [zdH (by rw [q]),zdH q]
  ·rw [zeQ (fun x=>q (congrArg Grp.es x)),zeQ q])
 have HS:=yb (fun (W:World) (hb:Below w.heap.size w W)=>sleq_any (hv.below hb) (hv'.below hb))
 obtain ⟨a,c,rfl,-,-,-⟩:=hv.len
 obtain ⟨a',c',rfl,-,-,-⟩:=hv'.len
 clear hv hv' hR
 generalize eqB g.es h.es=q at *
 generalize g.first=gf at *
 generalize h.first=hf at *
 generalize g.es.length=gl at *
 generalize h.es.length=hl at *
 have HB1:=yb (zaF w (.cells #[.int .i64 gf,.slice a gl c] 58) (.cells #[.int .i64 hf,.slice a' hl c'] 58))
 obtain ⟨B,hB⟩:∃B,B=w.heap.size:=⟨_,rfl⟩
 have HX1:=yb (zak (w:=w.alloc (.cells #[.int .i64 gf,.slice a gl c] 58)) (.cells #[.int .i64 hf,.slice a' hl c'] 58) (zab (w:=w) (b:=B) (.cells #[.int .i64 gf,.slice a gl c] 58) hB))
 have HY1:=yb (zab (w:=w.alloc (.cells #[.int .i64 gf,.slice a gl c] 58)) (b:=B+1) (.cells #[.int .i64 hf,.slice a' hl c'] 58) (by rw [zaq,hB]))
 go_enter Tryz.func45,Tryz.ntmps45
 go_upto_region 1 with fail
 try rw [<-hB]
 generalize World.alloc _ _=W1 at *
 clear hB
 generalize B+1=B2 at *
 obtain ⟨⟨p0,p1⟩,-⟩:=za5 HX1.out
 obtain ⟨⟨q0,q1⟩,-⟩:=za5 HY1.out
 by_cases hgf:gf=hf
 case neg =>
  have e1:(gf==hf)=false:=by rw [yf];exact hgf
  have HE:=yb (HN1.out hgf)
  clear hgf HN1 HEQ HS
  go_wp2
  go_ret
  exact ⟨by rw [HE.out];rfl,HB1.out⟩
 have e1:(gf==hf)=true:=by rw [beq_iff_eq];exact hgf
 have HE:=yb (HEQ.out hgf)
 have HS1:=yb (HS.out W1 HB1.out)
 clear hgf HN1 HEQ HS
 go_wp2_with (go_at_call 46;refine HS1.out.mono ?_;rintro e w2 ⟨rfl,hb⟩)
 go_ret
 exact ⟨by rw [HE.out];rfl,HB1.out.trans (hb.mono HB1.out.size)⟩
theorem eqF_any {w:World} {F G:Nat->Prop} {gs hs:List Grp} {v v':Value} (h:IsG w F gs v) (h':IsG w G hs v') :
  Calls Tryz.prog 47 #[v,v',.func (.func 45) #[] #[]] w fun e w'=>e=.returned (.bool (eqB gs hs))/\Below w.heap.size w w':=by
 obtain ⟨ga,gc,rfl,g1,g2,-⟩:=h.len
 obtain ⟨ha,hc,rfl,g3,g4,-⟩:=h'.len
 have he63:(gs.length:Int)<=9223372036854775807:=by unfold maxLen at g2;omega
 have hf63:(hs.length:Int)<=9223372036854775807:=by unfold maxLen at g4;omega
 have HG:=yb h
 have HH:=yb h'
 obtain ⟨R,hR⟩:∃R,R=eqB gs hs:=⟨_,rfl⟩
 rw [<-hR]
 have HN:=yb (fun (h:gs≠hs)=>hR.trans (zeQ h))
 have HY:=yb (fun (h:gs=hs)=>hR.trans (zdH h))
 clear h h' g1 g2 g3 g4 hR
 generalize hL2:hs.length=L2 at *
 have HLEN:=yb hL2
 clear hL2
 go_enter Tryz.func47,Tryz.ntmps47
 by_cases hlen:gs.length=L2
 case neg =>
  have e1:((gs.length:Int)==L2)=false:=by rw [yf];omega
  have e2:((gs.length:Int) != L2)=true:=by simp only [bne,e1,yj]
  have HR:=yb (HN.out (fun e=>hlen (by rw [e];exact HLEN.out)))
  clear hlen HN HY HG HH
  go_wp2_with fail
  go_ret
  exact ⟨by rw [HR.out];rfl,Below.refl _ _⟩
 subst hlen
 have hLL:((gs.length:Int) != gs.length)=false:=by simp
 go_wp2_with fail
 go_loopw [17] (fun v wr=>∃j:Nat,v=.int .i64 j/\j<=gs.length/\Hid (Below w.heap.size w wr)/\Hid (gs.take j=hs.take j)) (fun v _=>gs.length-(intOf v).toNat)
 case atStart=>exact ⟨0,rfl,Nat.zero_le _,yb (Below.refl _ _),yb rfl⟩
 case round =>
  obtain ⟨j,rfl,hj,HW,HT⟩:=hrel
  by_cases hlt:j<gs.length
  case neg =>
   have hcd:decide ((j:Int)<(gs.length:Int))=false:=ye (by omega)
   have hcd2:decide (j<gs.length)=false:=ye hlt
   have HR:=yb (HY.out (by
    have h1:=HT.out
    rw [List.take_of_length_le (by omega),List.take_of_length_le (by have:=HLEN.out;omega)] at h1
    exact h1))
   clear HT HN HY HG HH
   go_wp2
   go_ret
   exact ⟨by rw [HR.out];rfl,HW.out⟩
  have hcd:decide ((j:Int)<(gs.length:Int))=true:=yd (by omega)
  have hcd2:decide (j<gs.length)=true:=yd hlt
  have hjl:(j:Int)<(gs.length:Int):=by omega
  obtain ⟨-,-,-,bg,og,hga,-,-,hat⟩:=(HG.out.below HW.out).at (by omega)
  subst hga
  obtain ⟨g,hg⟩:∃g,gs[j]?=some g:=⟨_,List.getElem?_eq_getElem hlt⟩
  obtain ⟨g',hg'⟩:∃g,hs[j]?=some g:=⟨_,List.getElem?_eq_getElem (by have:=HLEN.out;omega)⟩
  obtain ⟨u,hu,z0,z1⟩:=hat j g hg
  obtain ⟨ua,uc,rfl,-,-,-⟩:=hu.len
  have HEN:=yb (fun (h:g≠g')=>HN.out (at_ne hg hg' h))
  have HTD2:=yb (fun (h:g=g')=>zcX HT.out hg (by rw [h];exact hg'))
  have hbx:=zae wr (.cells #[.int .i64 g.first,.slice ua g.es.length uc] 58)
  have HGX:=yb (zab (w:=wr) (.cells #[.int .i64 g.first,.slice ua g.es.length uc] 58) rfl)
  have HSX:=yb (hu.below hbx)
  have HBA:=yo HW hbx
  have HG':=yb hg'
  clear hat hg hg' HT hbx hu
  go_upto_region 6 with fail
  clear z0 z1
  generalize wr.heap.size=Q at *
  generalize World.alloc _ _=W2 at *
  obtain ⟨-,-,-,bh,oh,hha,-,-,hat'⟩:=(HH.out.below HBA.out).at (by omega)
  subst hha
  obtain ⟨u',hu',y0,y1⟩:=hat' j g' HG'.out
  obtain ⟨ua',uc',rfl,-,-,-⟩:=hu'.len
  have hby:=zae W2 (.cells #[.int .i64 g'.first,.slice ua' g'.es.length uc'] 58)
  have HBB:=yo HBA hby
  have HGY:=yb (zab (w:=W2) (.cells #[.int .i64 g'.first,.slice ua' g'.es.length uc'] 58) rfl)
  have HGX2:=yb (zak (.cells #[.int .i64 g'.first,.slice ua' g'.es.length uc'] 58) HGX.out)
  have HSX2:=yb (HSX.out.below hby)
  have HSY2:=yb (hu'.below hby)
  clear hat' hby hu' HG'
  go_upto_region 7 with fail
  clear y0 y1 HGX HSX HBA
  generalize W2.heap.size=Q2 at *
  generalize World.alloc _ _=W3 at *
  obtain ⟨⟨z0,z1⟩,-⟩:=za5 HGX2.out
  obtain ⟨⟨y0,y1⟩,-⟩:=za5 HGY.out
  have HC:=yb (same1_any HSX2.out HSY2.out)
  have HQN:=yb (show eqB g g'=false->g≠g' from fun h e=>by rw [zdH e] at h;cases h)
  have HQY:=yb (show eqB g g'=true->g=g' from fun h=>Classical.byContradiction fun e=>by rw [zeQ e] at h;cases h)
  clear HSX2 HSY2 HGX2 HGY
  have HEN2:=yb (fun h=>HEN.out (HQN.out h))
  have HTD3:=yb (fun h=>HTD2.out (HQY.out h))
  clear HEN HTD2 HQN HQY
  generalize eqB g g'=qq at *
  generalize g.first=gf at *
  generalize g.es.length=gl at *
  generalize g'.first=hf at *
  generalize g'.es.length=hl at *
  go_wp2_with fail
  refine HC.out.mono ?_
  rintro e w4 ⟨rfl,hb4⟩
  have HB4:=yo HBB hb4
  clear hb4 HC z0 z1 y0 y1 HBB
  cases qq
  ·have HR:=yb (HEN2.out rfl)
   clear HEN2 HTD3 HN HY HG HH
   go_wp2
   go_ret
   exact ⟨by rw [HR.out];rfl,HB4.out⟩
  ·have HT2:=yb (HTD3.out rfl)
   clear HEN2 HTD3
   go_wp2
   go_roundw
   case rel=>exact ⟨j+1,by go_num,by omega,HB4,HT2⟩
   case measure=>simp [intOf];omega
theorem xsame_any {w:World} {s t:Sec} {gv sl gv' sl':Value} (h:zbu w anyF s gv sl) (h':zbu w anyF t gv' sl') :
  Calls Tryz.prog 18 #[secA s gv sl,secA t gv' sl'] w fun e w'=>e=.returned (.bool (zfQ s t))/\Below w.heap.size w w':=by
 obtain ⟨gs,x⟩:=s
 obtain ⟨gs',x'⟩:=t
 have HE:=yb (fun (W:World) (hb:Below w.heap.size w W)=>eqF_any (h.1.below hb) (h'.1.below hb))
 have HV:=yb (fun (W:World) (hb:Below w.heap.size w W)=>vsame_any (h.2.below hb) (h'.2.below hb))
 have hci:=zep x x'
 obtain ⟨R,hR⟩:∃R,R=zfQ ⟨gs,x⟩ ⟨gs',x'⟩:=⟨_,rfl⟩
 rw [<-hR]
 have HRE:=yb (show R=(eqB gs gs'&&(zau x x'==0)) by
  rw [hR]
  by_cases q1:gs=gs'
  ·by_cases q2:x=x'
   ·rw [sameB_yes (by rw [q1,q2]),zdH q1,show (zau x x'==0)=true by rw [beq_iff_eq];exact hci.2 q2];rfl
   ·rw [zei (fun e=>q2 (congrArg Sec.tr e)),show (zau x x'==0)=false by rw [yf];exact fun e=>q2 (hci.1 e),Bool.and_false]
  ·rw [zei (fun e=>q1 (congrArg Sec.gs e)),zeQ q1,Bool.false_and])
 obtain ⟨ga,gc,rfl,-,-,-⟩:=h.1.len
 obtain ⟨ga',gc',rfl,-,-,-⟩:=h'.1.len
 obtain ⟨sa,sc,rfl,-,-,-⟩:=h.2.len
 obtain ⟨sa',sc',rfl,-,-,-⟩:=h'.2.len
 unfold secA
 unfold pvA at HV
 simp only at HE HV |-
 clear h h' hR hci
 generalize zau x x'=cc at *
 generalize eqB gs gs'=qq at *
 generalize x.kind=xk at *
 generalize x.n=xn at *
 generalize mkB x.s=xb at *
 generalize x.l.length=xl at *
 generalize x'.kind=xk' at *
 generalize x'.n=xn' at *
 generalize mkB x'.s=xb' at *
 generalize x'.l.length=xl' at *
 generalize gs.length=gl at *
 generalize gs'.length=gl' at *
 obtain ⟨B,hB⟩:∃B,B=w.heap.size:=⟨_,rfl⟩
 have HB1:=yb (zaF w (.cells #[.slice ga gl gc,.int .i64 xk,.int .i64 xn,.string xb,.slice sa xl sc] 34) (.cells #[.slice ga' gl' gc',.int .i64 xk',.int .i64 xn',.string xb',.slice sa' xl' sc'] 34))
 have HX1:=yb (zak (w:=w.alloc (.cells #[.slice ga gl gc,.int .i64 xk,.int .i64 xn,.string xb,.slice sa xl sc] 34)) (.cells #[.slice ga' gl' gc',.int .i64 xk',.int .i64 xn',.string xb',.slice sa' xl' sc'] 34) (zab (w:=w) (b:=B) (.cells #[.slice ga gl gc,.int .i64 xk,.int .i64 xn,.string xb,.slice sa xl sc] 34) hB))
 have HY1:=yb (zab (w:=w.alloc (.cells #[.slice ga gl gc,.int .i64 xk,.int .i64 xn,.string xb,.slice sa xl sc] 34)) (b:=B+1) (.cells #[.slice ga' gl' gc',.int .i64 xk',.int .i64 xn',.string xb',.slice sa' xl' sc'] 34) (by rw [zaq,hB]))
 go_enter Tryz.func18,Tryz.ntmps18
 go_upto_region 2 with fail
 try rw [<-hB]
 generalize World.alloc _ _=W1 at *
 clear hB
 generalize B+1=B2 at *
 obtain ⟨⟨p0,p1,p2,p3,p4⟩,-⟩:=zaL HX1.out
 obtain ⟨⟨q0,q1,q2,q3,q4⟩,-⟩:=zaL HY1.out
 have HE1:=yb (HE.out W1 HB1.out)
 go_wp2_with fail
 refine HE1.out.mono ?_
 rintro e w2 ⟨rfl,hb⟩
 have HB2:=yo HB1 hb
 have HX2:=yb (zaa hb HX1.out)
 have HY2:=yb (zaa hb HY1.out)
 have HV2:=yb (HV.out w2 HB2.out)
 clear hb HE HE1 HV p0 p1 p2 p3 p4 q0 q1 q2 q3 q4
 obtain ⟨⟨p0,p1,p2,p3,p4⟩,-⟩:=zaL HX2.out
 obtain ⟨⟨q0,q1,q2,q3,q4⟩,-⟩:=zaL HY2.out
 cases qq
 ·have HR:=yb (HRE.out.trans (Bool.false_and _))
  clear HRE HV2
  go_wp2
  go_ret
  exact ⟨by rw [HR.out];rfl,HB2.out⟩
 ·have HR:=yb (HRE.out.trans (Bool.true_and _))
  clear HRE
  go_wp2_with fail
  refine HV2.out.mono ?_
  rintro e w3 ⟨rfl,hb⟩
  have HB3:=yo HB2 hb
  clear hb
  go_wp2
  go_ret
  exact ⟨by rw [HR.out];rfl,HB3.out⟩
theorem cmpF_nil (a a':Option Addr) (c c':Nat) (f:Value) (w:World):Calls Tryz.prog 86 #[.slice a 0 c,.slice a' 0 c',f] w fun e w'=>e=.returned (.int .i64 0)/\w=w':=by
 go_enter Tryz.func86,Tryz.ntmps86
 go_wp2
 go_loop [13] (fun v=>v=.int .i64 0) (fun _=>0)
 case atStart=>rfl
 case round =>
  subst hrel
  go_wp2
  go_ret
  exact ⟨rfl,rfl⟩
theorem vcmp_leaf (k n:Int) (s:ByteArray) (a a':Option Addr) (c c':Nat) (w:World):Calls Tryz.prog 51 #[.agg #[.int .i64 k,.int .i64 n,.string s,.slice a 0 c],.agg #[.int .i64 k,.int .i64 n,.string s,.slice a' 0 c']] w fun e w'=>e=.returned (.int .i64 0)/\Below w.heap.size w w':=by
 have HI:=yb (fun x W=>icmp_eq x W)
 have HS:=yb (fun W=>scmp_any s s W)
 simp only [zca] at HS
 have HF:=yb (fun f W=>cmpF_nil a a' c c' f W)
 have HO:=yb (fun (W:World) (b:Nat) (h0:W.cell? ⟨b,0,none⟩=some (.int .i64 0)) (h1:W.cell? ⟨b,1,none⟩=some (.int .i64 0)) (h2:W.cell? ⟨b,2,none⟩=some (.int .i64 0))=>or_zero h0 h1 h2)
 obtain ⟨B,hB⟩:∃B,B=w.heap.size:=⟨_,rfl⟩
 have HB1:=yb (zaF w (.cells #[.int .i64 k,.int .i64 n,.string s,.slice a 0 c] 25) (.cells #[.int .i64 k,.int .i64 n,.string s,.slice a' 0 c'] 25))
 have HX1:=yb (zak (w:=w.alloc (.cells #[.int .i64 k,.int .i64 n,.string s,.slice a 0 c] 25)) (.cells #[.int .i64 k,.int .i64 n,.string s,.slice a' 0 c'] 25) (zab (w:=w) (b:=B) (.cells #[.int .i64 k,.int .i64 n,.string s,.slice a 0 c] 25) hB))
 have HY1:=yb (zab (w:=w.alloc (.cells #[.int .i64 k,.int .i64 n,.string s,.slice a 0 c] 25)) (b:=B+1) (.cells #[.int .i64 k,.int .i64 n,.string s,.slice a' 0 c'] 25) (by rw [zaq,hB]))
 go_enter Tryz.func51,Tryz.ntmps51
 go_upto_region 1 with fail
 try rw [<-hB]
 generalize World.alloc _ _=W1 at *
 clear hB
 generalize B+1=B2 at *
 go_cut [5] from 6 (fun v wx=>v=.int .i64 0/\Hid (Below W1.heap.size W1 wx))
 case first =>
  obtain ⟨⟨p0,p1,p2,p3⟩,-⟩:=zah HX1.out
  obtain ⟨⟨q0,q1,q2,q3⟩,-⟩:=zah HY1.out
  have HC3:=yb (zbC (zab (w:=W1) (b:=W1.heap.size) (.cells #[.int .i64 0,.int .i64 0,.int .i64 0] 3) rfl))
  have d0:=cell?_keep (Below.refl _ W1).drew p0
  have d1:=cell?_keep (Below.refl _ W1).drew p1
  have d2:=cell?_keep (Below.refl _ W1).drew p2
  have e0:=cell?_keep (Below.refl _ W1).drew q0
  have e1:=cell?_keep (Below.refl _ W1).drew q1
  have e2:=cell?_keep (Below.refl _ W1).drew q2
  go_region_held3 (fun w'=>w'.cell? ⟨B,0,none⟩=some (.int .i64 k)/\w'.cell? ⟨B,1,none⟩=some (.int .i64 n)/\w'.cell? ⟨B,2,none⟩=some (.string s)/\w'.cell? ⟨B2,0,none⟩=some (.int .i64 k)/\w'.cell? ⟨B2,1,none⟩=some (.int .i64 n)/\w'.cell? ⟨B2,2,none⟩=some (.string s)) (go_keep)
   ((first
    |(go_at_call 84;refine (HI.out _ _).mono ?_;rintro e w' ⟨rfl,rfl⟩)
    |(go_at_call 85;refine (HS.out _).mono ?_;rintro e w' ⟨rfl,rfl⟩)
    |(go_at_call 83;refine (HO.out _ _ (cell?_keep (Below.refl _ _).drew HC3.out.1.1) (cell?_keep (Below.refl _ _).drew HC3.out.1.2.1) (cell?_keep (Below.refl _ _).drew HC3.out.1.2.2)).mono ?_;rintro e w' ⟨rfl,rfl⟩)))
  all_goals (try go_wp2_with fail)
  all_goals go_meet
  all_goals exact ⟨rfl,yb (zae W1 _).drew⟩
 case rest =>
 obtain ⟨rfl,HB2⟩:=hcut
 have HX2:=yb (zaa HB2.out HX1.out)
 have HY2:=yb (zaa HB2.out HY1.out)
 obtain ⟨⟨p0,p1,p2,p3⟩,-⟩:=zah HX2.out
 obtain ⟨⟨q0,q1,q2,q3⟩,-⟩:=zah HY2.out
 go_wp2_with (go_at_call 86;refine (HF.out _ _).mono ?_;rintro e w' ⟨rfl,rfl⟩)
 go_ret
 exact ⟨rfl,HB1.out.trans (HB2.out.mono HB1.out.size)⟩
theorem vsame_leaf (k n:Int) (s:ByteArray) (a a':Option Addr) (c c':Nat) (w:World):Calls Tryz.prog 22 #[.agg #[.int .i64 k,.int .i64 n,.string s,.slice a 0 c],.agg #[.int .i64 k,.int .i64 n,.string s,.slice a' 0 c']] w fun e w'=>e=.returned (.bool true)/\Below w.heap.size w w':=by
 have HC:=yb (fun W=>vcmp_leaf k n s a a' c c' W)
 obtain ⟨B,hB⟩:∃B,B=w.heap.size:=⟨_,rfl⟩
 have HB1:=yb (zaF w (.cells #[.int .i64 k,.int .i64 n,.string s,.slice a 0 c] 25) (.cells #[.int .i64 k,.int .i64 n,.string s,.slice a' 0 c'] 25))
 have HX1:=yb (zak (w:=w.alloc (.cells #[.int .i64 k,.int .i64 n,.string s,.slice a 0 c] 25)) (.cells #[.int .i64 k,.int .i64 n,.string s,.slice a' 0 c'] 25) (zab (w:=w) (b:=B) (.cells #[.int .i64 k,.int .i64 n,.string s,.slice a 0 c] 25) hB))
 have HY1:=yb (zab (w:=w.alloc (.cells #[.int .i64 k,.int .i64 n,.string s,.slice a 0 c] 25)) (b:=B+1) (.cells #[.int .i64 k,.int .i64 n,.string s,.slice a' 0 c'] 25) (by rw [zaq,hB]))
 go_enter Tryz.func22,Tryz.ntmps22
 go_upto_region 1 with fail
 try rw [<-hB]
 generalize World.alloc _ _=W1 at *
 clear hB
 generalize B+1=B2 at *
 obtain ⟨⟨p0,p1,p2,p3⟩,-⟩:=zah HX1.out
 obtain ⟨⟨q0,q1,q2,q3⟩,-⟩:=zah HY1.out
 go_wp2_with fail
 refine (HC.out _).mono ?_
 rintro e w2 ⟨rfl,hb2⟩
 have HB2:=yo HB1 hb2
 clear hb2
 go_wp2_with fail
 go_ret
 exact ⟨rfl,HB2.out⟩
theorem dict_nil (w:World):Calls Tryz.prog 23 #[.slice none 0 0] w fun e w'=>e=.returned (.agg #[.int .i64 7,.int .i64 0,.string ⟨#[]⟩,.slice none 0 0])/\Below w.heap.size w w':=by
 obtain ⟨B,hB⟩:∃B,B=w.heap.size:=⟨_,rfl⟩
 have HB1:=yb (zaF w (.cells #[.int .i64 0,.int .i64 0,.string ⟨#[]⟩,.slice none 0 0] 25) (.cells #[.int .i64 7,.int .i64 0,.string ⟨#[]⟩,.slice none 0 0] 25))
 have HX1:=yb (zak (w:=w.alloc (.cells #[.int .i64 0,.int .i64 0,.string ⟨#[]⟩,.slice none 0 0] 25)) (.cells #[.int .i64 7,.int .i64 0,.string ⟨#[]⟩,.slice none 0 0] 25) (zab (w:=w) (b:=B) (.cells #[.int .i64 0,.int .i64 0,.string ⟨#[]⟩,.slice none 0 0] 25) hB))
 have HY1:=yb (zab (w:=w.alloc (.cells #[.int .i64 0,.int .i64 0,.string ⟨#[]⟩,.slice none 0 0] 25)) (b:=B+1) (.cells #[.int .i64 7,.int .i64 0,.string ⟨#[]⟩,.slice none 0 0] 25) (by rw [zaq,hB]))
 have HW:=yb (Nat.le_of_eq hB.symm)
 go_enter Tryz.func23,Tryz.ntmps23
 go_upto_region 2 with fail
 try rw [<-hB]
 generalize World.alloc _ _=W1 at *
 clear hB
 generalize B+1=B2 at *
 go_wp2_with fail
 go_loop [4] (fun v=>v=.int .i64 0) (fun _=>0)
 case atStart=>rfl
 case round =>
  subst hrel
  obtain ⟨⟨a0,a1,a2,a3⟩,f0,f1,f2,f3⟩:=zah HX1.out
  obtain ⟨⟨b0,b1,b2,b3⟩,-⟩:=zah HY1.out
  go_wp2_with fail
  refine yi (results_cell_row rfl _ _ B 25 _ (0,0) _ rfl (by exact set4 HX1.out _ _ _ _) Tryz.underlying25 rfl (by exact zaO)) rfl ?_
  exact ⟨rfl,zan HB1.out HW.out _ _ _ _⟩
def secT1:List UInt8:=[120,114,101,102,10,51,32,49,10,48,48,48,48,48,48,48,48,49,55,32,48,48,48,48,48,32,110,32,10,116,114,97,105,108,101,114,60,60,62,62,32]
theorem sec_ex:secV secT1 false 0=(⟨[⟨3,[⟨17,0,true⟩]⟩],.mk 7 0 [] []⟩,40,0):=by kernel_rfl
theorem ent_ex:entR ⟨17,0,true⟩=([48,48,48,48,48,48,48,48,49,55,32,48,48,48,48,48,32,110,32,10],0):=by
 have h17:decL 17=[49,55]:=by rw [zcG (by decide),zbs (by decide)];rfl
 have h0:decL 0=[48]:=by rw [zbs (by decide)];rfl
 unfold entR
 rw [yg (by decide)]
 unfold entL entB padL
 simp only [show (17:Int).toNat=17 from rfl,show (0:Int).toNat=0 from rfl,h17,h0]
 rfl
theorem row_bsX {w:World} (bs:List UInt8) (t:TypeId) (hb:bs.length<=200):Row (w.alloc (.cells (bs.map u8C).toArray t (bs.length,bs.length+1))) 1 (some ⟨w.heap.size,0,none⟩) bs.length bs.length (bs.map u8C):=by
 refine ⟨by simp,yp _,by unfold maxLen;omega,fun h=>(by cases h),fun _=>⟨_,_,rfl,(by rw [zaq];omega),fun j u hj=>?_⟩⟩
 rw [cell_of_row _ _ _ _ _ _ (zab _ rfl)]
 simpa using hj
theorem works15 (w:World):Calls Tryz.prog 6 #[] w fun e w'=>e=.returned (.bool true)/\Below w.heap.size w w':=by
 have HP:=yb (fun W:World=>xparse_any (row_bsX (w:=W) secT1 5 (by decide)) (by decide) 0 false)
 rw [sec_ex] at HP
 unfold SecEnd at HP
 simp only at HP
 have hcv:=fun (W:World) (C:Array Value) (n c:Nat)=>Lib.run_convert_bytes_const (P:=Tryz.prog) W 28 5 C n c Tryz.underlying28 Tryz.underlying5
 have HE:=yb (fun W=>zfA ⟨17,0,true⟩ W)
 rw [ent_ex] at HE
 unfold entA at HE
 simp only at HE
 have HD:=yb (fun W=>dict_nil W)
 go_enter Tryz.func6,Tryz.ntmps6
 go_wp2_with fail
 refine (HP.out w).mono ?_
 rintro e w1 ⟨gv,sl,rfl,hsc,hb1⟩
 obtain ⟨ga,gc,rfl,-,-,-⟩:=hsc.1.len
 obtain ⟨sa,sc,rfl,-,-,-⟩:=hsc.2.len
 have HF:=yb (fun (W:World) (hb:Below w1.heap.size w1 W)=>xfind_any (hsc.below hb) 3 (fun g hg=>by rcases List.mem_singleton.1 hg with rfl;exact ⟨by decide,by decide⟩) (by decide) (by decide))
 rw [show zeb ([⟨3,[⟨17,0,true⟩]⟩]:List Grp) 3=some ⟨17,0,true⟩ from rfl] at HF
 have HB1:=yb ((zae w _).trans (hb1.mono (by rw [zaq];omega)))
 have HS:=yb (fun W=>vsame_leaf 7 0 ⟨#[]⟩ sa none sc 0 W)
 unfold secA findP entA at HF
 unfold secA
 simp only [PV.kind,PV.n,PV.s,PV.l,List.length_nil,List.length_singleton,show mkB []=⟨#[]⟩ from rfl] at HF |-
 clear hsc hb1 hcv HP
 have HT2:=yb (zab (w:=w1) (b:=w1.heap.size) (.cells #[.slice ga 1 gc,.int .i64 7,.int .i64 0,.string ⟨#[]⟩,.slice sa 0 sc] 34) rfl)
 have HA2:=yb (zae w1 (.cells #[.slice ga 1 gc,.int .i64 7,.int .i64 0,.string ⟨#[]⟩,.slice sa 0 sc] 34))
 have HB2:=yb (HB1.out.trans (HA2.out.mono HB1.out.size))
 go_upto_region 2 with fail
 have HF2:=yb (HF.out _ HA2.out)
 clear HF HA2 HB1
 generalize w1.heap.size=T at *
 generalize World.alloc _ _=W2 at *
 obtain ⟨⟨p0,p1,p2,p3,p4⟩,-⟩:=zaL HT2.out
 go_wp2_with fail
 refine HF2.out.mono ?_
 rintro e w3 ⟨rfl,hb3⟩
 have hb3a:=hb3.alloc hb3.size (.cells #[.int .i64 17,.int .i64 0,.bool true] 45)
 have HT4:=yb (zaa hb3a HT2.out)
 have HQ4:=yb (zab (w:=w3) (b:=w3.heap.size) (.cells #[.int .i64 17,.int .i64 0,.bool true] 45) rfl)
 have HB4:=yo HB2 hb3a
 clear hb3 hb3a HT2 HB2 HF2 p0 p1 p2 p3 p4
 go_upto_region 3 with fail
 generalize w3.heap.size=Q at *
 generalize World.alloc _ _=W4 at *
 go_wp2_with fail
 refine (HE.out _).mono ?_
 rintro e w5 ⟨rfl,hb5⟩
 have HT5:=yb (zaa hb5 HT4.out)
 have HQ5:=yb (zaa hb5 HQ4.out)
 have HB5:=yo HB4 hb5
 clear hb5 HT4 HQ4 HB4 HE
 obtain ⟨⟨p0,p1,p2,p3,p4⟩,-⟩:=zaL HT5.out
 obtain ⟨⟨q0,q1,q2⟩,-⟩:=zbC HQ5.out
 have r0:=zas.cell p0
 have r1:=zas.cell p1
 have r2:=zas.cell p2
 have r3:=zas.cell p3
 have r4:=zas.cell p4
 have e0:=zas.cell q0
 have e1:=zas.cell q1
 have e2:=zas.cell q2
 have hst:((mkB [48,48,48,48,48,48,48,48,49,55,32,48,48,48,48,48,32,110,32,10]).toList==[48,48,48,48,48,48,48,48,49,55,32,48,48,48,48,48,32,110,32,10])=true:=by rw [zeL];rfl
 clear p0 p1 p2 p3 p4 q0 q1 q2
 go_upto_region 4 with fail
 refine zaw (by kernel_rfl) (by kernel_rfl) ?_
 repeat (go_big_quiet_step ((first
  |(go_at_call 23;with_reducible exact Calls.below_of (HD.out _))
  |(go_at_call 22;with_reducible exact Calls.below_of (HS.out _)))))
 refine wpQuiet_nil ?_
 rintro _ ⟨⟨w6,hb6⟩,rfl⟩
 go_wp2
 go_ret
 exact ⟨rfl,HB5.out.trans (hb6.mono HB5.out.size)⟩
theorem infoXSec:(Tryz.prog.info? 34).map (·.size)=some 5:=by kernel_rfl
theorem to15_any (ga sa:Option Addr) (gl gc sl sc:Nat) (k n:Int) (s:ByteArray) (w:World):Calls Tryz.prog 8 #[.agg #[.slice ga gl gc,.int .i64 k,.int .i64 n,.string s,.slice sa sl sc]] w fun e w'=>e=.returned (.agg #[.slice ga gl gc,.int .i64 k,.int .i64 n,.string s,.slice sa sl sc])/\Below w.heap.size w w':=by
 obtain ⟨B,hB⟩:∃B,B=w.heap.size:=⟨_,rfl⟩
 have HB1:=yb (zaF w (.cells #[.slice ga gl gc,.int .i64 k,.int .i64 n,.string s,.slice sa sl sc] 27) (.cells #[.slice none 0 0,.int .i64 0,.int .i64 0,.string ⟨#[]⟩,.slice none 0 0] 34))
 have HX1:=yb (zak (w:=w.alloc (.cells #[.slice ga gl gc,.int .i64 k,.int .i64 n,.string s,.slice sa sl sc] 27)) (.cells #[.slice none 0 0,.int .i64 0,.int .i64 0,.string ⟨#[]⟩,.slice none 0 0] 34) (zab (w:=w) (b:=B) (.cells #[.slice ga gl gc,.int .i64 k,.int .i64 n,.string s,.slice sa sl sc] 27) hB))
 have HY1:=yb (zab (w:=w.alloc (.cells #[.slice ga gl gc,.int .i64 k,.int .i64 n,.string s,.slice sa sl sc] 27)) (b:=B+1) (.cells #[.slice none 0 0,.int .i64 0,.int .i64 0,.string ⟨#[]⟩,.slice none 0 0] 34) (by rw [zaq,hB]))
 have HW:=yb (show w.heap.size<=B+1 by omega)
 go_enter Tryz.func8,Tryz.ntmps8
 go_upto_region 1 with fail
 try rw [<-hB]
 generalize World.alloc _ _=W1 at *
 clear hB
 generalize B+1=B2 at *
 obtain ⟨⟨p0,p1,p2,p3,p4⟩,-⟩:=zaL HX1.out
 obtain ⟨⟨q0,q1,q2,q3,q4⟩,f0,f1,f2,f3,f4⟩:=zaL HY1.out
 go_wp2_with fail
 refine yi (results_cell_row rfl _ _ B2 34 _ (0,0) _ rfl (by exact set5 HY1.out _ _ _ _ _) Tryz.underlying34 rfl (by exact infoXSec)) rfl ?_
 exact ⟨rfl,zdx HB1.out HW.out _ _ _ _ _⟩
theorem SecEnd.split {w w':World} {s:Sec} {n e:Int} {en:Ending} (h:SecEnd w (s,n,e) en w'):∃ga gc sa sc,en=.returned (.tuple #[.agg #[.slice ga s.gs.length gc,.int .i64 s.tr.kind,.int .i64 s.tr.n,.string (mkB s.tr.s),.slice sa s.tr.l.length sc],.int .i64 n,.int .i64 e]) /\
  zbu w' anyF s (.slice ga s.gs.length gc) (.slice sa s.tr.l.length sc)/\Below w.heap.size w w':=by
 obtain ⟨gv,sl,rfl,hs,hb⟩:=h
 obtain ⟨ga,gc,rfl,-,-,-⟩:=hs.1.len
 obtain ⟨sa,sc,rfl,-,-,-⟩:=hs.2.len
 exact ⟨ga,gc,sa,sc,rfl,hs.keep (zaJ.refl _ _) (fun _ _=>trivial),hb⟩
def PlEndX (w:World) (e:Ending) (w':World):Prop:=e=.returned (.bool true)/\Below w.heap.size w w'
theorem convW {w:World} {base:Nat} {v:Value} {o:List UInt8} (hr:w.ownsRow base 5 1 v o.length (o.map u8W)):(convert 28 9 v).run Tryz.prog w=.ok (.string (mkB o)) w:=by
 rcases hr.2 with ⟨rfl,h0⟩|⟨g,cap,cur,rfl,_⟩
 ·have ho:o=[]:=List.eq_nil_of_length_eq_zero h0
  subst ho
  rw [run_convert_bytes_string w 28 9 5 none 0 0 Tryz.underlying28 Tryz.underlying5 Tryz.underlying9]
  rfl
 ·refine run_convert_bytes_back (P:=Tryz.prog) w 28 9 5 ⟨g,0,none⟩ cap o Tryz.underlying28 Tryz.underlying5 Tryz.underlying9 (fun j hj=>?_)
  exact hr.cells (g:=g) rfl j (u8W o[j]) (by simp [hj])
theorem few_print {s:Sec} (ho:FewX s) (hc:zbj s=0):(∀g∈s.gs,g.es.length<=100)/\(zaz s.tr).length<=3000:=by
 have hcc:=(zb1 hc).2.2.1
 have hfx:zbg s.tr=zaz s.tr:=zcZ s.tr (by unfold zbc at hcc;split at hcc;cases hcc;exact hcc)
 exact ⟨ho.2.2.2,by rw [<-hfx];exact ho.2.2.1⟩
theorem mkB_prB (s:Sec):(if zbj s=0 then mkB (secL s) else ⟨#[]⟩)=mkB (prB s):=by
 unfold prB
 by_cases h:zbj s=0
 ·rw [yg h,yg h]
 ·rw [yh h,yh h];rfl
set_option maxHeartbeats 16000000 in
theorem law_xprints {w:World} {s t:Sec} {gv sl gv' sl':Value} (h:zbu w anyF s gv sl) (h':zbu w anyF t gv' sl') (ht:txM 140737488355328 s.tr) (ht':txM 140737488355328 t.tr) (e:Ent) :
  Calls Tryz.prog 4 #[secA s gv sl,secA t gv' sl',entA e] w (PlEndX w):=by
 have HW:=yb (fun W=>works15 W)
 have HF1:=yb (fun (W:World) (hb:Below w.heap.size w W)=>rfew15x (h.below hb) ht)
 have HF2:=yb (fun (W:World) (hb:Below w.heap.size w W)=>rfew15x (h'.below hb) ht')
 have HXP:=yb (fun (ho:FewX s) (W:World) (hb:Below w.heap.size w W)=>xprint_any (h.below hb) (zcW ho.2.1) (few_print ho))
 have HRP:=yb (fun (ho:FewX s) (W:World) (hb:Below w.heap.size w W)=>rprint15_any (h.below hb) ht ho)
 rw [mkB_prB] at HRP
 have HXC:=yb (fun (ho:FewX s) (W:World) (hb:Below w.heap.size w W)=>zfj (h.below hb) (zcW ho.2.1))
 have HRC:=yb (fun (ho:FewX s) (W:World) (hb:Below w.heap.size w W)=>zdZ (h.below hb) (txM_le (by decide) _ ht) (zcW ho.2.1))
 have HXS:=yb (fun (W:World) (hb:Below w.heap.size w W)=>xsame_any (h.below hb) (h'.below hb))
 have HRS:=yb (fun (W:World) (hb:Below w.heap.size w W)=>dsame_any (h.below hb) (h'.below hb))
 have HXE:=yb (fun W=>zfA e W)
 have HRE:=yb (fun W=>zd3 e W)
 have HTO:=yb (fun (ga sa:Option Addr) (gl gc sl sc:Nat) (k n:Int) (b:ByteArray) (W:World)=>to15_any ga sa gl gc sl sc k n b W)
 obtain ⟨ga,gc,rfl,-,-,-⟩:=h.1.len
 obtain ⟨sa,sc,rfl,-,-,-⟩:=h.2.len
 obtain ⟨ga',gc',rfl,-,-,-⟩:=h'.1.len
 obtain ⟨sa',sc',rfl,-,-,-⟩:=h'.2.len
 unfold secA at HF1 HF2 HXP HRP HXC HRC HXS HRS |-
 unfold entA at HXE HRE |-
 obtain ⟨ea,eg,eu⟩:=e
 simp only at HXE HRE |-
 clear h h' ht ht'
 generalize zbj s=ck at *
 generalize FewX s=OK1 at *
 generalize FewX t=OK2 at *
 generalize zfQ s t=sb at *
 generalize prB s=pb at *
 generalize entR ⟨ea,eg,eu⟩=ER at *
 obtain ⟨El,Ee⟩:=ER
 try simp only at HXE HRE
 generalize mkB El=elb at *
 generalize s.gs.length=gl at *
 generalize s.tr.kind=xk at *
 generalize s.tr.n=xn at *
 generalize mkB s.tr.s=xb at *
 generalize s.tr.l.length=xl at *
 generalize t.gs.length=gl' at *
 generalize t.tr.kind=xk' at *
 generalize t.tr.n=xn' at *
 generalize mkB t.tr.s=xb' at *
 generalize t.tr.l.length=xl' at *
 obtain ⟨B,hB⟩:∃B,B=w.heap.size:=⟨_,rfl⟩
 have HB1:=yb (zf9 w (.cells #[.slice ga gl gc,.int .i64 xk,.int .i64 xn,.string xb,.slice sa xl sc] 27) (.cells #[.slice ga' gl' gc',.int .i64 xk',.int .i64 xn',.string xb',.slice sa' xl' sc'] 27) (.cells #[.int .i64 ea,.int .i64 eg,.bool eu] 45))
 have HX1:=yb (zak (.cells #[.int .i64 ea,.int .i64 eg,.bool eu] 45) (zak (.cells #[.slice ga' gl' gc',.int .i64 xk',.int .i64 xn',.string xb',.slice sa' xl' sc'] 27) (zab (w:=w) (b:=B) (.cells #[.slice ga gl gc,.int .i64 xk,.int .i64 xn,.string xb,.slice sa xl sc] 27) hB)))
 have HY1:=yb (zak (.cells #[.int .i64 ea,.int .i64 eg,.bool eu] 45) (zab (w:=w.alloc (.cells #[.slice ga gl gc,.int .i64 xk,.int .i64 xn,.string xb,.slice sa xl sc] 27)) (b:=B+1) (.cells #[.slice ga' gl' gc',.int .i64 xk',.int .i64 xn',.string xb',.slice sa' xl' sc'] 27) (by rw [zaq,hB])))
 have HZ1:=yb (zab (w:=(w.alloc (.cells #[.slice ga gl gc,.int .i64 xk,.int .i64 xn,.string xb,.slice sa xl sc] 27)).alloc (.cells #[.slice ga' gl' gc',.int .i64 xk',.int .i64 xn',.string xb',.slice sa' xl' sc'] 27)) (b:=B+1+1) (.cells #[.int .i64 ea,.int .i64 eg,.bool eu] 45) (by rw [zaq,zaq,hB]))
 go_enter Tryz.func4,Tryz.ntmps4
 go_upto_region 1 with fail
 try rw [<-hB]
 generalize World.alloc _ _=W1 at *
 clear hB
 generalize B+1=B2 at *
 generalize B2+1=B3 at *
 obtain ⟨⟨x0,x1,x2,x3,x4⟩,-⟩:=zaL HX1.out
 have HC1:=yb (HF1.out W1 HB1.out)
 go_wp2_with fail
 refine HC1.out.mono ?_
 rintro e w2 ⟨⟨b1,rfl,hb1⟩,hb⟩
 have HB2:=yo HB1 hb
 have HX2:=yb (zaa hb HX1.out)
 have HY2:=yb (zaa hb HY1.out)
 have HZ2:=yb (zaa hb HZ1.out)
 have HO1:=yb hb1
 clear hb hb1 HC1 HF1 HX1 HY1 HZ1 HB1 x0 x1 x2 x3 x4
 cases b1
 ·clear HXP HRP HXC HRC HXS HRS HXE HRE HTO HO1 HF2 HX2 HY2 HZ2
  go_wp2_with (go_at_call 6;refine (HW.out _).mono ?_;rintro e w' ⟨rfl,hb⟩)
  go_ret
  exact ⟨rfl,HB2.out.trans (hb.mono HB2.out.size)⟩
 have HXP1:=yb (HXP.out (HO1.out rfl))
 have HRP1:=yb (HRP.out (HO1.out rfl))
 have HXC1:=yb (HXC.out (HO1.out rfl))
 have HRC1:=yb (HRC.out (HO1.out rfl))
 clear HXP HRP HXC HRC HO1
 obtain ⟨⟨y0,y1,y2,y3,y4⟩,-⟩:=zaL HY2.out
 have HC2:=yb (HF2.out w2 HB2.out)
 go_wp2_with fail
 refine HC2.out.mono ?_
 rintro e w3 ⟨⟨b2,rfl,-⟩,hb⟩
 have HB3:=yo HB2 hb
 have HX3:=yb (zaa hb HX2.out)
 have HY3:=yb (zaa hb HY2.out)
 have HZ3:=yb (zaa hb HZ2.out)
 clear hb HC2 HF2 HX2 HY2 HZ2 HB2 y0 y1 y2 y3 y4
 cases b2
 ·clear HXP1 HRP1 HXC1 HRC1 HXS HRS HXE HRE HTO HX3 HY3 HZ3
  go_wp2_with (go_at_call 6;refine (HW.out _).mono ?_;rintro e w' ⟨rfl,hb⟩)
  go_ret
  exact ⟨rfl,HB3.out.trans (hb.mono HB3.out.size)⟩
 obtain ⟨⟨x0,x1,x2,x3,x4⟩,-⟩:=zaL HX3.out
 go_wp2_with fail
 refine (HTO.out ga sa gl gc xl sc xk xn xb _).mono ?_
 rintro e w4 ⟨rfl,hb⟩
 have HB4:=yo HB3 hb
 have HX4:=yb (zaa hb HX3.out)
 have HY4:=yb (zaa hb HY3.out)
 have HZ4:=yb (zaa hb HZ3.out)
 have HP4:=yb (HXP1.out w4 HB4.out)
 clear hb HX3 HY3 HZ3 HB3 HXP1 x0 x1 x2 x3 x4
 go_wp2_with fail
 refine HP4.out.mono ?_
 rintro e w5 ⟨v5,rfl,hv5,hb⟩
 obtain ⟨va,vc,rfl,-,-⟩:=zaG hv5
 have HB5:=yo HB4 hb
 have HX5:=yb (zaa hb HX4.out)
 have HY5:=yb (zaa hb HY4.out)
 have HZ5:=yb (zaa hb HZ4.out)
 have HV5:=yb hv5
 have HP5:=yb (HRP1.out w5 HB5.out)
 clear hb hv5 HX4 HY4 HZ4 HB4 HP4 HRP1
 obtain ⟨⟨x0,x1,x2,x3,x4⟩,-⟩:=zaL HX5.out
 go_wp2_with fail
 refine HP5.out.mono ?_
 rintro e w6 ⟨rfl,hb⟩
 have HB6:=yo HB5 hb
 have HX6:=yb (zaa hb HX5.out)
 have HY6:=yb (zaa hb HY5.out)
 have HZ6:=yb (zaa hb HZ5.out)
 have HV6:=yb (zaS HV5.out hb)
 clear hb HX5 HY5 HZ5 HB5 HP5 HV5 x0 x1 x2 x3 x4
 obtain ⟨⟨z0,z1,z2⟩,-⟩:=zbC HZ6.out
 go_wp2_with fail
 refine (HXE.out _).mono ?_
 rintro e w7 ⟨rfl,hb⟩
 have HB7:=yo HB6 hb
 have HX7:=yb (zaa hb HX6.out)
 have HY7:=yb (zaa hb HY6.out)
 have HZ7:=yb (zaa hb HZ6.out)
 have HV7:=yb (zaS HV6.out hb)
 clear hb HX6 HY6 HZ6 HB6 HV6 z0 z1 z2
 obtain ⟨⟨z0,z1,z2⟩,-⟩:=zbC HZ7.out
 go_wp2_with fail
 refine (HRE.out _).mono ?_
 rintro e w8 ⟨rfl,hb⟩
 have HB8:=yo HB7 hb
 have HX8:=yb (zaa hb HX7.out)
 have HY8:=yb (zaa hb HY7.out)
 have HV8:=yb (zaS HV7.out hb)
 clear hb HX7 HY7 HZ7 HB7 HV7 z0 z1 z2
 go_upto_region 7 with fail
 obtain ⟨⟨x0,x1,x2,x3,x4⟩,-⟩:=zaL HX8.out
 obtain ⟨⟨y0,y1,y2,y3,y4⟩,-⟩:=zaL HY8.out
 have p0:=zas.cell x0
 have p1:=zas.cell x1
 have p2:=zas.cell x2
 have p3:=zas.cell x3
 have p4:=zas.cell x4
 have q0:=zas.cell y0
 have q1:=zas.cell y1
 have q2:=zas.cell y2
 have q3:=zas.cell y3
 have q4:=zas.cell y4
 clear x0 x1 x2 x3 x4 y0 y1 y2 y3 y4 HX8 HY8
 have hcx:∀q:zas w8,(convert 28 9 (.slice va pb.length vc)).run Tryz.prog q.w=.ok (.string (mkB pb)) q.w:=fun q=>convW (zaS HV8.out q.h)
 have e1:((mkB pb).toList==(mkB pb).toList)=true:=by simp
 have e2:(ck==ck)=true:=by simp
 have e3:(elb.toList==elb.toList)=true:=by simp
 have e4:(Ee==Ee)=true:=by simp
 have e5:(sb==sb)=true:=by simp
 have HXC8:=yb (fun p:zas w8=>HXC1.out p.w (HB8.out.trans (p.h.mono HB8.out.size)))
 have HRC8:=yb (fun p:zas w8=>HRC1.out p.w (HB8.out.trans (p.h.mono HB8.out.size)))
 have HXS8:=yb (fun p:zas w8=>HXS.out p.w (HB8.out.trans (p.h.mono HB8.out.size)))
 have HRS8:=yb (fun p:zas w8=>HRS.out p.w (HB8.out.trans (p.h.mono HB8.out.size)))
 have HT1:=yb (fun p:zas w8=>HTO.out ga sa gl gc xl sc xk xn xb p.w)
 have HT2:=yb (fun p:zas w8=>HTO.out ga' sa' gl' gc' xl' sc' xk' xn' xb' p.w)
 clear HXC1 HRC1 HXS HRS HTO HXE HRE HV8
 generalize mkB pb=PB at *
 refine zaw (by kernel_rfl) (by kernel_rfl) ?_
 repeat (go_big_quiet_step ((first
  |(go_at_call 8;first|(with_reducible exact Calls.below_of (HT1.out _))|(with_reducible exact Calls.below_of (HT2.out _)))
  |(go_at_call 17;with_reducible exact Calls.below_of (HXC8.out _))
  |(go_at_call 9;with_reducible exact Calls.below_of (HRC8.out _))
  |(go_at_call 18;with_reducible exact Calls.below_of (HXS8.out _))
  |(go_at_call 12;with_reducible exact Calls.below_of (HRS8.out _))
  |(go_at_call 6;with_reducible exact Calls.below_of (HW.out _)))))
 refine wpQuiet_nil ?_
 rintro _ ⟨⟨w9,hb9⟩,rfl⟩
 go_wp2
 go_ret
 exact ⟨rfl,HB8.out.trans (hb9.mono HB8.out.size)⟩
end Go.Proofs.YtcmoehknppjkiaaGreatDoor
namespace Go.Proofs.YtcmoehknppjkiaaGreatDoor
open Go.ChangeShapes Go.WideShapes Go.RowKit Go.Deep
theorem flat_get {α:Type} {C:α->List Value} {sz:Nat} (hC:∀a,(C a).length=sz):∀(l:List α) (j:Nat) (u:Value),(l.flatMap C)[j]?=some u->∃(i k:Nat) (a:α),j=i*sz+k/\k<sz/\l[i]?=some a/\(C a)[k]?=some u
 | [],j,u,h=>by simp at h
 | a::l,j,u,h=>by
  rw [List.flatMap_cons] at h
  by_cases hj:j<sz
  ·rw [List.getElem?_append_left (by rw [hC];exact hj)] at h
   exact ⟨0,j,a,by omega,hj,rfl,h⟩
  ·rw [List.getElem?_append_right (by rw [hC];omega),hC] at h
   obtain ⟨i,k,b,h1,h2,h3,h4⟩:=flat_get hC l _ u h
   exact ⟨i+1,k,b,by rw [Nat.succ_mul];omega,h2,h3,h4⟩
theorem flatC_len {α:Type} {C:α->List Value} {sz:Nat} (hC:∀a,(C a).length=sz):∀l:List α,(l.flatMap C).length=l.length*sz
 | []=>by simp
 | a::l=>by rw [List.flatMap_cons,List.length_append,hC,flatC_len hC l,List.length_cons,Nat.succ_mul];omega
section
variable {P : Program} {H : Type} {enc : TypeId × Value -> H} {w : World} {base : Nat} {spare : Nat -> Bool} {held : Bool}
theorem zeA {α:Type} [Inhabited α] {T E:TypeId} {sz:Nat} (und:P.underlying T=some (.slice E)) (hE:P.cellsOf E=sz) {C:α->List Value} (hC:∀a,(C a).length=sz) {p:α->Prop} {N fuel:Nat} (hf:fuel<=N+1)
  (elem:∀(m:Nat) (cs:List Value) (x:DataW H×List MemPlace),m<=N->DataW.trod enc P w base spare held m E cs=some x->∃a,cs=C a/\p a)
  {cs:List Value} {x:DataW H×List MemPlace} (h:DataW.trod enc P w base spare held fuel T cs=some x) :
  ∃(l:List α) (ad:Option Addr) (cap:Nat),cs=[.slice ad l.length cap]/\(∀a∈l,p a)/\(0<sz->Row w sz ad l.length cap (l.flatMap C)):=by
 rcases DataW.trod_slice und h with ⟨rfl,_⟩|⟨a,len,cap,elems,rest,m,hm,rfl,_,_,hl,hc,hel,helem,_⟩
 ·exact ⟨[],none,0,rfl,fun _ h=>(by cases h),fun _=>Row.nil w sz⟩
 ·subst hm
  have each:∀i,i<len->∃q:α,p q/\∀k,k<sz->w.cell? (a.add (i*sz+k))=(C q)[k]?:=fun i hi=>by
   have h1:=helem i hi
   rw [List.getElem?_eq_getElem (by omega),hE] at h1
   obtain ⟨cs',h2,h3⟩:=Option.bind_eq_some_iff.1 h1
   obtain ⟨q,rfl,hq⟩:=elem m cs' _ (by omega) h3
   obtain ⟨_,_,hcell⟩:=World.cells?_some h2
   refine ⟨q,hq,fun k hk=>?_⟩
   have:=hcell k hk
   rw [add_add] at this
   exact this
  obtain ⟨f,hf⟩:=choose_lt each
  let L:=(List.range len).map f
  have hL:L.length=len:=by simp [L]
  refine ⟨L,some a,cap,by rw [hL],fun q hq=>?_,fun hsz=>⟨?_,?_,hc,fun h=>(by cases h),fun hn=>?_⟩⟩
  ·obtain ⟨i,hi,rfl⟩:=List.mem_map.1 hq
   exact (hf i (List.mem_range.1 hi)).1
  ·rw [flatC_len hC]
  ·rw [hL];exact hl
  ·rw [hL] at hn
   have h0:=(hf 0 hn).2 0 hsz
   obtain ⟨u0,h00⟩:∃u0,(C (f 0))[0]?=some u0:=⟨_,List.getElem?_eq_getElem (by rw [hC];exact hsz)⟩
   rw [h00] at h0
   have hb:=World.block_lt_of_cell? w _ h0
   obtain ⟨b,off,spot⟩:=a
   have hspot:spot=none:=by simpa [Addr.add] using World.cell?_spot h0
   subst hspot
   refine ⟨b,off,rfl,by simpa [Addr.add] using hb,fun j u hj=>?_⟩
   obtain ⟨i,k,q,rfl,hk,hq,hu⟩:=flat_get hC _ _ _ hj
   have hi:i<len:=by
    have:=(List.getElem?_eq_some_iff.1 hq).1
    rwa [hL] at this
   have hq2:f i=q:=by simpa [L,hi] using hq
   have:=(hf i hi).2 k hk
   rw [hq2,hu,Addr.add_lit] at this
   exact this
end
end Go.Proofs.YtcmoehknppjkiaaGreatDoor
namespace Go.Proofs.YtcmoehknppjkiaaGreatDoor
open Go.ChangeShapes Go.WideShapes Go.Joins Go.RowKit Go.Deep
def zdk (l:List (PV×Value)):List Value:=l.flatMap fun p=>pvC p.1 p.2
theorem cellsP_len (l:List (PV×Value)):(zdk l).length=l.length*4:=by
 induction l with
 | nil=>rfl
 | cons p l ih=>unfold zdk at *;rw [List.flatMap_cons,List.length_append,ih,List.length_cons];simp [pvC];omega
theorem row4 {w:World} {b:Nat}:∀(l:List (PV×Value)) (off:Nat),
  (∀i p,l[i]?=some p->w.cell? ⟨b,off+i*4,none⟩=some (.int .i64 p.1.kind)/\w.cell? ⟨b,off+i*4+1,none⟩=some (.int .i64 p.1.n)/\w.cell? ⟨b,off+i*4+2,none⟩=some (.string (mkB p.1.s))/\w.cell? ⟨b,off+i*4+3,none⟩=some p.2) ->
  ∀j u,(zdk l)[j]?=some u->w.cell? ⟨b,off+j,none⟩=some u
 | [],_,_,j,u,h=>by simp [zdk] at h
 | p::l,off,hc,j,u,h=>by
  have h0:=hc 0 p rfl
  simp only [Nat.zero_mul,Nat.add_zero] at h0
  have e:zdk (p::l)=.int .i64 p.1.kind::.int .i64 p.1.n::.string (mkB p.1.s)::p.2::zdk l:=rfl
  rw [e] at h
  match j,h with
  | 0,h=>simp at h;subst h;exact h0.1
  | 1,h=>simp at h;subst h;exact h0.2.1
  | 2,h=>simp at h;subst h;exact h0.2.2.1
  | 3,h=>simp at h;subst h;exact h0.2.2.2
  | j+4,h =>
   have:=row4 l (off+4) (fun i q hq=>by
    have:=hc (i+1) q hq
    rw [show off+(i+1)*4=off+4+i*4 by omega] at this
    exact this) j u (by simpa using h)
   rw [show off+4+j=off+(j+4) by omega] at this
   exact this
theorem isVs_of {w:World}:∀l:List (PV×Value),(∀p∈l,IsV w anyF p.1 p.2)->IsVs w anyF (l.map (·.1)) (zdk l)
 | [],_=>rfl
 | p::l,h=>⟨p.2,zdk l,rfl,h p (List.mem_cons_self ..),isVs_of l fun q hq=>h q (List.mem_cons_of_mem _ hq)⟩
def grpC (q:Grp×Value):List Value:=[.int .i64 q.1.first,q.2]
theorem isGs_of {w:World}:∀l:List (Grp×Value),(∀q∈l,IsE w anyF q.1.es q.2)->IsGs w anyF (l.map (·.1)) (l.flatMap grpC)
 | [],_=>rfl
 | q::l,h=>⟨q.2,l.flatMap grpC,rfl,h q (List.mem_cons_self ..),isGs_of l fun r hr=>h r (List.mem_cons_of_mem _ hr)⟩
section
variable {H : Type} {enc : TypeId × Value -> H} {w : World} {base : Nat} {spare : Nat -> Bool} {held : Bool}
set_option maxRecDepth 100000 in
theorem ent_cells (m:Nat) (cs:List Value) (x:DataW H×List MemPlace) (h:DataW.trod enc Tryz.prog w base spare held m 45 cs=some x):∃e:Ent,cs=entC e/\True:=by
 have hC:Tryz.prog.cellsOf 45=3:=by kernel_rfl
 obtain ⟨xs,n,rfl,-,hlen,hxl,hf⟩:=DataW.trod_struct Tryz.underlying45 h
 rw [hC] at hlen
 match xs,hxl,cs,hlen with
 | [y0,y1,y2],_,[c0,c1,c2],_ =>
 have k3:Tryz.prog.cellsOf 3=1:=by kernel_rfl
 have k1:Tryz.prog.cellsOf 4=1:=by kernel_rfl
 have g0:DataW.trod enc Tryz.prog w base spare held n 3 ((([c0,c1,c2]:List Value).drop 0).take (Tryz.prog.cellsOf 3))=some y0:=hf 0 _ rfl
 have g1:DataW.trod enc Tryz.prog w base spare held n 3 ((([c0,c1,c2]:List Value).drop 1).take (Tryz.prog.cellsOf 3))=some y1:=hf 1 _ rfl
 have g2:DataW.trod enc Tryz.prog w base spare held n 4 ((([c0,c1,c2]:List Value).drop 2).take (Tryz.prog.cellsOf 4))=some y2:=hf 2 _ rfl
 rw [k3] at g0 g1
 rw [k1] at g2
 obtain ⟨z0,e0,_,_⟩:=DataW.trod_int Tryz.underlying3 g0
 obtain ⟨z1,e1,_,_⟩:=DataW.trod_int Tryz.underlying3 g1
 obtain ⟨z2,e2,_⟩:=DataW.trod_bool Tryz.underlying4 g2
 simp at e0 e1 e2
 subst e0 e1 e2
 exact ⟨⟨z0,z1,z2⟩,rfl,trivial⟩
set_option maxRecDepth 100000 in
theorem grp_cells (m:Nat) (cs:List Value) (x:DataW H×List MemPlace) (h:DataW.trod enc Tryz.prog w base spare held m 58 cs=some x):∃q:Grp×Value,cs=grpC q/\IsE w anyF q.1.es q.2:=by
 have hC:Tryz.prog.cellsOf 58=2:=by kernel_rfl
 obtain ⟨xs,n,rfl,-,hlen,hxl,hf⟩:=DataW.trod_struct Tryz.underlying58 h
 rw [hC] at hlen
 match xs,hxl,cs,hlen with
 | [y0,y1],_,[c0,c1],_ =>
 have k3:Tryz.prog.cellsOf 3=1:=by kernel_rfl
 have k1:Tryz.prog.cellsOf 56=1:=by kernel_rfl
 have g0:DataW.trod enc Tryz.prog w base spare held n 3 ((([c0,c1]:List Value).drop 0).take (Tryz.prog.cellsOf 3))=some y0:=hf 0 _ rfl
 have g1:DataW.trod enc Tryz.prog w base spare held n 56 ((([c0,c1]:List Value).drop 1).take (Tryz.prog.cellsOf 56))=some y1:=hf 1 _ rfl
 rw [k3] at g0
 rw [k1] at g1
 obtain ⟨z0,e0,_,_⟩:=DataW.trod_int Tryz.underlying3 g0
 obtain ⟨l,ad,cap,e1,_,hr⟩:=zeA (α:=Ent) (C:=entC) (p:=fun _=>True) Tryz.underlying56 (show Tryz.prog.cellsOf 45=3 by kernel_rfl) (fun _=>rfl) (Nat.le_succ n) (fun m cs x _ hx=>ent_cells m cs x hx) g1
 simp at e0 e1
 subst e0 e1
 exact ⟨(⟨z0,l⟩,.slice ad l.length cap),rfl,ad,cap,rfl,hr (by decide),fun _ _ _=>trivial⟩
set_option maxRecDepth 100000 in
theorem ent_tree {r:Reach} {b0:Nat} {v:Value} {d:DataW H} {p:List MemPlace} (hv:Value.okWide Tryz.prog w r b0 45 v) (h:DataW.Trod enc Tryz.prog w base spare held 45 v d p) :
  ∃e:Ent,v=entA e:=by
 obtain ⟨c0,c1,c2,y0,y1,y2,f,rfl,_⟩:=open_agg3 Tryz.underlying45 (by kernel_rfl) (by kernel_rfl) hv h
 obtain ⟨fuel,hf⟩:=h
 obtain ⟨e,he,-⟩:=ent_cells fuel _ _ hf
 simp [Value.cells,entC] at he
 obtain ⟨rfl,rfl,rfl⟩:=he
 exact ⟨e,rfl⟩
end
theorem txMs_of {M:Nat}:∀ {l:List PV},(∀p∈l,txM M p)->txMs M l
 | [],_=>trivial
 | v::_,h=>⟨h v (List.mem_cons_self ..),txMs_of fun p hp=>h p (List.mem_cons_of_mem _ hp)⟩
theorem all_memW {H:Type} {P:Program} {e:TypeId}:∀ {l:List (DataW H)} {i:Nat} {d:DataW H},l[i]?=some d->∀n∈d.weights P e,n∈DataW.weightsAll P e l
 | [],_,_,h,_,_=>by simp at h
 | x::l,0,d,h,n,hn=>by
  simp at h;subst h
  simp only [DataW.weightsAll]
  exact List.mem_append_left _ hn
 | x::l,i+1,d,h,n,hn=>by
  simp only [DataW.weightsAll]
  exact List.mem_append_right _ (all_memW (i:=i) (by simpa using h) n hn)
theorem slice_memW {H:Type} {P:Program} {t e:TypeId} (und:P.underlying t=some (.slice e)) {elems rest:List (DataW H)} {i:Nat} {d:DataW H} (h:elems[i]?=some d) (n:Nat) (hn:n∈d.weights P e):n∈(DataW.slice elems rest).weights P t:=by
 simp only [DataW.weights,und]
 exact List.mem_cons_of_mem _ (List.mem_append_left _ (all_memW h n hn))
section
variable {H : Type} {enc : TypeId × Value -> H} {w : World} {base : Nat} {spare : Nat -> Bool} {held : Bool}
set_option maxRecDepth 100000 in
theorem val_cellsM:∀(N fuel:Nat) (cs:List Value) (x:DataW H×List MemPlace),fuel<=N->DataW.trod enc Tryz.prog w base spare held fuel 25 cs=some x->∃(v:PV) (sl:Value),cs=pvC v sl/\IsV w anyF v sl/\(∀M,(∀n∈DataW.weights Tryz.prog 25 x.1,n<=M)->txM M v):=by
 intro N
 induction N with
 | zero =>
  intro fuel cs x hf h
  obtain rfl:fuel=0:=by omega
  simp [DataW.trod] at h
 | succ N ih =>
 intro fuel cs x hfu h
 have hC:Tryz.prog.cellsOf 25=4:=by kernel_rfl
 obtain ⟨xs,n,rfl,rfl,hlen,hxl,hf⟩:=DataW.trod_struct Tryz.underlying25 h
 rw [hC] at hlen
 match xs,hxl,cs,hlen with
 | [y0,y1,y2,y3],_,[c0,c1,c2,c3],_ =>
 have k3:Tryz.prog.cellsOf 3=1:=by kernel_rfl
 have k9:Tryz.prog.cellsOf 9=1:=by kernel_rfl
 have k22:Tryz.prog.cellsOf 23=1:=by kernel_rfl
 have g0:DataW.trod enc Tryz.prog w base spare held n 3 ((([c0,c1,c2,c3]:List Value).drop 0).take (Tryz.prog.cellsOf 3))=some y0:=hf 0 _ rfl
 have g1:DataW.trod enc Tryz.prog w base spare held n 3 ((([c0,c1,c2,c3]:List Value).drop 1).take (Tryz.prog.cellsOf 3))=some y1:=hf 1 _ rfl
 have g2:DataW.trod enc Tryz.prog w base spare held n 9 ((([c0,c1,c2,c3]:List Value).drop 2).take (Tryz.prog.cellsOf 9))=some y2:=hf 2 _ rfl
 have g3:DataW.trod enc Tryz.prog w base spare held n 23 ((([c0,c1,c2,c3]:List Value).drop 3).take (Tryz.prog.cellsOf 23))=some y3:=hf 3 _ rfl
 rw [k3] at g0 g1
 rw [k9] at g2
 rw [k22] at g3
 obtain ⟨z0,e0,_,_⟩:=DataW.trod_int Tryz.underlying3 g0
 obtain ⟨z1,e1,_,_⟩:=DataW.trod_int Tryz.underlying3 g1
 obtain ⟨s,e2,hy2,_⟩:=DataW.trod_string Tryz.underlying9 g2
 simp at e0 e1 e2
 subst e0 e1 e2
 have hws:∀n∈DataW.weights Tryz.prog 9 y2.1,n∈DataW.weights Tryz.prog 25 (DataW.agg ([y0,y1,y2,y3].map (·.1))):=fun n hn=>by
  simp only [DataW.weights,Tryz.underlying25]
  exact DataW.weights_mem_each (j:=2) rfl rfl n hn
 have hwl:∀n∈DataW.weights Tryz.prog 23 y3.1,n∈DataW.weights Tryz.prog 25 (DataW.agg ([y0,y1,y2,y3].map (·.1))):=fun n hn=>by
  simp only [DataW.weights,Tryz.underlying25]
  exact DataW.weights_mem_each (j:=3) rfl rfl n hn
 have hs1:∀M,(∀n∈DataW.weights Tryz.prog 25 (DataW.agg ([y0,y1,y2,y3].map (·.1))),n<=M)->s.data.toList.length<=M:=fun M h=>by
  refine h _ (hws _ ?_)
  rw [hy2]
  simp [DataW.weights]
 clear hws
 rcases DataW.trod_slice Tryz.underlying23 g3 with ⟨e3,_⟩|⟨a,len,cap,elems,rest,m,hm,e3,hy3,_,hl,hc,hel,helem,_⟩
 ·simp at e3
  subst e3
  exact ⟨.mk z0 z1 s.data.toList [],.slice none 0 0,rfl,IsV.leaf w anyF _ rfl,fun M h=>⟨hs1 M h,trivial⟩⟩
 ·simp at e3
  subst e3
  subst hm
  have each:∀i,i<len->∃q:PV×Value,(IsV w anyF q.1 q.2/\(∀M,(∀n∈DataW.weights Tryz.prog 25 (DataW.agg ([y0,y1,y2,y3].map (·.1))),n<=M)->txM M q.1))/\w.cell? (a.add (i*4))=some (.int .i64 q.1.kind)/\w.cell? (a.add (i*4+1))=some (.int .i64 q.1.n)/\w.cell? (a.add (i*4+2))=some (.string (mkB q.1.s))/\w.cell? (a.add (i*4+3))=some q.2:=fun i hi=>by
   have h1:=helem i hi
   have hei:elems[i]?=some (elems[i]'(by omega)):=List.getElem?_eq_getElem (by omega)
   rw [hei,hC] at h1
   obtain ⟨cs',h2,h3⟩:=Option.bind_eq_some_iff.1 h1
   obtain ⟨v,sl,rfl,hv,hvM⟩:=ih m cs' _ (by omega) h3
   have hvM2:∀M,(∀n∈DataW.weights Tryz.prog 25 (DataW.agg ([y0,y1,y2,y3].map (·.1))),n<=M)->txM M v:=fun M h=>hvM M fun n hn=>h n (hwl n (by
    rw [hy3]
    exact slice_memW Tryz.underlying23 (i:=i) (by rw [List.getElem?_map,hei];rfl) n hn))
   obtain ⟨_,_,hcell⟩:=World.cells?_some h2
   have a0:=hcell 0 (by omega)
   have a1:=hcell 1 (by omega)
   have a2:=hcell 2 (by omega)
   have a3:=hcell 3 (by omega)
   rw [add_add] at a0 a1 a2 a3
   exact ⟨(v,sl),⟨hv,hvM2⟩,by simpa [pvC] using a0,by simpa [pvC] using a1,by simpa [pvC] using a2,by simpa [pvC] using a3⟩
  have:Inhabited (PV×Value):=⟨(PV.none,.slice none 0 0)⟩
  obtain ⟨f,hf⟩:=choose_lt each
  let L:=(List.range len).map f
  have hL:L.length=len:=by simp [L]
  have hv:IsV w anyF (.mk z0 z1 s.data.toList (L.map (·.1))) (.slice (some a) (PV.mk z0 z1 s.data.toList (L.map (·.1))).l.length cap):=by
   refine IsV.mk (cs:=zdk L) ⟨?_,?_,hc,fun h=>(by cases h),fun hn=>?_⟩ (fun _ _ _=>trivial) ?_
   ·rw [cellsP_len];simp [PV.l]
   ·simp only [PV.l,List.length_map,hL];exact hl
   ·simp only [PV.l,List.length_map,hL] at hn
    have h0:=(hf 0 hn).2.1
    have hb:=World.block_lt_of_cell? w _ h0
    obtain ⟨b,off,spot⟩:=a
    have hspot:spot=none:=by simpa [Addr.add] using World.cell?_spot h0
    subst hspot
    refine ⟨b,off,rfl,by simpa [Addr.add] using hb,row4 L off fun i p hp=>?_⟩
    have hi:i<len:=by
     have:=(List.getElem?_eq_some_iff.1 hp).1
     rwa [hL] at this
    have hp2:f i=p:=by
     simpa [L,hi] using hp
    obtain ⟨_,e0,e1,e2,e3⟩:=hf i hi
    rw [hp2] at e0 e1 e2 e3
    rw [Addr.add_lit] at e0 e1 e2 e3
    rw [<-Nat.add_assoc] at e1 e2 e3
    exact ⟨e0,e1,e2,e3⟩
   ·refine isVs_of L fun p hp=>?_
    obtain ⟨i,hi,rfl⟩:=List.mem_map.1 hp
    exact (hf i (List.mem_range.1 hi)).1.1
  refine ⟨_,_,?_,hv,fun M h=>⟨hs1 M h,txMs_of fun p hp=>?_⟩⟩
  rotate_left
  ·obtain ⟨q,hq,rfl⟩:=List.mem_map.1 hp
   obtain ⟨i,hi,rfl⟩:=List.mem_map.1 hq
   exact (hf i (List.mem_range.1 hi)).1.2 M h
  simp only [pvC,PV.kind,PV.n,PV.s,PV.l,List.length_map,hL]
  rfl
end
section
variable {H : Type} {enc : TypeId × Value -> H} {w : World} {base : Nat} {spare : Nat -> Bool} {held : Bool}
set_option maxRecDepth 100000 in
theorem sec_cellsM (m:Nat) (cs:List Value) (x:DataW H×List MemPlace) (h:DataW.trod enc Tryz.prog w base spare held m 27 cs=some x):∃(s:Sec) (gv sl:Value),cs=secC s gv sl/\zbu w anyF s gv sl/\(∀M,(∀n∈DataW.weights Tryz.prog 27 x.1,n<=M)->txM M s.tr):=by
 have hC:Tryz.prog.cellsOf 27=5:=by kernel_rfl
 obtain ⟨xs,n,rfl,rfl,hlen,hxl,hf⟩:=DataW.trod_struct Tryz.underlying27 h
 rw [hC] at hlen
 match xs,hxl,cs,hlen with
 | [y0,y1],_,[c0,c1,c2,c3,c4],_ =>
 have k3:Tryz.prog.cellsOf 22=1:=by kernel_rfl
 have k1:Tryz.prog.cellsOf 25=4:=by kernel_rfl
 have g0:DataW.trod enc Tryz.prog w base spare held n 22 ((([c0,c1,c2,c3,c4]:List Value).drop 0).take (Tryz.prog.cellsOf 22))=some y0:=hf 0 _ rfl
 have g1:DataW.trod enc Tryz.prog w base spare held n 25 ((([c0,c1,c2,c3,c4]:List Value).drop 1).take (Tryz.prog.cellsOf 25))=some y1:=hf 1 _ rfl
 rw [k3] at g0
 rw [k1] at g1
 obtain ⟨l,ad,cap,e0,hp,hr⟩:=zeA (α:=Grp×Value) (C:=grpC) (p:=fun q=>IsE w anyF q.1.es q.2) Tryz.underlying22 (show Tryz.prog.cellsOf 58=2 by kernel_rfl) (fun _=>rfl) (Nat.le_succ n) (fun m cs x _ hx=>grp_cells m cs x hx) g0
 obtain ⟨v,sl,e1,hv,hvM⟩:=val_cellsM n n _ _ (yp _) g1
 have e0:c0=.slice ad l.length cap:=by simpa using e0
 have e1:[c1,c2,c3,c4]=pvC v sl:=by simpa using e1
 refine ⟨⟨l.map (·.1),v⟩,c0,sl,by rw [secC,<-e1],⟨⟨ad,cap,l.flatMap grpC,by rw [e0];simp,?_,fun _ _ _=>trivial,isGs_of l hp⟩,hv⟩,fun M h=>hvM M fun n hn=>h n ?_⟩
 ·have:=hr (by decide)
  simpa using this
 ·simp only [DataW.weights,Tryz.underlying27]
  exact DataW.weights_mem_each (j:=1) rfl rfl n hn
set_option maxRecDepth 100000 in
theorem sec_treeM {r:Reach} {b0:Nat} {v:Value} {d:DataW H} {p:List MemPlace} (hv:Value.okWide Tryz.prog w r b0 27 v) (h:DataW.Trod enc Tryz.prog w base spare held 27 v d p) :
  ∃(s:Sec) (gv sl:Value),v=secA s gv sl/\zbu w anyF s gv sl/\(∀M,(∀n∈DataW.weights Tryz.prog 27 d,n<=M)->txM M s.tr):=by
 obtain ⟨cs,rfl,hsz⟩:=okWide_struct Tryz.underlying27 hv
 obtain ⟨fuel,hf⟩:=h
 obtain ⟨s,gv,sl,e,hu,hM⟩:=sec_cellsM fuel _ _ hf
 have e2:cs=(secC s gv sl).toArray:=by rw [<-e];simp [Value.cells]
 exact ⟨s,gv,sl,by rw [e2];rfl,hu,hM⟩
end
end Go.Proofs.YtcmoehknppjkiaaGreatDoor
