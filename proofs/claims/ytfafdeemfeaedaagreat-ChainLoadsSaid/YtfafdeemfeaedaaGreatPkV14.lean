/-
  Our texts Cr3 to Xd4, in one.
-/
import Derived.Test.YtfafdeemfeaedaaGreatPkV13
set_option maxRecDepth 8000
set_option maxHeartbeats 8000000
open Go
variable {A A0 B N c2 e f g i j k kc m mb n' off p r tot u:Nat} {F G S U X:Nat->Prop} {L R T T':List (Int×Int)} {P at2 er gap tto x:Int} {W W' W0 W1 W2 W8 w' w0 w1 w2:World} {ad gv sl sv sx v' x0 x1 x2 x3 x4 y0 y1 y2 y3 z:Value} {c:UInt8} {cs xs:List Value} {ds rd:List Int} {ka sa:Option Addr} {key:List UInt8} {ov yq:Bool} {t ty:TypeId}
namespace Go.Proofs.YtfafdeemfeaedaaGreat
open Go.RowKit Go.Sort
theorem made_flJ (z:Value) (n:Nat):(madeCells #[z] (n*1)).toList=fl n (fun _=>z):=by
 rw [Nat.mul_one,toList_madeCells_one,zeK]
theorem own_cellJ {w:World} {base n cap:Nat} {enc:Nat->Value} (h:w.ownsRow base e 1 (.slice (some ⟨g,0,none⟩) n cap) n (fl n enc)) (i:Nat) (hi:i<n):w.cell? ⟨g,i,none⟩=some (enc i):=by
 rw [h.cellAt i (by omega),zfe enc hi]
theorem own_setJ {w:World} {base n cap:Nat} {enc:Nat->Value} (h:w.ownsRow base e 1 (.slice (some ⟨g,0,none⟩) n cap) n (fl n enc)) (i:Nat) (v:Value) :
  (w.setCell ⟨g,i,none⟩ v).ownsRow base e 1 (.slice (some ⟨g,0,none⟩) n cap) n (fl n (fun j=>if j=i then v else enc j)):=by
 rw [<-fl_set];exact (h.stored i v).1
theorem zeB {w:World} {base sz:Nat} {v:Value} {n:Nat} {ys:List Value} (h:w.ownsRow base e sz v n xs) (hx:xs=ys):w.ownsRow base e sz v n ys:=hx▸h
theorem ETBlJ:zc9 Tryz.prog 57 4 (.bool false) 1 1:=⟨Tryz.underlying57,by kernel_rfl,rfl,by omega⟩
def anyS (n:Nat) (L:List (Int×Int)) (i:Nat):Bool:=L.any fun z=>decide (0<=z.1)&&decide (z.1<=z.2)&&decide (z.2<=(n:Int))&&decide (z.1<=(i:Int))&&decide ((i:Int)<z.2)
theorem knL_fl (n:Nat) (L:List (Int×Int)):(knL n L).map Value.bool=fl n (fun i=>.bool (anyS n L i)):=by simp [knL,fl,anyS,Function.comp_def]
theorem zdS (n:Nat) (L:List (Int×Int)) (z:Int×Int) (i:Nat):anyS n (L++[z]) i=(anyS n L i||(decide (0<=z.1)&&decide (z.1<=z.2)&&decide (z.2<=(n:Int))&&decide (z.1<=(i:Int))&&decide ((i:Int)<z.2))):=by
 simp [anyS,List.any_append]
theorem infoFile:(Tryz.prog.info? 59).map (·.size)=some 2:=by kernel_rfl
section
variable {w : World} {a : Option Addr} {cap : Nat} {bs : List UInt8} {r mb fb : Nat}
structure SpM (w:World) (a:Option Addr) (cap:Nat) (bs:List UInt8) (r mb fb:Nat) (wr:World) (M:Nat->Bool):Prop where
 res:wr.heap[r]?=some (.cells #[.slice none 0 0,.slice none 0 0] 59 (0,0))
 fil:wr.heap[fb]?=some (.cells #[.slice a bs.length cap,.slice (some ⟨mb,0,none⟩) bs.length bs.length] 59 (0,0))
 own:wr.ownsRow (w.heap.size+1) 4 1 (.slice (some ⟨mb,0,none⟩) bs.length bs.length) bs.length (fl bs.length fun i=>.bool (M i))
 bel:Below w.heap.size w wr
 ne:r≠mb/\fb≠mb/\w.heap.size<=r
theorem SpM.on {wr wr':World} {M:Nat->Bool} (h:SpM w a cap bs r mb fb wr M) (hb:Below wr.heap.size wr wr'):SpM w a cap bs r mb fb wr' M :=
 ⟨zab hb h.res,zab hb h.fil,zaE h.own fun b Qc=>hb.block b (h.own.lt b Qc).2,h.bel.trans (hb.mono h.bel.size),h.ne⟩
theorem SpM.set {wr:World} {M M':Nat->Bool} (h:SpM w a cap bs r mb fb wr M) (i:Nat) (hM:∀j,j<bs.length->M' j=if j=i then true else M j):SpM w a cap bs r mb fb (wr.setCell ⟨mb,i,none⟩ (.bool true)) M' :=
 ⟨by rw [heap_setCell_other _ _ _ _ h.ne.1];exact h.res,by rw [heap_setCell_other _ _ _ _ h.ne.2.1];exact h.fil,
  zeB (own_setJ h.own i (.bool true)) (zdG fun j hj=>by rw [hM j hj];split<;>rfl),
  h.bel.setCell (show w.heap.size<=mb by have:=(h.own.lt mb rfl).1;omega) _,h.ne⟩
end
theorem rsparse_any {w:World} {a:Option Addr} {cap n sc:Nat} {bs:List UInt8} (hr:Row w 1 a bs.length cap (bs.map u8C)) (hl:bs.length<=800) (hs:SRow w sa n sc L) (hn:n<=30) :
  Calls Tryz.prog 23 #[.slice a bs.length cap,.slice sa n sc] w fun e w'=>∃ka kc,e=.returned (.agg #[.slice a bs.length cap,.slice ka bs.length kc])/\FlM w' a cap bs ka kc (knL bs.length L)/\Below w.heap.size w w':=by
 have HR:=yb hr
 have HS:=yb hs
 have Y3:=yb hs.len
 clear hr hs
 obtain ⟨r,ZL⟩:∃r,r=w.heap.size:=⟨_,rfl⟩
 have Qd:=yb (zac (w:=w) (b:=r) (.cells #[.slice none 0 0,.slice none 0 0] 59) ZL)
 have Qa:=yb (zam w (.cells #[.slice none 0 0,.slice none 0 0] 59))
 have ZM:=yb (zan w (.cells #[.slice none 0 0,.slice none 0 0] 59))
 have Qi:=yb ZL
 go_enter Tryz.func23,Tryz.ntmps23
 go_upto_region 1 with fail
 try rw [<-ZL]
 clear ZL
 generalize w.alloc _=W1 at *
 go_upto_region 2 with (at_make;refine make_full ETBlJ rfl _ _ rfl .i64 .i64 _ _ bs.length rfl rfl rfl rfl (by omega) (by unfold maxLen;omega) ?_;intro w1 Qy hb1;have ZN:=yb (zeB Qy (made_flJ _ bs.length));have Qb:=yb hb1;clear Qy hb1)
 obtain ⟨mb,Y4⟩:∃mb,mb=W1.heap.size:=⟨_,rfl⟩
 rw [<-Y4] at ZN |-
 have Q9:=yb (show SpM w a cap bs r mb w1.heap.size (w1.alloc (.cells #[.slice a bs.length cap,.slice (some ⟨mb,0,none⟩) bs.length bs.length] 59)) (anyS bs.length []) from
  ⟨zak _ (zab Qb.out Qd.out),zac _ rfl,by
   have h:=ZN.out
   have e:mb=w.heap.size+1:=by have:=ZM.out;omega
   rw [e] at h |-
   exact zeB (h.alloc _) (zdG fun j _=>by simp [anyS]),
   (Qa.out.trans (Qb.out.mono Qa.out.size)).alloc ((Qa.out.trans (Qb.out.mono Qa.out.size)).size) _,by have:=ZM.out;have:=Qi.out;omega,by have:=(ZN.out.lt mb rfl).2;omega,by have:=Qi.out;omega⟩)
 clear Y4 ZN Qb Qd Qa
 generalize w1.heap.size=fb at *
 generalize World.alloc _ _=W2 at *
 go_wp2_with fail
 go_loopw [6] (fun v6 wr=>∃k:Nat,v6=.int .i64 k/\k<=n/\Hid (SpM w a cap bs r mb fb wr (anyS bs.length (L.take k)))) (fun v _=>n-(intOf v).toNat)
 case atStart=>exact ⟨0,rfl,Nat.zero_le _,Q9⟩
 case round =>
  obtain ⟨k,rfl,hk,HM⟩:=hrel
  by_cases hlt:k<n
  ·have Qz:decide ((k:Int)<(n:Int))=true:=yd (by omega)
   have Qf:decide (k<n)=true:=yd hlt
   obtain ⟨b,off,rfl,-,hc⟩:=SRow.at (HS.out.mono HM.out.bel) k hlt
   obtain ⟨c0,c1⟩:=hc k hlt
   have Zn:=yb (show L.take (k+1)=L.take k++[L.getD k (0,0)] from zbz L k (by have:=Y3.out;omega))
   obtain ⟨⟨x,y⟩,Y5⟩:∃z,z=L.getD k (0,0):=⟨_,rfl⟩
   rw [<-Y5] at c0 c1 Zn
   clear Y5 hc
   simp only at c0 c1
   have Y6:=yb (zac (w:=wr) (b:=wr.heap.size) (.cells #[.int .i64 x,.int .i64 y] 129) rfl)
   have Za:=yb (HM.out.on (zam wr (.cells #[.int .i64 x,.int .i64 y] 129)))
   have XO:=yb (show wr.heap.size≠mb by have:=(HM.out.own.lt mb rfl).2;omega)
   clear HM
   go_upto_region 6 with fail
   generalize wr.heap.size=T at *
   generalize World.alloc _ _=W3 at *
   clear c0 c1
   obtain ⟨⟨t0,t1⟩,-⟩:=zaA Y6.out
   by_cases h1:x<0
   ·have d1:decide (x<0)=true:=yd h1
    have QI:=yb (show anyS bs.length (L.take (k+1))=anyS bs.length (L.take k) by funext i;rw [Zn.out,zdS];simp [show ¬(0<=x) by omega])
    go_wp2_with fail
    go_roundw
    case rel=>exact ⟨k+1,by go_num,hlt,yb (by rw [QI.out];exact Za.out)⟩
    case measure=>simp [intOf];omega
   have d1:decide (x<0)=false:=ye h1
   by_cases h2:y<x
   ·have d2:decide (y<x)=true:=yd h2
    have QI:=yb (show anyS bs.length (L.take (k+1))=anyS bs.length (L.take k) by funext i;rw [Zn.out,zdS];simp [show ¬(x<=y) by omega])
    go_wp2_with fail
    go_roundw
    case rel=>exact ⟨k+1,by go_num,hlt,yb (by rw [QI.out];exact Za.out)⟩
    case measure=>simp [intOf];omega
   have d2:decide (y<x)=false:=ye h2
   by_cases h3:(bs.length:Int)<y
   ·have d3:decide ((bs.length:Int)<y)=true:=yd h3
    have QI:=yb (show anyS bs.length (L.take (k+1))=anyS bs.length (L.take k) by funext i;rw [Zn.out,zdS];simp [show ¬(y<=(bs.length:Int)) by omega])
    go_wp2_with fail
    go_roundw
    case rel=>exact ⟨k+1,by go_num,hlt,yb (by rw [QI.out];exact Za.out)⟩
    case measure=>simp [intOf];omega
   have d3:decide ((bs.length:Int)<y)=false:=ye h3
   obtain ⟨u,rfl⟩:∃u:Nat,x=(u:Int):=⟨x.toNat,by omega⟩
   obtain ⟨v,rfl⟩:∃v:Nat,y=(v:Int):=⟨y.toNat,by omega⟩
   have Y7:u<=v:=by omega
   have XP:v<=bs.length:=by omega
   have d2n:decide (v<u)=false:=ye (by omega)
   have d3n:decide (bs.length<v)=false:=ye (by omega)
   have XQ:=yb (show anyS bs.length (L.take (k+1))=fun i=>anyS bs.length (L.take k) i||(decide (u<=i)&&decide (i<v)) by
    funext i
    rw [Zn.out,zdS]
    congr 1
    simp [Y7,XP])
   clear h1 h2 h3
   go_wp2_with fail
   go_loopw [8] (fun v8 wq=>∃j:Nat,v8=.int .i64 j/\u<=j/\j<=v/\Hid (wq.heap[T]?=some (.cells #[.int .i64 (u:Nat),.int .i64 (v:Nat)] 129 (0,0)))/\Hid (SpM w a cap bs r mb fb wq (fun i=>anyS bs.length (L.take k) i||(decide (u<=i)&&decide (i<j))))) (fun v8 _=>v-(intOf v8).toNat)
   case atStart=>exact ⟨u,rfl,yp _,Y7,Y6,yb (by
    have e:(fun i=>anyS bs.length (L.take k) i||(decide (u<=i)&&decide (i<u)))=anyS bs.length (L.take k):=by
     funext i
     rcases Nat.lt_or_ge i u with h|h
     ·simp [show ¬u<=i by omega]
     ·simp [show ¬i<u by omega]
    rw [e];exact Za.out)⟩
   case round =>
    obtain ⟨j,rfl,XR,VK,Zo,Zp⟩:=hrel
    clear t0 t1
    obtain ⟨⟨t0,t1⟩,-⟩:=zaA Zo.out
    obtain ⟨⟨f0,f1⟩,-⟩:=zaA Zp.out.fil
    by_cases hjl:j<v
    ·have e1:decide ((j:Int)<(v:Int))=true:=yd (by omega)
     have e2:decide (j<v)=true:=yd hjl
     have XS:j<bs.length:=by omega
     have Y8:=own_cellJ Zp.out.own j XS
     have ZO:=Zp.out.own.frozenAt j
     have XT:=yb (Zp.out.set (M':=fun i=>anyS bs.length (L.take k) i||(decide (u<=i)&&decide (i<j+1))) j (fun i _=>by
      by_cases e:i=j
      ·subst e;simp [XR]
      ·rw [yh e]
       rcases Nat.lt_or_ge i j with h|h
       ·simp [h,show i<j+1 by omega]
       ·simp [show ¬i<j by omega,show ¬i<j+1 by omega]))
     have Zq:=yb ((heap_setCell_other wr ⟨mb,j,none⟩ T (.bool true) XO.out).trans Zo.out)
     go_wp2_with fail
     go_roundw
     case rel=>exact ⟨j+1,by go_num,by omega,by omega,Zq,XT⟩
     case measure=>simp [intOf];omega
    ·obtain rfl:j=v:=by omega
     have e1:decide ((j:Int)<(j:Int))=false:=ye (by omega)
     have e2:decide (j<j)=false:=ye (by omega)
     go_wp2_with fail
     go_roundw
     case rel=>exact ⟨k+1,by go_num,hlt,yb (by rw [XQ.out];exact Zp.out)⟩
     case measure=>simp [intOf];omega
  ·have Qz:decide ((k:Int)<(n:Int))=false:=ye (by omega)
   have Qf:decide (k<n)=false:=ye hlt
   have Zb:=yb (show L.take k=L from List.take_of_length_le (by have:=Y3.out;omega))
   obtain ⟨⟨f0,f1⟩,-⟩:=zaA HM.out.fil
   obtain ⟨⟨z0,z1⟩,y0,y1⟩:=zaA HM.out.res
   go_wp2_with fail
   refine yi (results_cell_row rfl _ _ r 59 _ (0,0) _ rfl (by exact zbW HM.out.res _ _) Tryz.underlying59 rfl (by exact infoFile)) rfl ?_
   have Qc:=(HM.out.bel.setCell (p:=⟨r,0,none⟩) HM.out.ne.2.2 (.slice a bs.length cap)).setCell (p:=⟨r,1,none⟩) HM.out.ne.2.2 (.slice (some ⟨mb,0,none⟩) bs.length bs.length)
   refine ⟨_,_,rfl,⟨HR.out.mono Qc,?_,knL_len _ _⟩,Qc⟩
   have Qy:=zaE (w':=(wr.setCell ⟨r,0,none⟩ (.slice a bs.length cap)).setCell ⟨r,1,none⟩ (.slice (some ⟨mb,0,none⟩) bs.length bs.length)) HM.out.own (fun b hb=>by
    have e:b=mb:=by simpa [Value.ownBlock] using hb.symm
    rw [heap_setCell_other _ _ _ _ (show b≠r by rw [e];exact fun h=>HM.out.ne.1 h.symm),heap_setCell_other _ _ _ _ (show b≠r by rw [e];exact fun h=>HM.out.ne.1 h.symm)])
   rw [Zb.out,<-knL_fl] at Qy
   rw [knL_len]
   exact (Row.of_own Qy).2
end Go.Proofs.YtfafdeemfeaedaaGreat
namespace Go.Proofs.YtfafdeemfeaedaaGreat
open Go.RowKit
theorem dfind_any {w:World} {s:Sec} (h:zb1 w F s gv sl) (n:Int) (hs:zgG s.gs) (hn0:-2000000000000000000<=n) (hn1:n<=2000000000000000000) :
  Calls Tryz.prog 18 #[secA s gv sl,.int .i64 n] w fun e w'=>e=.returned (.tuple #[entA (findP (zca s.gs n)).1,.bool (findP (zca s.gs n)).2])/\Below w.heap.size w w':=by
 obtain ⟨gs,x⟩:=s
 simp only at hs |-
 obtain ⟨ga,gc,rfl,XU,XV,-⟩:=h.1.len
 simp only at XU
 obtain ⟨V,hV⟩:∃V,V=zca gs n:=⟨_,rfl⟩
 rw [<-hV]
 have HV:=yb hV
 have HS:=yb hs
 have Y9:=yb (fun (W:World) (hb:Below w.heap.size w W)=>(h.1.below hb))
 simp only at Y9
 clear hV hs
 unfold secA
 simp only
 obtain ⟨sa,sc,rfl,-,-,-⟩:=h.2.len
 simp only at h |-
 clear h
 have XW:(gs.length:Int)<=9223372036854775807:=by unfold maxLen at XV;omega
 generalize x.kind=xk at *
 generalize x.n=xn at *
 generalize mkB x.s=xb at *
 generalize x.l.length=xl at *
 obtain ⟨B,hB⟩:∃B,B=w.heap.size:=⟨_,rfl⟩
 have Qa:=yb (zbm w (.cells #[.slice ga gs.length gc,.int .i64 xk,.int .i64 xn,.string xb,.slice sa xl sc] 33) (.cells #[.int .i64 0,.int .i64 0,.bool false] 44))
 have XX:=yb (zak (w:=w.alloc (.cells #[.slice ga gs.length gc,.int .i64 xk,.int .i64 xn,.string xb,.slice sa xl sc] 33)) (.cells #[.int .i64 0,.int .i64 0,.bool false] 44) (zac (w:=w) (b:=B) (.cells #[.slice ga gs.length gc,.int .i64 xk,.int .i64 xn,.string xb,.slice sa xl sc] 33) hB))
 have Qd:=yb (zac (w:=w.alloc (.cells #[.slice ga gs.length gc,.int .i64 xk,.int .i64 xn,.string xb,.slice sa xl sc] 33)) (b:=B+1) (.cells #[.int .i64 0,.int .i64 0,.bool false] 44) (by rw [zan,hB]))
 have Qi:=yb (show w.heap.size<=B+1 by omega)
 go_enter Tryz.func18,Tryz.ntmps18
 go_upto_region 1 with fail
 try rw [<-hB]
 generalize World.alloc _ _=W1 at *
 clear hB
 generalize B+1=r at *
 obtain ⟨⟨x0,x1,x2,x3,x4⟩,-⟩:=zbn XX.out
 obtain ⟨⟨z0,z1,z2⟩,y0,y1,y2⟩:=zcH Qd.out
 go_wp2_with fail
 go_loop [6] (fun v=>∃c:Nat,v=.int .i64 c/\c<=gs.length/\Hid (V=zca (gs.drop c) n)) (fun v=>gs.length-(intOf v).toNat)
 case atStart=>exact ⟨0,rfl,Nat.zero_le _,HV⟩
 case round =>
  obtain ⟨c,rfl,hc,HQ⟩:=hrel
  by_cases hlt:c<gs.length
  case neg =>
   have ZP:c=gs.length:=by omega
   have Qz:decide ((c:Int)<(gs.length:Int))=false:=ye (by omega)
   have Qf:decide (c<gs.length)=false:=ye (by omega)
   have Qn:=yb (HQ.out.trans (show zca (gs.drop c) n=none by rw [ZP,List.drop_length];rfl))
   clear ZP
   go_wp2
   refine yi (zaa rfl _ _ r 44 _ (0,0) _ rfl (by exact zf9 Qd.out _ _ _) Tryz.underlying44 rfl (by exact zct) _ rfl) rfl ?_
   rw [Qn.out]
   exact ⟨rfl,((Qa.out.setCell Qi.out _).setCell Qi.out _).setCell Qi.out _⟩
  have Qz:decide ((c:Int)<(gs.length:Int))=true:=by simp;omega
  have Qf:decide (c<gs.length)=true:=by simp;omega
  have XY:(c:Int)<(gs.length:Int):=by omega
  obtain ⟨-,-,-,b,off,ha,-,-,Yj⟩:=(Y9.out W1 Qa.out).at (by omega)
  subst ha
  obtain ⟨g,hg⟩:∃g,gs[c]?=some g:=⟨_,List.getElem?_eq_getElem hlt⟩
  obtain ⟨v,hv,g0,g1⟩:=Yj c g hg
  obtain ⟨ea,ec,rfl,VL,VM,-⟩:=hv.len
  have Xa:=yb hv
  have QP:=yb (fun h=>HQ.out.trans (find_go hg h))
  have Xb:=yb (fun h=>HQ.out.trans (find_hit hg h))
  have VN:g.es.length<=100000:=(HS.out g (List.mem_of_getElem? hg)).2.2
  have XZ:(g.es.length:Int)<=9223372036854775807:=by omega
  clear Yj hv hg HQ
  obtain ⟨gf,ge⟩:=g
  simp only at *
  go_wp2_with fail
  go_loop [7] (fun v=>∃d:Nat,v=.int .i64 d/\d<=ge.length/\Hid (∀i:Nat,i<d->gf≠n-(i:Int))) (fun v=>ge.length-(intOf v).toNat)
  case atStart=>exact ⟨0,rfl,Nat.zero_le _,yb (fun i hi=>by omega)⟩
  case round =>
   obtain ⟨d,rfl,hd,QJ⟩:=hrel
   by_cases hle:d<ge.length
   case neg =>
    have X0:decide ((d:Int)<(ge.length:Int))=false:=ye (by omega)
    have Yk:decide (d<ge.length)=false:=ye (by omega)
    have Qn:=yb (QP.out (fun h=>by
     refine QJ.out (n-gf).toNat ?_ ?_<;>omega))
    go_wp2
    go_round
    case rel=>exact ⟨c+1,by go_num,by omega,Qn⟩
    case measure=>simp [intOf];omega
   have X0:decide ((d:Int)<(ge.length:Int))=true:=by simp;omega
   have Yk:decide (d<ge.length)=true:=by simp;omega
   have VO:(d:Int)<(ge.length:Int):=by omega
   have VP:-9223372036854775808<=n-(d:Int):=by omega
   have VQ:n-(d:Int)<=9223372036854775807:=by omega
   by_cases hh:gf=n-(d:Int)
   case neg =>
    have e0:(gf==n-(d:Int))=false:=by rw [yf];exact hh
    have Yl:=yb (show ∀i:Nat,i<d+1->gf≠n-(i:Int) from fun i hi=>by
     rcases Nat.lt_or_ge i d with h|h
     ·exact QJ.out i h
     ·obtain rfl:i=d:=by omega
      exact hh)
    clear hh QJ
    go_wp2
    go_round
    case rel=>exact ⟨d+1,by go_num,by omega,Yl⟩
    case measure=>simp [intOf];omega
   have e0:(gf==n-(d:Int))=true:=by rw [beq_iff_eq];exact hh
   have e1:decide (gf<=n)=true:=yd (by omega)
   have e2:gf<=n:=by omega
   have Qn:=yb (Xb.out ⟨by omega,by omega⟩)
   rw [show (n-gf).toNat=d by omega] at Qn
   obtain ⟨-,-,-,be,oe,X1,VR,-,Zr⟩:=Xa.out.at (by omega)
   subst X1
   obtain ⟨ee,Ym⟩:∃ee,ge[d]?=some ee:=⟨_,List.getElem?_eq_getElem hle⟩
   obtain ⟨k0,k1,k2⟩:=Zr d ee Ym
   have ZQ:=yb (show ge.getD d {}=ee by rw [List.getD_eq_getElem?_getD,Ym];rfl)
   rw [ZQ.out] at Qn
   clear Zr Ym ZQ Xa QP Xb hh QJ
   go_wp2
   refine yi (zaa rfl _ _ r 44 _ (0,0) _ rfl (by exact zf9 Qd.out _ _ _) Tryz.underlying44 rfl (by exact zct) _ rfl) rfl ?_
   rw [Qn.out]
   exact ⟨rfl,((Qa.out.setCell Qi.out _).setCell Qi.out _).setCell Qi.out _⟩
theorem rplace_any {w:World} {l:List Sec} {v:Value} (h:IsL w F l v) (hs:zfS l) (n:Int) (hn0:-2000000000000000000<=n) (hn1:n<=2000000000000000000) :
  Calls Tryz.prog 69 #[v,.int .i64 n] w (PlcEnd w (zbL l n)):=by
 obtain ⟨a,cap,rfl,g1,g2,g3⟩:=h.len
 have QA:(l.length:Int)<=9223372036854775807:=by unfold maxLen at g2;omega
 have HL:=yb h
 obtain ⟨R,hR⟩:∃R,R=zbL l n:=⟨_,rfl⟩
 have HR:=yb hR
 have ZR:=yb hs
 rw [<-hR]
 clear h hR g2 g3 hs
 go_enter Tryz.func69,Tryz.ntmps69
 go_wp2_with fail
 go_loopw [5] (fun v wr=>∃k:Nat,v=.int .i64 k/\k<=l.length/\Hid (R=zbL (l.drop k) n)/\Hid (Below w.heap.size w wr)) (fun v _=>l.length-(intOf v).toNat)
 case atStart=>exact ⟨0,rfl,Nat.zero_le _,HR,yb (Below.refl _ _)⟩
 case round =>
  obtain ⟨k,rfl,hk,HQ,HB⟩:=hrel
  by_cases hlt:k<l.length
  ·have Qz:decide ((k:Int)<(l.length:Int))=true:=yd (by omega)
   have Qf:decide (k<l.length)=true:=yd hlt
   have XY:(k:Int)<(l.length:Int):=by omega
   have Xc:=yb (HL.out.below HB.out)
   have Xd:=Xc.out
   obtain ⟨-,-,-,b,off,rfl,-,-,hc⟩:=Xd.at (by omega)
   obtain ⟨s,hx⟩:∃s,l[k]?=some s:=⟨_,List.getElem?_eq_getElem hlt⟩
   obtain ⟨gv,sl,Qo,c0,c1,c2,c3,c4⟩:=hc k s hx
   obtain ⟨ga,gc,rfl,-,-,-⟩:=Qo.1.len
   obtain ⟨la,lc,rfl,-,-,-⟩:=Qo.2.len
   have ZS:=yb (dfind_any Qo n (ZR.out s (List.mem_of_getElem? hx)) hn0 hn1)
   have QQ:l.drop k=s::l.drop (k+1):=by
    rw [List.drop_eq_getElem_cons hlt]
    rw [List.getElem?_eq_getElem hlt] at hx
    rw [Option.some.inj hx]
   have HD:=yb (HQ.out.trans (by rw [QQ]))
   unfold secA at ZS
   clear Xd hc hx QQ HQ
   have HN:=yb (fun h=>HD.out.trans (zfv (n:=n) h))
   have HY:=yb (fun e h=>HD.out.trans (zfB (n:=n) (e:=e) h))
   clear HD
   generalize zca s.gs n=o at *
   clear Qo Xc
   generalize s.gs.length=gl at *
   generalize s.tr.kind=xk at *
   generalize s.tr.n=xn at *
   generalize mkB s.tr.s=xb at *
   generalize s.tr.l.length=xl at *
   go_wp2_with fail
   refine ZS.out.mono ?_
   rintro e w2 ⟨rfl,Qc⟩
   cases o with
   | none =>
    have HE:=yb (HN.out rfl)
    have Qb:=yo HB Qc
    have HZ:=yb (zac (w:=w2) (b:=w2.heap.size) (.cells #[.int .i64 0,.int .i64 0,.bool false] 44) rfl)
    have Qm:=yb (Qb.out.alloc Qb.out.size (.cells #[.int .i64 0,.int .i64 0,.bool false] 44))
    simp only [findP,entA]
    clear Qc HB Qb ZS c0 c1 c2 c3 c4 HN HY
    go_upto_region 5 with fail
    generalize w2.heap.size=Z at *
    generalize World.alloc _ _=W3 at *
    obtain ⟨⟨z0,z1,z2⟩,-⟩:=zcH HZ.out
    go_wp2_with fail
    go_roundw
    case rel=>exact ⟨k+1,by go_num,hlt,HE,Qm⟩
    case measure=>simp [intOf];omega
   | some x =>
    have HE:=yb (HY.out x rfl)
    obtain ⟨xa,xg,xu⟩:=x
    have Qb:=yo HB Qc
    have HZ:=yb (zac (w:=w2) (b:=w2.heap.size) (.cells #[.int .i64 xa,.int .i64 xg,.bool xu] 44) rfl)
    have Qm:=yb (Qb.out.alloc Qb.out.size (.cells #[.int .i64 xa,.int .i64 xg,.bool xu] 44))
    simp only [findP,entA] at HE |-
    clear Qc HB Qb ZS c0 c1 c2 c3 c4 HN HY
    go_upto_region 5 with fail
    generalize w2.heap.size=Z at *
    generalize World.alloc _ _=W3 at *
    obtain ⟨⟨z0,z1,z2⟩,-⟩:=zcH HZ.out
    cases xu
    ·have Qp:=yb (HE.out.trans (yh (by simp)))
     go_wp2_with fail
     go_ret
     exact ⟨by rw [Qp.out];rfl,Qm.out⟩
    ·by_cases hg:xg=0
     ·subst hg
      have Qp:=yb (HE.out.trans (yg ⟨rfl,rfl⟩))
      go_wp2_with fail
      go_ret
      exact ⟨by rw [Qp.out];rfl,Qm.out⟩
     ·have e0:(xg==0)=false:=by rw [yf];exact hg
      have Qp:=yb (HE.out.trans (yh (fun h=>hg h.2)))
      clear hg
      go_wp2_with fail
      go_ret
      exact ⟨by rw [Qp.out];rfl,Qm.out⟩
  ·have Qz:decide ((k:Int)<(l.length:Int))=false:=ye (by omega)
   have Qf:decide (k<l.length)=false:=ye hlt
   obtain rfl:k=l.length:=by omega
   have HE:=yb (HQ.out.trans (by rw [List.drop_length,placeV_nil]))
   go_wp2_with fail
   go_ret
   exact ⟨by rw [HE.out];rfl,HB.out⟩
theorem rfind_any {w:World} {v:PV} (h:IsV w F v sl) (hev:v.kind=7->v.l.length % 2=0) (key:List UInt8):Calls Tryz.prog 101 #[pvA v sl,.string (mkB key)] w (zgI w (zeo v key)):=by
 obtain ⟨a,cap,rfl,g1,g2,g3⟩:=h.len
 have QA:(v.l.length:Int)<=9223372036854775807:=by unfold maxLen at g2;omega
 have HV:=yb h
 have QJ:=yb (fun h=>findN_no (v:=v) (key:=key) h)
 have Zs:=yb (fun h=>findN_yes (v:=v) (key:=key) h)
 obtain ⟨R,hR⟩:∃R,R=zeo v key:=⟨_,rfl⟩
 rw [<-hR] at QJ Zs |-
 clear hR h g2 g3
 unfold pvA
 obtain ⟨l,hl⟩:∃l,l=v.l:=⟨_,rfl⟩
 rw [<-hl] at HV Zs QA g1 hev |-
 have HL:=yb hl
 clear hl
 obtain ⟨B,hB⟩:∃B,B=w.heap.size:=⟨_,rfl⟩
 have Qa:=yb (zam w (.cells #[.int .i64 v.kind,.int .i64 v.n,.string (mkB v.s),.slice a l.length cap] 27))
 have Qd:=yb (zac (w:=w) (b:=B) (.cells #[.int .i64 v.kind,.int .i64 v.n,.string (mkB v.s),.slice a l.length cap] 27) hB)
 have QB:=yb (HV.out.below Qa.out)
 generalize v.kind=vk at *
 generalize v.n=vn at *
 generalize mkB v.s=vb at *
 go_enter Tryz.func101,Tryz.ntmps101
 go_upto_region 1 with fail
 rw [<-hB]
 clear hB HV
 generalize w.alloc _=W1 at *
 obtain ⟨⟨z0,z1,z2,z3⟩,-⟩:=zaf Qd.out
 by_cases h7:vk=7
 case neg =>
  have HR:=yb (QJ.out h7)
  have e0:(vk==7)=false:=by rw [yf];exact h7
  have e1:(vk != 7)=true:=by simp only [bne,e0,yj]
  clear h7 Zs QJ hev
  go_wp2_with fail
  go_loop [5] (fun v5=>v5=.int .i64 0) (fun _=>0)
  case atStart=>rfl
  case round =>
  subst hrel
  go_wp2_with fail
  go_ret
  exact ⟨by rw [HR.out];rfl,Qa.out⟩
 have HR:=yb (Zs.out h7)
 have VS:=hev h7
 clear hev
 subst h7
 clear QJ Zs
 go_wp2_with fail
 go_loop [5] (fun v5=>∃k:Nat,v5=.int .i64 k/\k<=l.length/\k % 2=0/\Hid (R=(fN key (l.drop k)).map (· + k))) (fun v5=>l.length+2-(intOf v5).toNat)
 case atStart=>exact ⟨0,rfl,by omega,rfl,yb (by rw [HR.out,List.drop_zero];cases fN key l<;>rfl)⟩
 case round =>
  obtain ⟨k,rfl,hk,Xe,HQ⟩:=hrel
  by_cases hlt:k<l.length
  ·have Qz:decide ((k:Int)<(l.length:Int))=true:=yd (by omega)
   have Qf:decide (k<l.length)=true:=yd hlt
   have VT:(k:Int)+2<=9223372036854775807:=by omega
   have Xf:k+2<=l.length:=by omega
   have Xg:=QB.out
   obtain ⟨-,-,-,b,off,rfl,-,-,hc⟩:=Xg.at (by omega)
   obtain ⟨x,hx⟩:∃x,l[k]?=some x:=⟨_,List.getElem?_eq_getElem hlt⟩
   obtain ⟨slx,-,c0,-,c2,-⟩:=hc k x (by rw [<-HL.out];exact hx)
   have QR:=yb (fN_step (key:=key) hx)
   have hq:((mkB x.s).toList==(mkB key).toList)=decide (x.s=key):=by rw [zaP key];exact zbM x.s key
   clear Xg hc hx
   by_cases h5:x.kind=5
   case neg =>
    have e0:(x.kind==5)=false:=by rw [yf];exact h5
    have Qn:=yb (show R=(fN key (l.drop (k+2))).map (· + (k+2)) by rw [HQ.out,QR.out,yh (fun h=>h5 h.1),Option.map_map];congr 1;funext q;show q+2+k=q+(k+2);omega)
    clear h5 QR HQ hq
    generalize x.kind=xk at *
    go_wp2_with fail
    go_round
    case rel=>exact ⟨k+2,by go_num,Xf,by omega,Qn⟩
    case measure=>simp [intOf];omega
   have e0:(x.kind==5)=true:=by rw [beq_iff_eq];exact h5
   by_cases hs:x.s=key
   ·have Qn:=yb (show R=some k by rw [HQ.out,QR.out,yg ⟨h5,hs⟩];show some (0+k)=_;rw [Nat.zero_add])
    rw [yd hs] at hq
    clear h5 QR HQ hs
    generalize x.kind=xk at *
    generalize mkB x.s=xb at *
    go_wp2_with fail
    go_ret
    exact ⟨by rw [Qn.out];rfl,Qa.out⟩
   ·have Qn:=yb (show R=(fN key (l.drop (k+2))).map (· + (k+2)) by rw [HQ.out,QR.out,yh (fun h=>hs h.2),Option.map_map];congr 1;funext q;show q+2+k=q+(k+2);omega)
    rw [ye hs] at hq
    clear h5 QR HQ hs
    generalize x.kind=xk at *
    generalize mkB x.s=xb at *
    go_wp2_with fail
    go_round
    case rel=>exact ⟨k+2,by go_num,Xf,by omega,Qn⟩
    case measure=>simp [intOf];omega
  ·have Qz:decide ((k:Int)<(l.length:Int))=false:=ye (by omega)
   have Qf:decide (k<l.length)=false:=ye hlt
   have Qn:=yb (show R=none by rw [HQ.out,fN_end (by omega)];rfl)
   clear HQ
   go_wp2_with fail
   go_ret
   exact ⟨by rw [Qn.out];rfl,Qa.out⟩
theorem rget_any {w:World} {v:PV} (h:IsV w F v sl) (hev:v.kind=7->v.l.length % 2=0) (key:List UInt8):Calls Tryz.prog 65 #[pvA v sl,.string (mkB key)] w (GetEnd w F (getP (getV v key))):=by
 obtain ⟨a,cap,rfl,g1,g2,g3⟩:=h.len
 have QA:(v.l.length:Int)<=9223372036854775807:=by unfold maxLen at g2;omega
 have HV:=yb (IsV.lt _ h)
 have HF:=yb (fun (W:World) (hb:Below w.heap.size w W)=>rfind_any (h.below hb) hev key)
 obtain ⟨R,hR⟩:∃R,R=zeo v key:=⟨_,rfl⟩
 have Zb:=yb (show ∀k,R=some k->k<v.l.length from fun k hk=>by
  rw [hR] at hk
  unfold zeo at hk
  split at hk
  ·exact fN_lt hk
  ·cases hk)
 obtain ⟨V,hV⟩:∃V,V=getP (getV v key):=⟨_,rfl⟩
 have Yn:=yb (show R=none->V=(PV.none,false) from fun h=>by rw [hV];unfold getV;rw [<-hR,h];rfl)
 have ZT:=yb (show ∀k,R=some k->V=(v.l.getD (k+1) PV.none,true) from fun k h=>by rw [hV];unfold getV;rw [<-hR,h];rfl)
 rw [<-hR] at HF
 rw [<-hV]
 clear hR hV h g2 g3
 unfold zgI pvA at HF
 unfold pvA
 obtain ⟨l,hl⟩:∃l,l=v.l:=⟨_,rfl⟩
 clear hev
 rw [<-hl] at HV HF Zb ZT QA g1 |-
 have HL:=yb hl
 clear hl
 obtain ⟨B,hB⟩:∃B,B=w.heap.size:=⟨_,rfl⟩
 have Qa:=yb (zbm w (.cells #[.int .i64 v.kind,.int .i64 v.n,.string (mkB v.s),.slice a l.length cap] 27) (.cells #[.int .i64 0,.int .i64 0,.string ⟨#[]⟩,.slice none 0 0] 27))
 have Qd:=yb (zak (w:=w.alloc (.cells #[.int .i64 v.kind,.int .i64 v.n,.string (mkB v.s),.slice a l.length cap] 27)) (.cells #[.int .i64 0,.int .i64 0,.string ⟨#[]⟩,.slice none 0 0] 27) (zac (w:=w) (b:=B) (.cells #[.int .i64 v.kind,.int .i64 v.n,.string (mkB v.s),.slice a l.length cap] 27) hB))
 have Xh:=yb (zac (w:=w.alloc (.cells #[.int .i64 v.kind,.int .i64 v.n,.string (mkB v.s),.slice a l.length cap] 27)) (b:=B+1) (.cells #[.int .i64 0,.int .i64 0,.string ⟨#[]⟩,.slice none 0 0] 27) (by rw [zan,hB]))
 have HW:=yb (show w.heap.size<=B+1 by omega)
 generalize v.kind=vk at *
 generalize v.n=vn at *
 generalize mkB v.s=vb at *
 go_enter Tryz.func65,Tryz.ntmps65
 go_upto_region 1 with fail
 try rw [<-hB]
 generalize World.alloc _ _=W1 at *
 clear hB
 generalize B+1=r at *
 obtain ⟨⟨z0,z1,z2,z3⟩,-⟩:=zaf Qd.out
 go_wp2_with fail
 refine (HF.out _ Qa.out).mono ?_
 rintro e w2 ⟨rfl,Qc⟩
 have Qe:=yb (zab Qc Qd.out)
 have Zt:=yb (zab Qc Xh.out)
 have Qb:=yo Qa Qc
 have Qj:=yb (HV.out.below Qb.out)
 clear Qc Qd Xh Qa HV HF z0 z1 z2 z3
 obtain ⟨⟨z0,z1,z2,z3⟩,-⟩:=zaf Qe.out
 obtain ⟨⟨y0,y1,y2,y3⟩,f0,f1,f2,f3⟩:=zaf Zt.out
 cases R with
 | none =>
  have HE:=yb (Yn.out rfl)
  clear Yn ZT Zb
  unfold zcU
  go_wp2
  refine yi (zaa rfl _ _ r 27 _ (0,0) _ rfl (by exact set4 Zt.out _ _ _ _) Tryz.underlying27 rfl (by exact zar) _ rfl) rfl ?_
  rw [HE.out]
  exact ⟨_,rfl,IsV.leaf _ _ _ rfl,zad Qb.out HW.out _ _ _ _⟩
 | some k =>
  have Xi:=Zb.out k rfl
  have HE:=yb (ZT.out k rfl)
  have X2:decide ((k:Int)<0)=false:=ye (by omega)
  clear Yn ZT Zb
  unfold zcU
  simp only
  by_cases hle:k+1=l.length
  ·have hq:((k:Int)+1==(l.length:Int))=true:=by rw [beq_iff_eq];omega
   have X3:((k:Int)==(l.length:Int)-1)=true:=by rw [beq_iff_eq];omega
   have hg:l.getD (k+1) PV.none=PV.none:=by rw [List.getD_eq_getElem?_getD,List.getElem?_eq_none (by omega)];rfl
   have Qp:=yb (HE.out.trans (by rw [hg]))
   clear hg HE hle
   go_wp2
   refine yi (zaa rfl _ _ r 27 _ (0,0) _ rfl (by exact set4 Zt.out _ _ _ _) Tryz.underlying27 rfl (by exact zar) _ rfl) rfl ?_
   rw [Qp.out]
   exact ⟨_,rfl,IsV.leaf _ _ _ rfl,zad Qb.out HW.out _ _ _ _⟩
  ·have hq:((k:Int)+1==(l.length:Int))=false:=by rw [yf];omega
   have X3:((k:Int)==(l.length:Int)-1)=false:=by rw [yf];omega
   have Zu:k+1<l.length:=by omega
   have Xj:=Qj.out
   obtain ⟨-,-,-,b,off,rfl,-,-,hc⟩:=Xj.at (by omega)
   obtain ⟨x,hx⟩:∃x,l[k+1]?=some x:=⟨_,List.getElem?_eq_getElem Zu⟩
   obtain ⟨slx,Yo,c0,c1,c2,c3⟩:=hc (k+1) x (by rw [<-HL.out];exact hx)
   have hg:l.getD (k+1) PV.none=x:=by rw [List.getD_eq_getElem?_getD,hx];rfl
   have Qp:=yb (HE.out.trans (by rw [hg]))
   obtain ⟨xa,xc,rfl,-,-,-⟩:=Yo.len
   have X4:=yb Yo
   have Yp:=yb (show pvA x (.slice xa x.l.length xc)=.agg #[.int .i64 x.kind,.int .i64 x.n,.string (mkB x.s),.slice xa x.l.length xc] from rfl)
   have Qi:=yb (zai Zt.out)
   obtain ⟨j,hj⟩:∃j,j=k+1:=⟨_,rfl⟩
   have VU:(k:Int)+1=(j:Int):=by omega
   rw [<-hj] at c0 c1 c2 c3 Zu
   have HJ:=yb hj
   clear hj Xj hc hx hg HE hle Yo
   generalize x.kind=xk at *
   generalize x.n=xn at *
   generalize mkB x.s=xb at *
   go_wp2
   refine yi (zaa rfl _ _ r 27 _ (0,0) _ rfl (by exact set4 Zt.out _ _ _ _) Tryz.underlying27 rfl (by exact zar) _ rfl) rfl ?_
   rw [Qp.out]
   refine ⟨.slice xa x.l.length xc,by rw [Yp.out];rfl,?_,zad Qb.out HW.out _ _ _ _⟩
   exact IsV.keep ⟨by rw [zaS];exact yp _,fun b _ hb=>za2 (by have:=HW.out;have:=hb.2;omega) _ _ _ _⟩ (fun b hb=>hb.1) _ X4.out
theorem rof_any {w:World} {l:List Sec} {v:Value} (h:IsL w F l v) (hs:zfS l) (hev:evenL l):Calls Tryz.prog 31 #[v] w (OfEnd w (tabV l)):=by
 obtain ⟨a,cap,rfl,g1,g2,g3⟩:=h.len
 have QA:(l.length:Int)<=9223372036854775807:=by unfold maxLen at g2;omega
 have HL:=yb h
 obtain ⟨V,hV⟩:∃V,V=tabV l:=⟨_,rfl⟩
 have HV:=yb hV
 have ZR:=yb hs
 have Xk:=yb hev
 rw [<-hV]
 clear h hV g2 g3 hs hev
 obtain ⟨r,hr⟩:∃r,r=w.heap.size:=⟨_,rfl⟩
 have Qd:=yb (zac (w:=w) (b:=r) (.cells #[.slice none 0 0,.int .i64 0] 78) hr)
 have Qa:=yb (zam w (.cells #[.slice none 0 0,.int .i64 0] 78))
 have Qi:=yb (Nat.le_of_eq hr.symm)
 go_enter Tryz.func31,Tryz.ntmps31
 go_upto_region 1 with fail
 try rw [<-hr]
 clear hr
 generalize w.alloc _=W1 at *
 cases l with
 | nil =>
  have HE:=yb (HV.out.trans tabV_nil)
  obtain ⟨⟨z0,z1⟩,y0,y1⟩:=zaA Qd.out
  go_wp2_with fail
  refine yi (zaa rfl _ _ r 78 _ (0,0) _ rfl (by exact zbW Qd.out _ _) Tryz.underlying78 rfl (by exact zbV) _ rfl) rfl ?_
  exact zgb HE.out Qa.out Qi.out _ _
 | cons s0 l0 =>
  have Xl:=yb (HL.out.below Qa.out)
  have Xm:=Xl.out
  obtain ⟨-,-,-,b,off,rfl,-,-,hc⟩:=Xm.at (by simp)
  obtain ⟨gv,sl,Qo,c0,c1,c2,c3,c4⟩:=hc 0 s0 rfl
  obtain ⟨la,lc,rfl,-,-,-⟩:=Qo.2.len
  have hlen:(s0::l0).length=l0.length+1:=rfl
  have HG:=yb (fun (W:World) (hb:Below W1.heap.size W1 W) (key:List UInt8)=>rget_any (IsV.below Qo.2 hb) (Xk.out s0 (List.mem_cons_self ..)) key)
  have Zc:=yb (fun (W:World) (hb:Below w.heap.size w W) (n:Int) (h0:-2000000000000000000<=n) (h1:n<=2000000000000000000)=>rplace_any (HL.out.below hb) ZR.out n h0 h1)
  have QB:=yb (fun h=>HV.out.trans (tabV_size h))
  have Qj:=yb (fun h h2=>HV.out.trans (tabV_root h h2))
  have Qr:=yb (fun h h2=>HV.out.trans (tabV_ok h h2))
  have Yq:=yb (HG.out W1 (Below.refl _ _) zdB)
  have Zd:=yb (fun (W:World) (hb:Below W1.heap.size W1 W)=>HG.out W hb kRoot)
  obtain ⟨PV1,Xn⟩:∃P,P=fun n=>zbL (s0::l0) n:=⟨_,rfl⟩
  have Xo:=yb (show ∀n,zbL (s0::l0) n=PV1 n from fun n=>by rw [Xn])
  simp only [Xo.out] at Zc Qr
  clear Xn
  generalize getP (getV s0.tr zdB)=Z at *
  generalize getP (getV s0.tr kRoot)=Q at *
  obtain ⟨zv,zb⟩:=Z
  obtain ⟨qv,qb⟩:=Q
  simp only at QB Qj Qr
  unfold pvA at Yq Zd
  have VV:(((s0::l0).length:Int)==0)=false:=by rw [yf];simp only [List.length_cons];omega
  have VW:((s0::l0).length==0)=false:=by rw [yf];simp
  have VX:0<(s0::l0).length:=by simp
  simp only [Nat.zero_mul,Nat.add_zero] at c0 c1 c2 c3 c4
  clear HL Xl Xm hc Qo HG HV Xo hlen Xk ZR c0
  generalize (s0::l0).length=N at *
  generalize s0.tr.kind=xk at *
  generalize s0.tr.n=xn at *
  generalize mkB s0.tr.s=xb at *
  generalize s0.tr.l.length=xl at *
  go_wp2_with fail
  refine Yq.out.mono ?_
  rintro e w2 ⟨zl,rfl,Xp,Qc⟩
  obtain ⟨za,zc,rfl,-,-,-⟩:=Xp.len
  simp only [pvA]
  have Qg:=Qc.alloc Qc.size (.cells #[.int .i64 zv.kind,.int .i64 zv.n,.string (mkB zv.s),.slice za zv.l.length zc] 27)
  have QC:=yb (zac (w:=w2) (b:=w2.heap.size) (.cells #[.int .i64 zv.kind,.int .i64 zv.n,.string (mkB zv.s),.slice za zv.l.length zc] 27) rfl)
  have Qe:=yb (zab Qg Qd.out)
  have Zv:=yb Qg
  have Xq:=yb (show w.heap.size<=w2.heap.size/\r<w2.heap.size from ⟨Nat.le_trans Qa.out.size Qc.size,Nat.lt_of_lt_of_le (zai Qd.out) Qc.size⟩)
  have e1:=cell?_keep Qg c1
  have e2:=cell?_keep Qg c2
  have e3:=cell?_keep Qg c3
  have e4:=cell?_keep Qg c4
  clear Qc Qg Xp Yq Qd c1 c2 c3 c4
  generalize zv.kind=zk at *
  generalize zv.n=zn at *
  generalize mkB zv.s=zs at *
  generalize zv.l.length=zl2 at *
  go_upto_region 4 with fail
  generalize w2.heap.size=S4 at *
  generalize World.alloc _ _=W2 at *
  have ZU:=yb (Qa.out.trans (Zv.out.mono Qa.out.size))
  obtain ⟨⟨s1,s2,s3,s4⟩,-⟩:=zaf QC.out
  obtain ⟨⟨z0,z1⟩,y0,y1⟩:=zaA Qe.out
  by_cases h1:zk=2
  case neg =>
   have HE:=yb (QB.out (.inl h1))
   have f0:(zk==2)=false:=by rw [yf];exact h1
   have f1:(zk != 2)=true:=by simp only [bne,f0,yj]
   clear h1 QB Qj Qr Zc Zd
   go_wp2_with fail
   refine yi (zaa rfl _ _ r 78 _ (0,0) _ rfl (by exact zbW Qe.out _ _) Tryz.underlying78 rfl (by exact zbV) _ rfl) rfl ?_
   exact zgb HE.out ZU.out Qi.out _ _
  subst h1
  by_cases h2:zn<1
  ·have HE:=yb (QB.out (.inr (.inl h2)))
   have f0:decide (zn<1)=true:=yd h2
   clear h2 QB Qj Qr Zc Zd
   go_wp2_with fail
   refine yi (zaa rfl _ _ r 78 _ (0,0) _ rfl (by exact zbW Qe.out _ _) Tryz.underlying78 rfl (by exact zbV) _ rfl) rfl ?_
   exact zgb HE.out ZU.out Qi.out _ _
  have f2:decide (zn<1)=false:=ye h2
  by_cases h3:4097<zn
  ·have HE:=yb (QB.out (.inr (.inr h3)))
   have f0:decide (4097<zn)=true:=yd h3
   clear h3 h2 QB Qj Qr Zc Zd
   go_wp2_with fail
   refine yi (zaa rfl _ _ r 78 _ (0,0) _ rfl (by exact zbW Qe.out _ _) Tryz.underlying78 rfl (by exact zbV) _ rfl) rfl ?_
   exact zgb HE.out ZU.out Qi.out _ _
  have f3:decide (4097<zn)=false:=ye h3
  have ZV:¬((2:Int)≠2\/zn<1\/4097<zn):=by rintro (h|h|h);exact h rfl;exact h2 h;exact h3 h
  have ZW:=yb (Zd.out _ Zv.out)
  clear Zd
  go_wp2_with fail
  refine ZW.out.mono ?_
  rintro e w3 ⟨ql,rfl,Xr,Qs⟩
  obtain ⟨qa,qc,rfl,-,-,-⟩:=Xr.len
  simp only [pvA]
  have Qt:=Qs.alloc Qs.size (.cells #[.int .i64 qv.kind,.int .i64 qv.n,.string (mkB qv.s),.slice qa qv.l.length qc] 27)
  have Yr:=yb (zac (w:=w3) (b:=w3.heap.size) (.cells #[.int .i64 qv.kind,.int .i64 qv.n,.string (mkB qv.s),.slice qa qv.l.length qc] 27) rfl)
  have QG:=yb (zab Qt QC.out)
  have ZX:=yb (zab Qt Qe.out)
  have Qm:=yb ((Qa.out.trans (Zv.out.mono Qa.out.size)).trans (Qt.mono (Qa.out.trans (Zv.out.mono Qa.out.size)).size))
  have X5:=yb (show S4<w3.heap.size/\r<w3.heap.size from ⟨Nat.lt_of_lt_of_le (zai QC.out) Qs.size,Nat.lt_of_lt_of_le (zai Qe.out) Qs.size⟩)
  clear Qs Qt Xr ZW QC Qe Zv Qa e1 e2 e3 e4 ZU z0 z1 y0 y1 s1 s2 s3 s4
  generalize qv.kind=qk at *
  generalize qv.n=qn at *
  generalize mkB qv.s=qs at *
  generalize qv.l.length=ql2 at *
  go_upto_region 7 with fail
  generalize w3.heap.size=R4 at *
  generalize World.alloc _ _=W3 at *
  obtain ⟨⟨s1,s2,s3,s4⟩,-⟩:=zaf QG.out
  obtain ⟨⟨q1,q2,q3,q4⟩,-⟩:=zaf Yr.out
  obtain ⟨⟨z0,z1⟩,y0,y1⟩:=zaA ZX.out
  by_cases h8:qk=8
  case neg =>
   have HE:=yb (Qj.out ZV h8)
   have f0:(qk==8)=false:=by rw [yf];exact h8
   have f1:(qk != 8)=true:=by simp only [bne,f0,yj]
   clear h8 h2 h3 ZV QB Qj Qr Zc
   go_wp2_with fail
   refine yi (zaa rfl _ _ r 78 _ (0,0) _ rfl (by exact zbW ZX.out _ _) Tryz.underlying78 rfl (by exact zbV) _ rfl) rfl ?_
   exact zgb HE.out Qm.out Qi.out _ _
  subst h8
  have HE:=yb (Qr.out ZV (fun h=>h rfl))
  obtain ⟨M,hM⟩:∃M:Nat,zn=(M:Int)+1:=⟨(zn-1).toNat,by omega⟩
  subst hM
  have VY:M<=4096:=by omega
  rw [show ((M:Int)+1).toNat-1=M by omega] at HE
  have X6:=yb (show OfM 78 w (W3.alloc (.cells #[.slice none 0 0,.int .i64 qn] 78)) (W3.alloc (.cells #[.slice none 0 0,.int .i64 qn] 78)) r S4 W3.heap.size #[.int .i64 2,.int .i64 ((M:Int)+1),.string zs,.slice za zl2 zc] qn [] (.slice none 0 0) from
   ⟨zak _ ZX.out,zak _ QG.out,zac _ rfl,World.ownsRow_nil _ _ _ _,Qm.out.alloc Qm.out.size _,by
    have:=X5.out;have:=Qi.out;have:=zai Yr.out;have:=Qm.out.size;rw [zan];omega⟩)
  clear h2 h3 ZV QB Qj Qr f2 f3
  go_upto_region 11 with fail
  generalize W3.heap.size=Tb at *
  generalize World.alloc _ _=W4 at *
  clear s1 s2 s3 s4 q1 q2 q3 q4 z0 z1 y0 y1 QG Yr ZX Qm
  go_wp2_with fail
  go_loopw [9] (fun v9 wr=>∃(k:Nat) (v:Value),v9=.int .i64 ((k:Int)+1)/\k<=M/\Hid (OfM 78 w W4 wr r S4 Tb #[.int .i64 2,.int .i64 ((M:Int)+1),.string zs,.slice za zl2 zc] qn ((List.range k).map fun (i:Nat)=>PV1 ((i:Int)+1)) v)) (fun v _=>M+1-(intOf v).toNat)
  case atStart=>exact ⟨0,_,rfl,Nat.zero_le _,X6⟩
  case round =>
   obtain ⟨k,v,rfl,hk,HM⟩:=hrel
   obtain ⟨sa,sc,rfl,-,-⟩:=zas HM.out.own
   simp only [List.length_map,List.length_range] at HM
   obtain ⟨⟨s1,s2,s3,s4⟩,-⟩:=zaf HM.out.siz
   obtain ⟨⟨t0,t1⟩,tf0,tf1⟩:=zaA HM.out.tab
   by_cases hlt:k<M
   ·have Qz:decide ((k:Int)+1<(M:Int)+1)=true:=yd (by omega)
    have Qf:decide ((k:Int)<(M:Int))=true:=yd (by omega)
    have Ys:decide (k<M)=true:=yd hlt
    have X7:=yb (Zc.out wr.drew (HM.out.bel.trans ((Below.refl _ wr).drew.mono HM.out.bel.size)) ((k:Int)+1) (by omega) (by omega))
    obtain ⟨iB,X8,X9,Va,Vb⟩:=info_parts EIntT.info
    have Vc:=yb (show ((List.range (k+1)).map fun (i:Nat)=>PV1 ((i:Int)+1))=((List.range k).map fun (i:Nat)=>PV1 ((i:Int)+1))++[PV1 ((k:Int)+1)] by rw [List.range_succ,List.map_append];rfl)
    have Xs:=yb (show ((List.range k).map fun (i:Nat)=>PV1 ((i:Int)+1)).length=k by rw [List.length_map,List.length_range])
    generalize PV1 ((k:Int)+1)=pl at *
    go_wp2_with fail
    have t0d:=cell?_keep (Below.refl _ wr).drew t0
    go_region_law
     (first
      |(go_simp;go_at_call 69;refine X7.out.mono ?_;rintro e w5 ⟨rfl,Qv⟩;have QS:=yb (HM.out.on ((Below.refl _ wr).drew.trans Qv));have Vd:=yb (show w5.ownsRow W4.heap.size 3 1 (.slice sa k sc) k (((List.range k).map fun (i:Nat)=>PV1 ((i:Int)+1)).map (Value.int .i64)) by have h:=QS.out.own;rwa [Xs.out] at h);obtain ⟨⟨m0,m1⟩,mf0,mf1⟩:=zaA QS.out.tab;obtain ⟨⟨n0,n1⟩,nf0,nf1⟩:=zaA (zak (.cells #[.int .i64 pl] 3) QS.out.tab))
      |(refine step_append_lies _ (by rfl) _ _ _ (by rfl) W4.heap.size 3 iB _ 1 8 EIntT.und X8 X9 Va Vb rfl (by omega) (.slice sa k sc) k _ (by rfl) (Vd.out.alloc _) ⟨w5.heap.size,0,none⟩ 1 1 [.int .i64 pl] (by rfl) (by rfl) (World.news_of_block (cs:=#[.int .i64 pl]) (t:=3) (fr:=(0,0)) (heap_alloc_new w5 _)) (by simp [Value.oneCell']) (by omega) (by unfold maxLen;omega) (by omega) (by rw [zan];have:=QS.out.lt;omega) (w5.heap.size+1) (by simp) ?_;intro g cap7 w7 hO7 hgrow Yj hlt7;have Ve:=yb ((QS.out.far hgrow QS.out.lt.2.2.2.1).trans QS.out.tab);have Vf:=yb (QS.out.app hgrow (by rw [Xs.out];exact hO7));obtain ⟨⟨p0,p1⟩,pf0,pf1⟩:=zaA Ve.out))
    all_goals (try go_wp2_with fail)
    all_goals go_roundw
    all_goals first
     | exact ⟨k+1,_,by first|rfl|(congr 1),hlt,yb (by rw [Vc.out];exact Vf.out)⟩
     |(simp [intOf];omega)
   ·obtain rfl:k=M:=by omega
    have Qz:decide ((k:Int)+1<(k:Int)+1)=false:=ye (by omega)
    have Qf:decide ((k:Int)<(k:Int))=false:=ye (by omega)
    have Ys:decide (k<k)=false:=ye (by omega)
    obtain ⟨⟨z0,z1⟩,y0,y1⟩:=zaA HM.out.res
    have ZY:=yb HM.out.lt
    have Yt:=yb HM.out.own
    go_wp2_with fail
    refine yi (zaa rfl _ _ r 78 _ (0,0) _ rfl (by exact zbW HM.out.res _ _) Tryz.underlying78 rfl (by exact zbV) _ rfl) rfl ?_
    rw [HE.out]
    refine ⟨sa,sc,by simp only [List.length_map,List.length_range];rfl,?_,fun x hx=>by have h1:=(Yt.out.lt x.block (by rw [hx];rfl)).1;have h2:=ZY.out;omega,(HM.out.bel.setCell (p:=⟨r,0,none⟩) ZY.out.1 _).setCell (p:=⟨r,1,none⟩) ZY.out.1 _⟩
    have ho:=zaE (w':=(wr.setCell ⟨r,0,none⟩ (.slice sa k sc)).setCell ⟨r,1,none⟩ (.int .i64 qn)) Yt.out (fun b hb=>by
     have h1:=(Yt.out.lt b hb).1
     have h2:=ZY.out
     rw [heap_setCell_other _ _ _ _ (show b≠r by omega),heap_setCell_other _ _ _ _ (show b≠r by omega)])
    simp only [List.length_map,List.length_range] at ho |-
    exact (Row.of_own ho).2
theorem slice_tail {a:Option Addr} {cap:Nat} {bs:List UInt8} (hr:Row W 1 a bs.length cap (bs.map u8C)) {l:Nat} (hl:l<=bs.length) :
  ∃a' c',(∀W':World,(Instr.slice 22 (.slice a bs.length cap) (some (.int .i64 (l:Int))) none none).run Tryz.prog W'=.ok (.slice a' (bs.drop l).length c') W')/\Row W 1 a' (bs.drop l).length c' ((bs.drop l).map u8C):=by
 have Xt:=hr.2.1
 have Vg:=hr.2.2.1
 rcases Nat.lt_or_ge l bs.length with h|h
 ·obtain ⟨b,o,rfl,-,-⟩:=hr.at 0 l h
  refine ⟨some ⟨b,o+l,none⟩,cap-l,fun W'=>?_,?_⟩
  ·rw [ym]
   exact zgE W' b o bs.length cap l (bs.length-l) (by omega) (by omega) Xt
  ·have:=zdA hr l (bs.length-l) (by omega)
   rw [List.take_of_length_le (by rw [ym];omega)] at this
   rw [ym]
   exact this
 ·obtain rfl:l=bs.length:=by omega
  have Vh:Tryz.prog.underlying 22=some (.slice (Tryz.prog.elem 22)):=by simp [Program.elem,Tryz.underlying22]
  have he:Tryz.prog.elem 22=5:=by simp [Program.elem,Tryz.underlying22]
  have hd:bs.drop bs.length=[]:=List.drop_length ..
  have Yu:∀W':World,∃a',(Instr.slice 22 (.slice a bs.length cap) (some (.int .i64 (bs.length:Int))) none none).run Tryz.prog W'=.ok (.slice a' 0 (cap-bs.length)) W'/\(a'=none->a=none)/\∀W'',(Instr.slice 22 (.slice a bs.length cap) (some (.int .i64 (bs.length:Int))) none none).run Tryz.prog W''=.ok (.slice a' 0 (cap-bs.length)) W'':=by
   intro W'
   have Zw:∀W'':World,(Instr.slice 22 (.slice a bs.length cap) (some (.int .i64 (bs.length:Int))) none none).run Tryz.prog W''=.ok (.slice (if cap=bs.length then a else a.map fun x=>x.add (bs.length*1)) 0 (cap-bs.length)) W'':=fun W''=>by
    rw [run_slice_l W'' 22 _ _ _ Vh .i64 _ (by omega) (by omega),he,szByte]
    cases a with
    | none =>
     simp [Result.andThen,sliced]
    | some x =>
     by_cases hc:cap=bs.length
     ·simp [Result.andThen,sliced,hc]
     ·simp [Result.andThen,sliced,hc]
   refine ⟨_,Zw W',fun h=>?_,Zw⟩
   split at h
   ·exact h
   ·cases a with
    | none=>rfl
    | some x=>cases h
  obtain ⟨a',-,hn,Yv⟩:=Yu W
  refine ⟨a',cap-bs.length,fun W'=>by rw [hd];exact Yv W',?_⟩
  rw [hd]
  exact ⟨rfl,Nat.zero_le _,by show cap-bs.length<=maxLen;omega,fun h=>by have:=hr.2.2.2.1 (hn h);omega,fun h=>absurd h (Nat.lt_irrefl _)⟩
def lastUp (w b:List UInt8):Nat->Option Nat
 | 0=>none
 | k+1=>zdt w b k
theorem lastUp_go {w b:List UInt8} :lastUp w b (k+1)=if (b.drop k).take w.length=w then some k else lastUp w b k:=by
 cases k with
 | zero=>rfl
 | succ k=>rfl
theorem lastUp_end {w b:List UInt8} (h:k=0\/k+w.length<=b.length+1) (h2:¬k+w.length<=b.length) (_hw:0<w.length):zcN w b=lastUp w b k:=by
 unfold zcN
 rcases h with rfl|h
 ·rw [yg (by omega)];rfl
 ·cases k with
  | zero=>rw [yg (by omega)];rfl
  | succ k=>rw [yh (by omega),show b.length-w.length=k by omega];rfl
theorem rstart_any {w:World} {a:Option Addr} {cap:Nat} {bs:List UInt8} {kn:List Bool} (h:FlM w a cap bs ka kc kn) (hl:bs.length<=390000) :
  Calls Tryz.prog 22 #[.agg #[.slice a bs.length cap,.slice ka bs.length kc]] w (zeW w (zbj bs kn)):=by
 obtain ⟨fr,ZO⟩:∃fr,fr=bs.length-64:=⟨_,rfl⟩
 have HN:=yb (fun (W:World) (hb:Below w.heap.size w W)=>zdv (h.mono hb) (k:=fr) (by omega))
 obtain ⟨n1,n2⟩:=zdf (kn:=kn) (a:=fr) (by have:=h.len;omega)
 rw [h.len] at n2
 have Zx:=yb (fun h=>zfC (bs:=bs) (kn:=kn) h)
 have QC:=yb (fun h hk=>zfK (bs:=bs) (kn:=kn) h hk)
 have QG:=yb (fun k h hk=>zfh (bs:=bs) (kn:=kn) h (k:=k) hk)
 rw [<-ZO] at Zx QC QG
 obtain ⟨V,hV⟩:∃V,V=zbj bs kn:=⟨_,rfl⟩
 rw [<-hV] at Zx QC QG |-
 obtain ⟨ta,tc,Zy,Zz⟩:=slice_tail h.row (l:=fr) (by omega)
 have QW:=yb Zy
 have Xu:=yb Zz
 have Vi:=yb (show (bs.drop fr).length<=64 by rw [ym];omega)
 have Xv:=yb ZO
 generalize zaU kn fr=n at *
 clear h hV Zy Zz ZO
 obtain ⟨B,hB⟩:∃B,B=w.heap.size:=⟨_,rfl⟩
 have Qa:=yb (zam w (.cells #[.slice a bs.length cap,.slice ka bs.length kc] 59))
 have Qd:=yb (zac (w:=w) (b:=B) (.cells #[.slice a bs.length cap,.slice ka bs.length kc] 59) hB)
 go_enter Tryz.func22,Tryz.ntmps22
 go_upto_region 1 with fail
 try rw [<-hB]
 clear hB
 generalize w.alloc _=W1 at *
 obtain ⟨⟨z0,z1⟩,-⟩:=zaA Qd.out
 go_upto_if 17 with fail
 go_cut [5] from 12 (fun v wx=>v=.int .i64 (fr:Nat)/\wx=W1)
 case first =>
  by_cases h64:bs.length<64
  ·have d1:decide ((bs.length:Int)-64<0)=true:=yd (by omega)
   obtain rfl:fr=0:=by have:=Xv.out;omega
   go_wp2_with fail
   go_meet
   exact ⟨rfl,rfl⟩
  ·have d1:decide ((bs.length:Int)-64<0)=false:=ye (by omega)
   have e1:(bs.length:Int)-64=(fr:Int):=by have:=Xv.out;omega
   go_wp2_with fail
   go_meet
   exact ⟨by first|rfl|rw [e1],rfl⟩
 case rest =>
 obtain ⟨rfl,hw⟩:=hcut
 subst hw
 have Xw:=yb (fun p:zbE wc=>HN.out p.w (Qa.out.trans (p.h.mono Qa.out.size)))
 have q0:=zbE.cell z0
 have q1:=zbE.cell z1
 go_upto_region 4 with fail
 refine zck (by kernel_rfl) (by kernel_rfl) ?_
 repeat (go_big_quiet_step ((go_at_call 60;with_reducible exact Calls.below_of (Xw.out _))))
 refine wpQuiet_nil ?_
 rintro w9 ⟨⟨w2,Qc⟩,Yw⟩
 have Vj:w2=w9:=by first|exact Yw|exact Yw.symm
 subst Vj
 clear Yw
 have Qe:=yb (zab Qc Qd.out)
 have Qb:=yo Qa Qc
 clear Qc Qd Qa Xw z0 z1 q0 q1
 obtain ⟨⟨z0,z1⟩,-⟩:=zaA Qe.out
 by_cases hn:n<bs.length
 ·have d1:decide ((n:Int)<(bs.length:Int))=true:=yd (by omega)
  have d2:decide (n<bs.length)=true:=yd hn
  have HE:=yb (Zx.out hn)
  have QD:=yb (HN.out _ Qb.out)
  clear Zx QC QG HN
  go_wp2_with fail
  refine QD.out.mono ?_
  rintro e w3 ⟨rfl,Qs⟩
  have Qm:=yo Qb Qs
  clear Qs
  go_wp2
  go_ret3
  rw [HE.out]
  exact ⟨rfl,Qm.out⟩
 have d1:decide ((n:Int)<(bs.length:Int))=false:=ye (by omega)
 have d2:decide (n<bs.length)=false:=ye hn
 have Xx:=yb hn
 have QK:=yb (Xu.out.mono Qb.out)
 have Zy:=QW.out
 clear Zx HN Xu QW
 generalize bs.drop fr=cs at *
 have VZ:cs.length<=64:=Vi.out
 go_wp2_with fail
 clear Zy
 go_loop [7,8] (fun v7 v8=>∃k:Nat,v8=.int .i64 k/\v7=.int .i64 (zcU (lastUp zbv cs k))/\(k=0\/k+9<=cs.length+1)) (fun _ v8=>cs.length+1-(intOf v8).toNat)
 case atStart=>exact ⟨0,rfl,rfl,.inl rfl⟩
 case round =>
  obtain ⟨k,rfl,rfl,hk⟩:=hrel
  by_cases hlt:k+9<=cs.length
  ·have d3:decide ((k:Int)+9<=(cs.length:Int))=true:=yd (by omega)
   obtain ⟨b,o,rfl,-,-⟩:=QK.out.at 0 k (by omega)
   have Yx:((cs.drop k).take 9).length=9:=by rw [List.length_take,ym];omega
   have ZZ:=zc7 (bs:=(cs.drop k).take 9) (by rw [Yx];exact zdA QK.out k 9 hlt)
   rw [Yx] at ZZ
   have Yy:=QK.out.2.1
   have Xy:(k:Int)+9=((k+9:Nat):Int):=by omega
   have Zy:∀W,(Instr.slice 22 (.slice (some ⟨b,o,none⟩) cs.length tc) (some (.int .i64 (k:Int))) (some (.int .i64 ((k:Int)+9))) none).run Tryz.prog W=.ok (.slice (some ⟨b,o+k,none⟩) 9 (tc-k)) W:=fun W=>by
    rw [Xy,Lib.run_slice_window W 22 5 Tryz.underlying22 szByte b o cs.length tc k (k+9) (by omega) (by omega),show k+9-k=9 by omega]
   have hq:=zbM ((cs.drop k).take 9) zbv
   have QP:=yb (lastUp_go (w:=zbv) (b:=cs) (k:=k))
   rw [show zbv.length=9 from rfl] at QP
   unfold zbv at hq
   clear Xy Yx Yy
   by_cases hm:(cs.drop k).take 9=zbv
   ·rw [yd (by exact hm)] at hq
    have HG:=yb (QP.out.trans (yg hm))
    clear hm QP
    generalize (cs.drop k).take 9=y at *
    go_wp2_with fail
    go_round
    case rel=>exact ⟨k+1,by go_num,by rw [HG.out];rfl,.inr (by omega)⟩
    case measure=>simp [intOf];omega
   ·rw [ye (by exact hm)] at hq
    have HG:=yb (QP.out.trans (yh hm))
    clear hm QP
    generalize (cs.drop k).take 9=y at *
    go_wp2_with fail
    go_round
    case rel=>exact ⟨k+1,by go_num,by rw [HG.out],.inr (by omega)⟩
    case measure=>simp [intOf];omega
  ·have d3:decide ((k:Int)+9<=(cs.length:Int))=false:=ye (by omega)
   have Yz:=yb (lastUp_end (w:=zbv) (b:=cs) (k:=k) (by rcases hk with h|h;exact .inl h;exact .inr h) hlt (by decide))
   have V0:k<=64:=by omega
   rw [<-Yz.out]
   clear hk hlt
   cases hlw:zcN zbv cs with
   | none =>
    have HE:=yb (QC.out Xx.out hlw)
    clear QC QG hlw Yz
    unfold zcU
    go_wp2
    go_ret3
    rw [HE.out]
    exact ⟨rfl,Qb.out⟩
   | some j =>
    have HE:=yb (QG.out j Xx.out hlw)
    have Xi:=lastW_le hlw
    have X2:decide ((j:Int)<0)=false:=ye (by omega)
    have V1:j<=64:=by omega
    have Z0:=yb (rnumber_any QK.out (by omega) ((j:Int)+9) true)
    generalize oneW zaH (zal cs ((j:Int)+9) true)=S at *
    clear QC QG hlw Yz Xi
    obtain ⟨x,f,t,er⟩:=S
    unfold zdK at Z0
    unfold startN at HE
    simp only at Z0 HE
    unfold zcU
    simp only
    generalize x.vn=xn at *
    go_wp2_with fail
    refine Z0.out.mono ?_
    rintro e w5 ⟨rfl,Qv⟩
    have Z1:=yo Qb Qv
    have Vk:=yb (zab Qv Qe.out)
    clear Qv Z0 z0 z1
    obtain ⟨⟨z0,z1⟩,-⟩:=zaA Vk.out
    by_cases he:er=0
    case neg =>
     have Qp:=yb (HE.out.trans (yg (.inl he)))
     have e0:(er==0)=false:=by rw [yf];exact he
     have e1:(er != 0)=true:=by simp only [bne,e0,yj]
     clear HE he
     go_wp2
     go_ret3
     rw [Qp.out]
     exact ⟨rfl,Z1.out⟩
    subst he
    by_cases h1:xn<0
    ·have Qp:=yb (HE.out.trans (yg (.inr (.inl h1))))
     have d1:decide (xn<0)=true:=yd h1
     clear HE h1
     go_wp2
     go_ret3
     rw [Qp.out]
     exact ⟨rfl,Z1.out⟩
    have d1:decide (xn<0)=false:=ye h1
    by_cases h2:(bs.length:Int)<=xn
    ·have Qp:=yb (HE.out.trans (yg (.inr (.inr h2))))
     have d2:decide ((bs.length:Int)<=xn)=true:=yd h2
     clear HE h2 h1
     go_wp2_with fail
     go_ret3
     rw [Qp.out]
     exact ⟨rfl,Z1.out⟩
    have d2:decide ((bs.length:Int)<=xn)=false:=ye h2
    have Qp:=yb (HE.out.trans (yh (by rintro (h|h|h);exact h rfl;exact h1 h;exact h2 h)))
    clear HE h1 h2
    go_wp2_with fail
    go_ret3
    rw [Qp.out]
    exact ⟨rfl,Z1.out⟩
def NxtEnd (w:World) (V:Tk×Int×Int×Int) (e:Ending) (w':World):Prop:=e=.returned (.tuple #[.agg (tokN V.1 V.2.1 V.2.2.1),.int .i64 V.2.2.2])/\Below w.heap.size w w'
theorem dnext_any {w:World} {a:Option Addr} {cap:Nat} {bs:List UInt8} (hr:Row w 1 a bs.length cap (bs.map u8C)) (hn:bs.length<=400000) (k:Int) (yq:Bool) :
  Calls Tryz.prog 47 #[.slice a bs.length cap,.int .i64 k,.bool yq] w (NxtEnd w (nxtV bs yq k)):=by
 have HN:=yb (fun (W:World) (h:Below w.heap.size w W)=>zbX (hr.mono h) hn k yq)
 unfold NxtEnd
 rw [nxt_1,nxt_2,nxt_3,nxt_4]
 generalize zal bs k yq=V at *
 obtain ⟨x,f,t,er⟩:=V
 unfold zaB tokN at HN
 unfold tokN nxE
 simp only at HN |-
 clear hr
 generalize x.kind=a0 at *
 generalize x.vk=a1 at *
 generalize x.vn=a2 at *
 generalize mkB x.vs=s1 at *
 generalize mkB x.s=s2 at *
 obtain ⟨E,hE⟩:∃E,E=(if er=0/\a0=0 then (10:Int) else er):=⟨_,rfl⟩
 rw [<-hE]
 have HE:=yb hE
 clear hE
 obtain ⟨B,hB⟩:∃B,B=w.heap.size:=⟨_,rfl⟩
 have Qa:=yb (zam w (.cells #[.int .i64 0,.int .i64 0,.int .i64 0,.int .i64 0,.int .i64 0,.string ⟨#[]⟩,.slice none 0 0,.string ⟨#[]⟩] 111))
 have Qd:=yb (zac (w:=w) (b:=B) (.cells #[.int .i64 0,.int .i64 0,.int .i64 0,.int .i64 0,.int .i64 0,.string ⟨#[]⟩,.slice none 0 0,.string ⟨#[]⟩] 111) hB)
 have YA:=yb (Nat.le_of_eq hB.symm)
 go_enter Tryz.func47,Tryz.ntmps47
 go_upto_region 1 with fail
 rw [<-hB]
 clear hB
 generalize w.alloc _=W1 at *
 go_wp2_with fail
 refine (HN.out _ Qa.out).mono ?_
 rintro e w2 ⟨rfl,Qc⟩
 have Qg:=Qc.alloc Qc.size (.cells #[.int .i64 a0,.int .i64 f,.int .i64 t,.int .i64 a1,.int .i64 a2,.string s1,.slice none 0 0,.string s2] 111)
 have Zo:=yb (zac (w:=w2) (b:=w2.heap.size) (.cells #[.int .i64 a0,.int .i64 f,.int .i64 t,.int .i64 a1,.int .i64 a2,.string s1,.slice none 0 0,.string s2] 111) rfl)
 have Qe:=yb (zab Qg Qd.out)
 have Qb:=yo Qa Qg
 clear Qc Qg HN Qd
 go_upto_region 2 with fail
 obtain ⟨r2,Xz⟩:∃r2,r2=w2.heap.size:=⟨_,rfl⟩
 rw [<-Xz] at Zo |-
 clear Xz
 generalize w2.alloc _=W2 at *
 obtain ⟨⟨t0,t1,t2,t3,t4,t5,t6,t7⟩,-⟩:=zag Zo.out
 obtain ⟨⟨r0,r1,r2',r3,r4,r5,r6,r7⟩,rf0,rf1,rf2,rf3,rf4,rf5,rf6,rf7⟩:=zag Qe.out
 by_cases her:er=0
 ·subst her
  by_cases hk0:a0=0
  ·subst hk0
   obtain rfl:E=10:=by rw [HE.out,yg ⟨rfl,rfl⟩]
   go_wp2
   refine yi (zaa rfl _ _ B 111 _ (0,0) _ rfl (by exact set8 Qe.out _ _ _ _ _ _ _ _) Tryz.underlying111 rfl (by exact zaq) _ rfl) rfl ?_
   exact ⟨rfl,za3 Qb.out YA.out _ _ _ _ _ _ _ _⟩
  ·have Zu:(a0==0)=false:=by rw [yf];exact hk0
   obtain rfl:E=0:=by rw [HE.out,yh (fun h=>hk0 h.2)]
   go_wp2
   refine yi (zaa rfl _ _ B 111 _ (0,0) _ rfl (by exact set8 Qe.out _ _ _ _ _ _ _ _) Tryz.underlying111 rfl (by exact zaq) _ rfl) rfl ?_
   exact ⟨rfl,za3 Qb.out YA.out _ _ _ _ _ _ _ _⟩
 ·have e1:(er==0)=false:=by rw [yf];exact her
  obtain rfl:er=E:=by rw [HE.out,yh (fun h=>her h.1)]
  go_wp2
  refine yi (zaa rfl _ _ B 111 _ (0,0) _ rfl (by exact set8 Qe.out _ _ _ _ _ _ _ _) Tryz.underlying111 rfl (by exact zaq) _ rfl) rfl ?_
  exact ⟨rfl,za3 Qb.out YA.out _ _ _ _ _ _ _ _⟩
def DEntEnd (w:World) (V:Ent×Nat×Int) (e:Ending) (w':World):Prop:=e=.returned (.tuple #[entA V.1,.int .i64 V.2.1,.int .i64 V.2.2])/\Below w.heap.size w w'
theorem zcL {s:List UInt8} (h:(zaC (s.take 10)).2≠0\/(zaC ((s.drop 11).take 5)).2≠0\/65535<(zaC ((s.drop 11).take 5)).1\/s.getD 10 0≠32\/s.getD 16 0≠32\/(s.getD 17 0≠110/\s.getD 17 0≠102) \/
  (s.getD 18 0≠32/\s.getD 18 0≠10/\s.getD 18 0≠13)):entS s=none:=by unfold entS;rw [yg h]
theorem entR_ok {s:List UInt8} (h:¬((zaC (s.take 10)).2≠0\/(zaC ((s.drop 11).take 5)).2≠0\/65535<(zaC ((s.drop 11).take 5)).1\/s.getD 10 0≠32\/s.getD 16 0≠32\/(s.getD 17 0≠110/\s.getD 17 0≠102) \/
  (s.getD 18 0≠32/\s.getD 18 0≠10/\s.getD 18 0≠13))):(entS s).isNone=false:=by unfold entS;rw [yh h];rfl
theorem entR_some {s:List UInt8} (h:false=(entS s).isNone):entS s=some { at_:=(zaC (s.take 10)).1,gen:=(zaC ((s.drop 11).take 5)).1,used:=s.getD 17 0==110 }:=by
 unfold entS at h |-
 split at h
 ·cases h
 ·rename_i hn;rw [yh hn]
theorem bt_mkB {s:List UInt8} {n:Nat} (h:s.length=n) (hk:k<n):PlainAid.bt (mkB s) k=((s.getD k 0).toNat:Int):=by
 have Xe:k<(mkB s).size:=by rw [zbN];omega
 rw [<-PlainAid.get_bt (mkB s) k Xe]
 congr 2
 have:bl (mkB s)=s:=rfl
 rw [List.getD_eq_getElem?_getD,List.getElem?_eq_getElem (by omega)]
 rfl
theorem zen {w:World} (h:Below B w W) (hr:B<=r) (y0 y1 y2:Value):Below B w (((W.setCell ⟨r,0,none⟩ y0).setCell ⟨r,1,none⟩ y1).setCell ⟨r,2,none⟩ y2) :=
 ((h.setCell hr _).setCell hr _).setCell hr _
theorem dentry_any {w:World} {a:Option Addr} {cap:Nat} {bs:List UInt8} (hr:Row w 1 a bs.length cap (bs.map u8C)) (hn:bs.length<=400000) (hk:k<=bs.length) (yq:Bool) :
  Calls Tryz.prog 49 #[.slice a bs.length cap,.int .i64 k,.bool yq] w (DEntEnd w (entV bs yq k)):=by
 obtain ⟨V,hV⟩:∃V,V=entV bs yq k:=⟨_,rfl⟩
 rw [<-hV]
 have HV:=yb hV
 have Xt:=hr.2.1
 have Vg:=hr.i64c
 have HR:=yb hr
 clear hr hV
 go_enter Tryz.func49,Tryz.ntmps49
 go_upto_block 0 with fail
 have Qa:=yb (zam w (.cells #[.int .i64 0,.int .i64 0,.bool false] 44))
 obtain ⟨r,hr⟩:∃r,r=w.heap.size:=⟨_,rfl⟩
 have Qd:=yb (zac (w:=w) (b:=r) (.cells #[.int .i64 0,.int .i64 0,.bool false] 44) hr)
 have YB:=yb (Nat.le_of_eq hr.symm)
 have YC:=yb (HR.out.mono Qa.out)
 rw [<-hr]
 clear hr HR
 generalize w.alloc _=W1 at *
 obtain ⟨J,hJ⟩:∃J,J=zcY bs k:=⟨_,rfl⟩
 have HJ:=yb hJ
 clear hJ
 go_cut [1] from 14 (fun v wx=>∃j:Nat,v=.int .i64 j/\j<=bs.length/\Hid (J=j)/\Hid (Below W1.heap.size W1 wx))
 case first =>
  go_wp2_with fail
  go_loopw [1] (fun v wr=>∃j:Nat,v=.int .i64 j/\j<=bs.length/\Hid (zcY bs j=J)/\Hid (Below W1.heap.size W1 wr)) (fun v _=>bs.length-(intOf v).toNat)
  case atStart=>exact ⟨k,rfl,hk,yb HJ.out.symm,yb (Below.refl _ _)⟩
  case round =>
   obtain ⟨j,rfl,hj,QI,HB⟩:=hrel
   have Vl:(j:Int)<=400000:=by omega
   by_cases hjl:j<bs.length
   ·obtain ⟨b,off,rfl,-,XA⟩:=(YC.out.mono HB.out).at 0 j hjl
    have Y8:=XA j hjl
    unfold u8C at Y8
    have Vm:decide ((j:Int)<bs.length)=true:=by simp;omega
    have YD:decide (j<bs.length)=true:=by simp;omega
    have Q9:=yb (fun W=>zdl (bs.getD j 0).toNat W)
    rw [<-zeI] at Q9
    have ZW:=yb (fun h=>skip_go (bs:=bs) hjl h)
    have QR:=yb (fun h=>skip_stop (bs:=bs) hjl h)
    clear XA
    generalize bs.getD j 0=c at *
    obtain ⟨sp,YE⟩:∃sp,isSp c=sp:=⟨_,rfl⟩
    rw [YE] at Q9
    have XB:=yb YE
    clear YE
    generalize c.toNat=x at *
    cases sp
    ·go_wp2_with (go_at_call 85;refine (Q9.out _).mono ?_;rintro e w' ⟨rfl,rfl⟩)
     go_meet
     exact ⟨j,rfl,hj,yb (QI.out.symm.trans (QR.out XB.out)),yb HB.out⟩
    ·go_wp2_with (go_at_call 85;refine (Q9.out _).mono ?_;rintro e w' ⟨rfl,rfl⟩)
     go_roundw
     case rel=>exact ⟨j+1,by go_num,by omega,yb ((ZW.out XB.out).symm.trans QI.out),yb HB.out⟩
     case measure=>simp [intOf];omega
   ·have XC:j=bs.length:=by omega
    have Ze:=yb (show J=j by rw [<-QI.out,XC];exact skip_end bs)
    have Vm:decide ((j:Int)<bs.length)=false:=ye (by omega)
    have YD:decide (j<bs.length)=false:=ye (by omega)
    clear XC
    go_wp2_with fail
    go_meet
    exact ⟨j,rfl,hj,Ze,yb HB.out⟩
 case rest =>
  obtain ⟨j,rfl,hj,Ze,Qb⟩:=hcut
  have Vl:(j:Int)<=400000:=by omega
  generalize wc=W2 at *
  have Qe:=yb (zab Qb.out Qd.out)
  have Zf:=yb (Qa.out.trans (Qb.out.mono Qa.out.size))
  have YF:=yb (YC.out.mono Qb.out)
  clear Qd YC
  by_cases hlen:bs.length<j+19
  ·have Qr:=yb (HV.out.trans (entV_cut (yq:=yq) (HJ.out.symm.trans Ze.out) hlen))
   have Vn:decide ((bs.length:Int)-j<19)=true:=yd (by omega)
   clear hlen
   obtain ⟨⟨z0,z1,z2⟩,y0,y1,y2⟩:=zcH Qe.out
   cases yq
   all_goals
    go_wp2
    refine yi (zae rfl _ _ r 44 _ (0,0) _ rfl (by exact zf9 Qe.out _ _ _) Tryz.underlying44 rfl (by exact zct) _ _ rfl rfl) rfl ?_
    rw [Qr.out]
    exact ⟨rfl,zen Zf.out YB.out _ _ _⟩
  ·have hjl:j<bs.length:=by omega
   have Vn:decide ((bs.length:Int)-j<19)=false:=ye (by omega)
   obtain ⟨b2,off2,ha,-,-⟩:=YF.out.at 0 j hjl
   subst ha
   have YG:j+19<=bs.length:=by omega
   have QW:=yb (show ((bs.drop j).take 19).length=19 by rw [List.length_take,ym];omega)
   have ZZ:=zc7 (bs:=(bs.drop j).take 19) (by rw [QW.out];exact zdA YF.out j 19 YG)
   rw [QW.out] at ZZ
   have Z2:=yb (fun h=>HV.out.trans (entV_bad (yq:=yq) (HJ.out.symm.trans Ze.out) hlen h))
   have Z3:=yb (fun x h=>HV.out.trans (entV_ok (yq:=yq) (x:=x) (HJ.out.symm.trans Ze.out) hlen h))
   have V2:19<=cap-j:=by omega
   have V3:((cap-j:Nat):Int)<=9223372036854775807:=by omega
   generalize (bs.drop j).take 19=s at *
   clear hlen Ze HJ HV
   have V4:(mkB s).size=19:=by rw [zbN];exact QW.out
   have QX:=yb (fun W=>zfI ((mkB s).extract 0 10) W (by rw [ByteArray.size_extract];omega))
   have QY:=yb (fun W=>zfI ((mkB s).extract 11 16) W (by rw [ByteArray.size_extract];omega))
   rw [bl_ext,show bl (mkB s)=s from rfl] at QX QY
   simp only [List.drop_zero,Nat.sub_zero,show 16-11=5 from rfl] at QX QY
   unfold DigEnd at QX QY
   have ZA:=PlainAid.get_bt (mkB s)
   have HB:=yb (fun k h=>bt_mkB (s:=s) (k:=k) QW.out h)
   generalize mkB s=T at *
   obtain ⟨A,hA⟩:∃A,A=zaC (s.take 10):=⟨_,rfl⟩
   obtain ⟨G,hG⟩:∃G,G=zaC ((s.drop 11).take 5):=⟨_,rfl⟩
   rw [<-hA] at QX
   rw [<-hG] at QY
   have HA:=yb hA
   have Zg:=yb hG
   clear hA hG
   obtain ⟨an,ae⟩:=A
   obtain ⟨gn,ge⟩:=G
   simp only at QX QY
   go_upto_region 10 with (first
    |(go_at_call_of 86 (Value.string (T.extract 0 10));refine (QX.out _).mono ?_;rintro e w3 ⟨rfl,Qs⟩;have Qm:=yb Qs;clear Qs)
    |(go_at_call 86;refine (QY.out _).mono ?_;rintro e w4 ⟨rfl,QT⟩;have YH:=yb QT;clear QT))
   have YI:=yb (zab YH.out (zab Qm.out Qe.out))
   have XD:=yb ((Zf.out.trans (Qm.out.mono Zf.out.size)).trans (YH.out.mono (Zf.out.trans (Qm.out.mono Zf.out.size)).size))
   have b10:=HB.out 10 (by decide)
   have b16:=HB.out 16 (by decide)
   have b17:=HB.out 17 (by decide)
   have b18:=HB.out 18 (by decide)
   obtain ⟨x10,QZ⟩:∃x,(s.getD 10 0).toNat=x:=⟨_,rfl⟩
   obtain ⟨x16,Q0⟩:∃x,(s.getD 16 0).toNat=x:=⟨_,rfl⟩
   obtain ⟨x17,Q1⟩:∃x,(s.getD 17 0).toNat=x:=⟨_,rfl⟩
   obtain ⟨x18,Q2⟩:∃x,(s.getD 18 0).toNat=x:=⟨_,rfl⟩
   rw [QZ] at b10
   rw [Q0] at b16
   rw [Q1] at b17
   rw [Q2] at b18
   have Vo:=(ZA 10 (by omega)).trans b10
   have Vp:=(ZA 16 (by omega)).trans b16
   have Vq:=(ZA 17 (by omega)).trans b17
   have Vr:=(ZA 18 (by omega)).trans b18
   have ZB:=yb QZ
   have ZC:=yb Q0
   have QE:=yb Q1
   have Qw:=yb Q2
   clear QZ Q0 Q1 Q2 b10 b16 b17 b18 ZA HB Qm YH Qe Zf YF QX QY ZZ Qb
   obtain ⟨bd,XE⟩:∃bd,bd=(entS s).isNone:=⟨_,rfl⟩
   have Qk:=yb XE
   clear XE
   generalize w4=W4 at *
   go_cut [97] from 53 (fun v wx=>v=.bool bd/\wx=W4)
   case first =>
    clear Z2 Z3
    by_cases hA0:ae=0
    case neg =>
     obtain rfl:bd=true:=by rw [Qk.out,zcL (.inl (by rw [<-HA.out];exact hA0))];rfl
     have e0:(ae==0)=false:=by rw [yf];exact hA0
     have f0:(ae != 0)=true:=by simp only [bne,e0,yj]
     clear hA0
     go_wp2_with fail
     go_meet
     exact ⟨rfl,rfl⟩
    subst hA0
    by_cases hG0:ge=0
    case neg =>
     obtain rfl:bd=true:=by rw [Qk.out,zcL (.inr (.inl (by rw [<-Zg.out];exact hG0)))];rfl
     have e0:(ge==0)=false:=by rw [yf];exact hG0
     have f0:(ge != 0)=true:=by simp only [bne,e0,yj]
     clear hG0
     go_wp2_with fail
     go_meet
     exact ⟨rfl,rfl⟩
    subst hG0
    by_cases hG1:65535<gn
    case pos =>
     obtain rfl:bd=true:=by rw [Qk.out,zcL (.inr (.inr (.inl (by rw [<-Zg.out];exact hG1))))];rfl
     go_wp2_with fail
     go_meet
     exact ⟨rfl,rfl⟩
    by_cases h10:x10=32
    case neg =>
     obtain rfl:bd=true:=by rw [Qk.out,zcL (.inr (.inr (.inr (.inl (fun e=>h10 (by rw [<-ZB.out,e];rfl))))))];rfl
     have e32:((x10:Int)==32)=false:=by rw [yf];omega
     have f32:((x10:Int) != 32)=true:=by simp only [bne,e32,yj]
     go_wp2_with fail
     go_meet
     exact ⟨rfl,rfl⟩
    subst h10
    by_cases h16:x16=32
    case neg =>
     obtain rfl:bd=true:=by rw [Qk.out,zcL (.inr (.inr (.inr (.inr (.inl (fun e=>h16 (by rw [<-ZC.out,e];rfl)))))))];rfl
     have e32:((x16:Int)==32)=false:=by rw [yf];omega
     have f32:((x16:Int) != 32)=true:=by simp only [bne,e32,yj]
     go_wp2_with fail
     go_meet
     exact ⟨rfl,rfl⟩
    subst h16
    by_cases h17:x17=110\/x17=102
    case neg =>
     obtain rfl:bd=true:=by rw [Qk.out,zcL (.inr (.inr (.inr (.inr (.inr (.inl ⟨fun e=>h17 (.inl (by rw [<-QE.out,e];rfl)),fun e=>h17 (.inr (by rw [<-QE.out,e];rfl))⟩))))))];rfl
     have e110:((x17:Int)==110)=false:=by rw [yf];omega
     have f110:((x17:Int) != 110)=true:=by simp only [bne,e110,yj]
     have e102:((x17:Int)==102)=false:=by rw [yf];omega
     have f102:((x17:Int) != 102)=true:=by simp only [bne,e102,yj]
     go_wp2_with fail
     go_meet
     exact ⟨rfl,rfl⟩
    by_cases h18:x18=32\/x18=10\/x18=13
    case neg =>
     obtain rfl:bd=true:=by rw [Qk.out,zcL (.inr (.inr (.inr (.inr (.inr (.inr (⟨fun e=>h18 (.inl (by rw [<-Qw.out,e];rfl)),fun e=>h18 (.inr (.inl (by rw [<-Qw.out,e];rfl))),fun e=>h18 (.inr (.inr (by rw [<-Qw.out,e];rfl)))⟩)))))))];rfl
     have e32:((x18:Int)==32)=false:=by rw [yf];omega
     have f32:((x18:Int) != 32)=true:=by simp only [bne,e32,yj]
     have e10:((x18:Int)==10)=false:=by rw [yf];omega
     have f10:((x18:Int) != 10)=true:=by simp only [bne,e10,yj]
     have e13:((x18:Int)==13)=false:=by rw [yf];omega
     have f13:((x18:Int) != 13)=true:=by simp only [bne,e13,yj]
     rcases h17 with rfl|rfl
     all_goals (go_wp2_with fail;go_meet;exact ⟨rfl,rfl⟩)
    obtain rfl:bd=false:=by
     rw [Qk.out]
     refine entR_ok ?_
     rintro (h|h|h|h|h|h|h)
     ·rw [<-HA.out] at h;exact h rfl
     ·rw [<-Zg.out] at h;exact h rfl
     ·rw [<-Zg.out] at h;exact hG1 h
     ·exact h (zdx ZB.out rfl)
     ·exact h (zdx ZC.out rfl)
     ·rcases h17 with e|e
      ·exact h.1 (zdx (QE.out.trans e) rfl)
      ·exact h.2 (zdx (QE.out.trans e) rfl)
     ·rcases h18 with e|e|e
      ·exact h.1 (zdx (Qw.out.trans e) rfl)
      ·exact h.2.1 (zdx (Qw.out.trans e) rfl)
      ·exact h.2.2 (zdx (Qw.out.trans e) rfl)
    rcases h17 with rfl|rfl<;>rcases h18 with rfl|rfl|rfl
    all_goals (go_wp2_with fail;go_meet;exact ⟨rfl,rfl⟩)
   case rest =>
    obtain ⟨rfl,rfl⟩:=hcut
    obtain ⟨⟨z0,z1,z2⟩,y0,y1,y2⟩:=zcH YI.out
    cases bd
    case true =>
     have YJ:=yb (Z2.out (zgf Qk.out))
     clear Z2 Z3
     go_wp2
     refine yi (zae rfl _ _ r 44 _ (0,0) _ rfl (by exact zf9 YI.out _ _ _) Tryz.underlying44 rfl (by exact zct) _ _ rfl rfl) rfl ?_
     rw [YJ.out]
     exact ⟨rfl,zen XD.out YB.out _ _ _⟩
    have YK:=yb (Z3.out _ (entR_some Qk.out))
    rw [<-HA.out,<-Zg.out] at YK
    have HU:=yb (show (s.getD 17 0==110)=((x17:Int)==110) by rw [<-QE.out];exact u8_beq _ 110 110 rfl)
    rw [HU.out] at YK
    clear Z2 Z3 HU HA Zg
    go_wp2
    refine yi (zae rfl _ _ r 44 _ (0,0) _ rfl (by exact zf9 YI.out _ _ _) Tryz.underlying44 rfl (by exact zct) _ _ rfl rfl) rfl ?_
    rw [YK.out]
    exact ⟨rfl,zen XD.out YB.out _ _ _⟩
structure EsM (w W:World) (g:Nat) (n:Int) (es:List Ent) (sv:Value):Prop where
 blk:W.heap[g]?=some (.cells #[.int .i64 n,sv] 42 (0,0))
 own:W.ownsRow w.heap.size 44 3 sv es.length (zcw es)
 kps:zaj (fun b=>b=g) w W
 gne:g<w.heap.size
theorem EsM.ne {w:World} {n:Int} {es:List Ent} (h:EsM w W g n es sv) {b:Nat} (hb:sv.ownBlock=some b):b≠g:=by
 have:=(h.own.lt b hb).1
 have:=h.gne
 omega
theorem EsM.on {w:World} {n:Int} {es:List Ent} (h:EsM w W g n es sv) (hk:zaj (fun _=>False) W W'):EsM w W' g n es sv :=
 ⟨hk.obj h.blk (fun h=>h),zaE h.own fun b hb=>hk.block b (h.own.lt b hb).2 (fun h=>h),h.kps.trans hk (fun x hx=>(by cases hx)),h.gne⟩
theorem EsM.app {w:World} {o:Obj} {n:Int} {es:List Ent} (h:EsM w W g n es sv) (hg8:(W.alloc o).grownBy W8 sv.ownBlock) {x:Ent} (hO:W8.ownsRow w.heap.size 44 3 v' (es.length+1) (zcw es++entC x)) :
  EsM w (W8.setCell ⟨g,1,none⟩ v') g n (es++[x]) v':=by
 have hG:W8.heap[g]?=some (.cells #[.int .i64 n,sv] 42 (0,0)) :=
  (hg8.block g (by rw [zan];have:=zai h.blk;omega) (fun e=>h.ne e.symm rfl)).trans (zak _ h.blk)
 refine ⟨by rw [heap_setCell_same _ g 1 _ _ _ hG];rfl,?_,((h.kps.alloc o).grown hg8 (fun k hk=>.inr (h.own.lt k hk).1)).setCell (.inl rfl) _,h.gne⟩
 have h2:zcw (es++[x])=zcw es++entC x:=by rw [zeN];simp [zcw]
 rw [h2,List.length_append]
 refine zaE hO fun b hb=>?_
 obtain ⟨cs,hc⟩:=zaJ hO hb
 exact heap_setCell_other _ _ _ _ (za4 hc hG (by decide))
theorem EsM.below {w:World} {n:Int} {es:List Ent} (h:EsM w W g n es sv) (hb:Below W.heap.size W W'):EsM w W' g n es sv:=h.on (zax hb)
theorem EsM.outer {w:World} {o:Obj} {n:Int} {es:List Ent} (h:EsM (w.alloc o) W g n es sv) (hg:g=w.heap.size):Below w.heap.size w W :=
 (zaj.trans (S:=fun _=>False) (zax (zam w o)) h.kps (fun x hx=>.inr (by omega))).below (yp _) (fun b hb=>by cases hb)
theorem EsM.fin {w:World} {n:Int} {es:List Ent} (h:EsM w W g n es sv):IsE W (fun b=>w.heap.size<=b) es sv:=isE_own h.own
structure PsM (w W0 W:World) (r p:Nat) (gs:List Grp) (cs:List Value) (v:Value):Prop where
 sb:W.heap[p]?=some (.cells #[v,.int .i64 0,.int .i64 0,.string ⟨#[]⟩,.slice none 0 0] 33 (0,0))
 rb:W.heap[r]?=some (.cells #[.slice none 0 0,.int .i64 0,.int .i64 0,.string ⟨#[]⟩,.slice none 0 0] 33 (0,0))
 gm:GsM W0 W p gs cs v
 bel:Below w.heap.size w W
 lt:w.heap.size<=r/\r<p/\p<W0.heap.size
theorem PsM.on {w:World} {gs:List Grp} {v:Value} (h:PsM w W0 W r p gs cs v) (hb:Below W.heap.size W W'):PsM w W0 W' r p gs cs v :=
 ⟨zab hb h.sb,zab hb h.rb,h.gm.on h.lt.2.2 (zax hb),h.bel.trans (hb.mono h.bel.size),h.lt⟩
theorem PsM.app {w:World} {o:Obj} {gs:List Grp} {v:Value} (h:PsM w W0 W r p gs cs v) (hg8:(W.alloc o).grownBy W8 v.ownBlock) {n:Int} {es:List Ent} (hG:GsM W0 W8 p (gs++[⟨n,es⟩]) (cs++[.int .i64 n,sv]) v') :
  PsM w W0 (W8.setCell ⟨p,0,none⟩ v') r p (gs++[⟨n,es⟩]) (cs++[.int .i64 n,sv]) v':=by
 have XF:∀ {b},v.ownBlock=some b->b≠p/\b≠r:=fun {b} hb=>by
  have:=(h.gm.own.lt b hb).1
  have:=h.lt
  omega
 have hP:W8.heap[p]?=some (.cells #[v,.int .i64 0,.int .i64 0,.string ⟨#[]⟩,.slice none 0 0] 33 (0,0)) :=
  (hg8.block p (by rw [zan];have:=zai h.sb;omega) (fun e=>(XF e.symm).1 rfl)).trans (zak _ h.sb)
 have hR:W8.heap[r]?=some (.cells #[.slice none 0 0,.int .i64 0,.int .i64 0,.string ⟨#[]⟩,.slice none 0 0] 33 (0,0)) :=
  (hg8.block r (by rw [zan];have:=zai h.rb;omega) (fun e=>(XF e.symm).2 rfl)).trans (zak _ h.rb)
 refine ⟨by rw [heap_setCell_same _ p 0 _ _ _ hP];rfl,?_,hG.on h.lt.2.2 ((zaj.refl (fun b=>b=p) W8).setCell (a:=⟨p,0,none⟩) (.inl rfl) _),?_,h.lt⟩
 ·rw [heap_setCell_other _ _ _ _ (show r≠p by have:=h.lt;omega)];exact hR
 ·have h1:Below w.heap.size w W8:=(h.bel.alloc h.bel.size o).grown hg8 (by have:=(h.bel.alloc h.bel.size o).size;omega) (fun b hb=>by have:=(h.gm.own.lt b hb).1;have:=h.lt;omega)
  have h2:w.heap.size<=(⟨p,0,none⟩:Addr).block:=by have:=h.lt;show w.heap.size<=p;omega
  exact h1.setCell h2 _
theorem zbI:(Tryz.prog.info? 33).map (·.size)=some 5:=by kernel_rfl
theorem PsM.atP {w:World} {o:Obj} {gs:List Grp} {v:Value} (h:PsM w W0 W r p gs cs v) (hg8:(W.alloc o).grownBy W8 v.ownBlock) :
  W8.heap[p]?=some (.cells #[v,.int .i64 0,.int .i64 0,.string ⟨#[]⟩,.slice none 0 0] 33 (0,0)) :=
 (hg8.block p (by rw [zan];have:=zai h.sb;omega) (fun e=>by have:=(h.gm.own.lt p e.symm).1;have:=h.lt;omega)).trans (zak _ h.sb)
theorem PsM.ret {w:World} {gs:List Grp} {v:Value} (h:PsM w W0 W r p gs cs v) {V:Sec×Int×Int} {e:Int} (hV:V=(Sec.none,0,e)) (y0 y1 y2 y3 y4:Value) :
  zeM w V (.returned (.tuple #[.agg #[.slice none 0 0,.int .i64 0,.int .i64 0,.string ⟨#[]⟩,.slice none 0 0],.int .i64 0,.int .i64 e])) (((((W.setCell ⟨r,0,none⟩ y0).setCell ⟨r,1,none⟩ y1).setCell ⟨r,2,none⟩ y2).setCell ⟨r,3,none⟩ y3).setCell ⟨r,4,none⟩ y4) :=
 zgm hV h.bel h.lt.1 y0 y1 y2 y3 y4
theorem EsM.atG {w:World} {o:Obj} {n:Int} {es:List Ent} (h:EsM w W g n es sv) (hg8:(W.alloc o).grownBy W8 sv.ownBlock):W8.heap[g]?=some (.cells #[.int .i64 n,sv] 42 (0,0)) :=
 (hg8.block g (by rw [zan];have:=zai h.blk;omega) (fun e=>h.ne e.symm rfl)).trans (zak _ h.blk)
theorem set4p {w:World} {b:Nat} (h:w.heap[b]?=some (.cells #[x0,x1,x2,x3,x4] t (0,0))) (y1 y2 y3 y4:Value) :
  ((((w.setCell ⟨b,1,none⟩ y1).setCell ⟨b,2,none⟩ y2).setCell ⟨b,3,none⟩ y3).setCell ⟨b,4,none⟩ y4).heap[b]?=some (.cells #[x0,y1,y2,y3,y4] t (0,0)):=by
 rw [heap_setCell_same _ _ 4 _ _ _ (heap_setCell_same _ _ 3 _ _ _ (heap_setCell_same _ _ 2 _ _ _ (heap_setCell_same w _ 1 _ _ _ h)))];rfl
theorem ze6 {w:World} {b c:Nat} (hc:c≠b) (y1 y2 y3 y4:Value):((((w.setCell ⟨b,1,none⟩ y1).setCell ⟨b,2,none⟩ y2).setCell ⟨b,3,none⟩ y3).setCell ⟨b,4,none⟩ y4).heap[c]?=w.heap[c]?:=by
 rw [heap_setCell_other _ _ _ _ hc,heap_setCell_other _ _ _ _ hc,heap_setCell_other _ _ _ _ hc,heap_setCell_other _ _ _ _ hc]
theorem set4p_size (w:World) (b:Nat) (y1 y2 y3 y4:Value):((((w.setCell ⟨b,1,none⟩ y1).setCell ⟨b,2,none⟩ y2).setCell ⟨b,3,none⟩ y3).setCell ⟨b,4,none⟩ y4).heap.size=w.heap.size:=by simp [World.setCell]
theorem below_set4p {w:World} (h:Below B w0 w) {b:Nat} (hb:B<=b) (y1 y2 y3 y4:Value):Below B w0 ((((w.setCell ⟨b,1,none⟩ y1).setCell ⟨b,2,none⟩ y2).setCell ⟨b,3,none⟩ y3).setCell ⟨b,4,none⟩ y4) :=
 (((h.setCell hb _).setCell hb _).setCell hb _).setCell hb _
def grpsR (bs:List UInt8) (yq:Bool) (g:Nat) (gs:List Grp) (x:Tk) (U:Tk×Int×Int×Int):List Grp×Int×Int :=
 if zaH x=false then ([],0,20) else if U.2.2.2≠0 then ([],0,U.2.2.2) else if zaH U.1=false\/gs.length=64\/zdb x.vn U.1.vn=false then ([],0,20)
 else if (zb5 bs yq U.1.vn.toNat U.2.2.1.toNat []).2.2≠0 then ([],0,(zb5 bs yq U.1.vn.toNat U.2.2.1.toNat []).2.2)
 else zbF bs yq g (gs++[⟨x.vn,(zb5 bs yq U.1.vn.toNat U.2.2.1.toNat []).1⟩]) ((zb5 bs yq U.1.vn.toNat U.2.2.1.toNat []).2.1:Int)
theorem grps_all {bs:List UInt8} {gs:List Grp} {k:Int} (he:(nxtV bs yq k).2.2.2=0) (ht:zdZ (nxtV bs yq k).1=false) :
  zbF bs yq (g+1) gs k=grpsR bs yq g gs (nxtV bs yq k).1 (nxtV bs yq (nxtV bs yq k).2.2.1):=by
 conv=>lhs;unfold zbF
 unfold grpsR
 simp only
 rw [yh (by rw [he];decide),yh (by rw [ht];decide)]
set_option maxHeartbeats 16000000 in
theorem dparse_any {w:World} {a:Option Addr} {cap:Nat} {bs:List UInt8} (hr:Row w 1 a bs.length cap (bs.map u8C)) (hn:bs.length<=390000) (k:Int) (yq:Bool) :
  Calls Tryz.prog 12 #[.slice a bs.length cap,.int .i64 k,.bool yq] w (zeM w (secV bs yq k)):=by
 have HW:=yb (fun (W:World) (h:Below w.heap.size w W)=>rword_any (hr.mono h) (by omega) k yq [120,114,101,102])
 have YL:=yb (fun h=>oneX_le (bs:=bs) (yq:=yq) (k:=k) (p:=zdM) h)
 obtain ⟨o1,o2⟩:=oneW_X zdM (zal bs k yq)
 unfold zdd at HW
 rw [show zfT [120,114,101,102]=zdM from rfl,o1,o2] at HW
 clear o1 o2
 obtain ⟨V,hV⟩:∃V,V=secV bs yq k:=⟨_,rfl⟩
 rw [<-hV]
 unfold secV at hV
 simp only at hV
 generalize oneX zdM (zal bs k yq)=O at *
 obtain ⟨ot,oe⟩:=O
 simp only at hV HW YL
 have HV:=yb hV
 have Z4:=yb hr
 clear hV hr
 obtain ⟨r,hr⟩:∃r,r=w.heap.size:=⟨_,rfl⟩
 have Qd:=yb (zak (.cells #[.slice none 0 0,.int .i64 0,.int .i64 0,.string ⟨#[]⟩,.slice none 0 0] 33) (zac (w:=w) (b:=r) (.cells #[.slice none 0 0,.int .i64 0,.int .i64 0,.string ⟨#[]⟩,.slice none 0 0] 33) hr))
 have XG:=yb (zac (w:=w.alloc (.cells #[.slice none 0 0,.int .i64 0,.int .i64 0,.string ⟨#[]⟩,.slice none 0 0] 33)) (b:=r+1) (.cells #[.slice none 0 0,.int .i64 0,.int .i64 0,.string ⟨#[]⟩,.slice none 0 0] 33) (by rw [zan,hr]))
 have Qa:=yb (zbm w (.cells #[.slice none 0 0,.int .i64 0,.int .i64 0,.string ⟨#[]⟩,.slice none 0 0] 33) (.cells #[.slice none 0 0,.int .i64 0,.int .i64 0,.string ⟨#[]⟩,.slice none 0 0] 33))
 have Qi:=yb (Nat.le_of_eq hr.symm)
 go_enter Tryz.func12,Tryz.ntmps12
 go_upto_region 2 with fail
 try rw [<-hr]
 clear hr
 generalize World.alloc _ _=W1 at *
 have Vs:=yb (show r<r+1 from Nat.lt_succ_self r)
 generalize r+1=p at *
 go_wp2_with fail
 refine (HW.out _ Qa.out).mono ?_
 rintro e w2 ⟨rfl,Qc⟩
 have Qe:=yb (zab Qc Qd.out)
 have YM:=yb (zab Qc XG.out)
 have Qb:=yo Qa Qc
 clear Qd XG Qa HW Qc
 obtain ⟨⟨z0,z1,z2,z3,z4⟩,y0,y1,y2,y3,y4⟩:=zbn Qe.out
 by_cases hoe:oe=0
 case neg =>
  have Qj:=yb (HV.out.trans (yg hoe))
  have e0:(oe==0)=false:=by rw [yf];exact hoe
  have e1:(oe != 0)=true:=by simp only [bne,e0,yj]
  clear hoe
  go_wp2
  refine yi (zae rfl _ _ r 33 _ (0,0) _ rfl (by exact set5 Qe.out _ _ _ _ _) Tryz.underlying33 rfl (by exact zbI) _ _ rfl rfl) rfl ?_
  exact zgm Qj.out Qb.out Qi.out _ _ _ _ _
 subst hoe
 have Qj:=yb (HV.out.trans (yh (by simp)))
 obtain ⟨Vt,Vu⟩:=YL.out rfl
 obtain ⟨G,hG⟩:∃G,G=zbF bs yq 65 [] ot:=⟨_,rfl⟩
 rw [<-hG] at Qj
 have HG:=yb hG
 have Zh:=yb (show PsM w w2 w2 r p [] [] (.slice none 0 0) from ⟨YM.out,Qe.out,⟨World.ownsRow_nil _ _ _ _,rfl,zaj.refl _ _⟩,Qb.out,Qi.out,Vs.out,zai YM.out⟩)
 clear hG HV YL Qe YM Qb z0 z1 z2 z3 z4 y0 y1 y2 y3 y4
 go_wp2_with fail
 go_loopw [1,11] (fun v c wr=>∃(gs:List Grp) (k2:Int) (cs:List Value) (gv:Value),v=.int .i64 k2/\c=.int .i64 gs.length/\gs.length<=64/\0<=k2/\k2<=bs.length/\Hid (PsM w w2 wr r p gs cs gv)/\Hid (G=zbF bs yq (65-gs.length) gs k2)) (fun _ c _=>65-(intOf c).toNat)
 case atStart=>exact ⟨[],ot,[],.slice none 0 0,rfl,rfl,by simp,Vt,Vu,Zh,HG⟩
 case round =>
  obtain ⟨gs,k2,cs,gv,rfl,rfl,Vv,hk0,Zu,Zh,HQ⟩:=hrel
  obtain ⟨sa,sc,rfl,-,-⟩:=zas Zh.out.gm.own
  have HN:=yb (dnext_any (Z4.out.mono Zh.out.bel) (by omega) k2 yq)
  have YN:=za1 (bs:=bs) (k:=k2) yq hk0 Zu
  rw [<-nxt_3] at YN
  obtain ⟨m,hm⟩:∃m,m+1=65-gs.length:=⟨64-gs.length,by omega⟩
  have hQ:=HQ.out
  rw [<-hm] at hQ
  have HM:=yb hm
  have Vw:decide ((gs.length:Int)<=64)=true:=yd (by omega)
  have XH:decide (gs.length<=64)=true:=yd Vv
  have ZD:=yb (fun he=>hQ.trans (zha he))
  have QU:=yb (fun he ht=>hQ.trans (zek he ht))
  have QH:=yb (fun he ht=>hQ.trans (grps_all he ht))
  have QD:=yb (fun (W:World) (hI:Below w.heap.size w W)=>dnext_any (Z4.out.mono hI) (by omega) (nxtV bs yq k2).2.2.1 yq)
  have Z5:=yb (trail_iff (nxtV bs yq k2).1)
  have Z6:=yb (fun W=>zfD (nxtV bs yq k2).1 (nxtV bs yq k2).2.1 (nxtV bs yq k2).2.2.1 W)
  have Z7:=yb (zbM (nxtV bs yq k2).1.s [116,114,97,105,108,101,114])
  have Q3:=yb (fun (W:World) (h:Below w.heap.size w W)=>rvalue_any (Z4.out.mono h) (by omega) yq (nxtV bs yq k2).2.2.1)
  clear hm hQ HQ
  generalize nxtV bs yq k2=U at *
  obtain ⟨x,f,t,E⟩:=U
  simp only at YN HN ZD QU QH QD Z5 Z6 Z7 Q3
  have Q4:=za1 (bs:=bs) (k:=t) yq (by omega) YN.2
  rw [<-nxt_3] at Q4
  generalize nxtV bs yq t=U2 at *
  obtain ⟨y,f2,t2,E2⟩:=U2
  unfold grpsR at QH
  simp only at QH QD Q4
  have QV:=yb (fun W=>zfD y f2 t2 W)
  unfold NxtEnd tokN at HN QD
  simp only at HN QD
  unfold tokN at Z6 QV
  obtain ⟨tr,Zz⟩:∃tr,tr=decide (x.s=[116,114,97,105,108,101,114]):=⟨_,rfl⟩
  rw [<-Zz] at Z5 Z7
  rw [Z5.out] at QU QH
  clear Zz Z5
  generalize zaH x=wx at *
  generalize zaH y=wy at *
  generalize x.kind=a0 at *
  generalize x.vk=a1 at *
  generalize x.vn=a2 at *
  generalize mkB x.vs=s1 at *
  generalize mkB x.s=s2 at *
  generalize y.kind=b0 at *
  generalize y.vk=b1 at *
  generalize y.vn=b2 at *
  generalize mkB y.vs=q1 at *
  generalize mkB y.s=q2 at *
  go_wp2_with fail
  refine HN.out.mono ?_
  rintro e w3 ⟨rfl,Qs⟩
  have Qt:=Qs.alloc Qs.size (.cells #[.int .i64 a0,.int .i64 f,.int .i64 t,.int .i64 a1,.int .i64 a2,.string s1,.slice none 0 0,.string s2] 111)
  have ZE:=yb (zac (w:=w3) (b:=w3.heap.size) (.cells #[.int .i64 a0,.int .i64 f,.int .i64 t,.int .i64 a1,.int .i64 a2,.string s1,.slice none 0 0,.string s2] 111) rfl)
  have QL:=yb (Zh.out.on Qt)
  clear Qs Qt HN Zh
  go_upto_region 9 with fail
  obtain ⟨T,hT⟩:∃T,T=w3.heap.size:=⟨_,rfl⟩
  rw [<-hT] at ZE |-
  clear hT
  generalize World.alloc _ _=W3 at *
  obtain ⟨⟨v0,v1,v2,v3,v4,v5,v6,v7⟩,-⟩:=zag ZE.out
  by_cases hE:E=0
  case neg =>
   have Ql:=ZD.out hE
   have QM:=yb (show V=(Sec.none,0,E) from Qj.out.trans (by rw [Ql];exact yg hE))
   have e0:(E==0)=false:=by rw [yf];exact hE
   have e1:(E != 0)=true:=by simp only [bne,e0,yj]
   obtain ⟨⟨z0,z1,z2,z3,z4⟩,y0,y1,y2,y3,y4⟩:=zbn QL.out.rb
   clear hE Ql
   go_wp2
   refine yi (zae rfl _ _ r 33 _ (0,0) _ rfl (by exact set5 QL.out.rb _ _ _ _ _) Tryz.underlying33 rfl (by exact zbI) _ _ rfl rfl) rfl ?_
   exact QL.out.ret QM.out _ _ _ _ _
  subst hE
  have Vx:=Z7.out
  obtain ⟨k6,YO⟩:∃k6,k6=(a0==6):=⟨_,rfl⟩
  rw [<-YO] at QU QH
  have YP:=yb YO
  obtain ⟨tb,YQ⟩:∃tb,tb=(k6&&tr):=⟨_,rfl⟩
  rw [<-YQ] at QU QH
  have YR:=yb YQ
  clear YQ YO
  go_upto_region 11 with fail
  go_cut [59] from 37 to 143 (fun v wx=>v=.bool tb/\wx=W3)
  case first =>
   clear QU QH ZD QD Q3
   cases k6
   ·have e6:=YP.out.symm
    obtain rfl:tb=false:=YR.out
    go_wp2_with fail
    go_meet
    exact ⟨rfl,rfl⟩
   ·have e6:=YP.out.symm
    obtain rfl:tb=tr:=YR.out
    go_wp2_with fail
    go_meet
    exact ⟨rfl,rfl⟩
  case rest =>
  obtain ⟨rfl,hw⟩:=hcut
  subst hw
  clear Vx Z7 YP YR
  cases tb
  case true =>
   have Ql:=QU.out rfl rfl
   have Qr:=yb (show V=if (zbB bs yq t).2.2≠0 then (Sec.none,0,(zbB bs yq t).2.2) else if (zbB bs yq t).1.kind≠7 then (Sec.none,0,20) else (⟨gs,(zbB bs yq t).1⟩,(zbB bs yq t).2.1,0) from Qj.out.trans (by rw [Ql];exact yh (fun h=>h rfl)))
   generalize zbB bs yq t=P at *
   obtain ⟨pv,xt,xe⟩:=P
   unfold zbP at Q3
   simp only at Qr Q3
   clear QU QH ZD QD Ql
   go_wp2_with fail
   refine (Q3.out _ QL.out.bel).mono ?_
   rintro e w5 ⟨sl,rfl,YS,Qv⟩
   obtain ⟨la,lc,rfl,-,-,-⟩:=YS.len
   simp only [pvA]
   have Qx:=Qv.alloc Qv.size (.cells #[.int .i64 pv.kind,.int .i64 pv.n,.string (mkB pv.s),.slice la pv.l.length lc] 27)
   have Zi:=yb (zac (w:=w5) (b:=w5.heap.size) (.cells #[.int .i64 pv.kind,.int .i64 pv.n,.string (mkB pv.s),.slice la pv.l.length lc] 27) rfl)
   have Z8:=yb (YS.below (zam w5 (.cells #[.int .i64 pv.kind,.int .i64 pv.n,.string (mkB pv.s),.slice la pv.l.length lc] 27)))
   have Qh:=yb (QL.out.on Qx)
   have Xq:=yb (zai QL.out.sb)
   clear Qv Qx YS Q3 QL ZE v0 v1 v2 v3 v4 v5 v6 v7
   go_upto_region 33 with fail
   generalize w5.heap.size=T5 at *
   generalize World.alloc _ _=W5 at *
   obtain ⟨⟨t0,t1,t2',t3⟩,-⟩:=zaf Zi.out
   obtain ⟨⟨z0,z1,z2,z3,z4⟩,y0,y1,y2,y3,y4⟩:=zbn Qh.out.rb
   by_cases hxe:xe=0
   case neg =>
    have Zj:=yb (Qr.out.trans (yg hxe))
    have e0:(xe==0)=false:=by rw [yf];exact hxe
    have e1:(xe != 0)=true:=by simp only [bne,e0,yj]
    clear hxe Z8
    go_wp2
    refine yi (zae rfl _ _ r 33 _ (0,0) _ rfl (by exact set5 Qh.out.rb _ _ _ _ _) Tryz.underlying33 rfl (by exact zbI) _ _ rfl rfl) rfl ?_
    exact Qh.out.ret Zj.out _ _ _ _ _
   subst hxe
   have Zj:=yb (Qr.out.trans (yh (by simp)))
   clear Qr
   by_cases hxk:pv.kind=7
   case neg =>
    have YT:=yb (Zj.out.trans (yg hxk))
    have e0:(pv.kind==7)=false:=by rw [yf];exact hxk
    have e1:(pv.kind != 7)=true:=by simp only [bne,e0,yj]
    clear hxk Z8 Zj
    generalize pv.kind=xk at *
    go_wp2
    refine yi (zae rfl _ _ r 33 _ (0,0) _ rfl (by exact set5 Qh.out.rb _ _ _ _ _) Tryz.underlying33 rfl (by exact zbI) _ _ rfl rfl) rfl ?_
    exact Qh.out.ret YT.out _ _ _ _ _
   have YT:=yb (Zj.out.trans (yh (fun h=>h hxk)))
   have e0:(pv.kind==7)=true:=by rw [beq_iff_eq];exact hxk
   have e1:(pv.kind != 7)=false:=by simp only [bne,e0,Bool.not_true]
   clear hxk Zj
   have XI:=yb (show zb1 W5 (fun b=>p<b) ⟨gs,pv⟩ (.slice sa gs.length sc) (.slice la pv.l.length lc) from
    ⟨Qh.out.gm.fin.keep (zaK.refl _ _) (fun b hb=>by have:=Qh.out.lt;show p<b;omega),Z8.out.keep (zaK.refl _ _) (fun b hb=>by have:=Xq.out;show p<b;omega)⟩)
   have Yp:=yb (show secA ⟨gs,pv⟩ (.slice sa gs.length sc) (.slice la pv.l.length lc)=.agg #[.slice sa gs.length sc,.int .i64 pv.kind,.int .i64 pv.n,.string (mkB pv.s),.slice la pv.l.length lc] from rfl)
   generalize pv.kind=xk at *
   generalize pv.n=xn at *
   generalize mkB pv.s=xb at *
   obtain ⟨⟨g0,g1,g2,g3,g4⟩,h0,h1,h2,h3,h4⟩:=zbn Qh.out.sb
   have Vy:=yb (set4p Qh.out.sb (.int .i64 xk) (.int .i64 xn) (.string xb) (.slice la pv.l.length lc))
   have XJ:=yb ((ze6 (w:=W5) (b:=p) (c:=r) (by have:=Qh.out.lt;omega) (.int .i64 xk) (.int .i64 xn) (.string xb) (.slice la pv.l.length lc)).trans Qh.out.rb)
   have Vz:=yb (below_set4p Qh.out.bel (b:=p) (by have:=Qh.out.lt;omega) (.int .i64 xk) (.int .i64 xn) (.string xb) (.slice la pv.l.length lc))
   have VA:=yb (show zb1 ((((W5.setCell ⟨p,1,none⟩ (.int .i64 xk)).setCell ⟨p,2,none⟩ (.int .i64 xn)).setCell ⟨p,3,none⟩ (.string xb)).setCell ⟨p,4,none⟩ (.slice la pv.l.length lc)) (fun b=>p<b) ⟨gs,pv⟩ (.slice sa gs.length sc) (.slice la pv.l.length lc) from
    XI.out.keep ⟨Nat.le_of_eq (set4p_size _ _ _ _ _ _).symm,fun b hb hF=>ze6 (by omega) _ _ _ _⟩ (fun _ h=>h))
   have YU:=yb Qh.out.lt
   clear Z8 XI Qh z0 z1 z2 z3 z4 y0 y1 y2 y3 y4
   go_upto_region 38 with fail
   generalize World.setCell (World.setCell (World.setCell (World.setCell W5 _ _) _ _) _ _) _ _=W6 at *
   clear g0 g1 g2 g3 g4 h0 h1 h2 h3 h4 t0 t1 t2' t3 Zi
   obtain ⟨⟨g0,g1,g2,g3,g4⟩,-⟩:=zbn Vy.out
   obtain ⟨⟨z0,z1,z2,z3,z4⟩,y0,y1,y2,y3,y4⟩:=zbn XJ.out
   go_wp2
   refine yi (zae rfl _ _ r 33 _ (0,0) _ rfl (by exact set5 XJ.out _ _ _ _ _) Tryz.underlying33 rfl (by exact zbI) _ _ rfl rfl) rfl ?_
   rw [YT.out]
   refine ⟨.slice sa gs.length sc,.slice la pv.l.length lc,by rw [Yp.out];rfl,?_,zb8 Vz.out YU.out.1 _ _ _ _ _⟩
   refine (zgZ (B:=r+1) (VA.out.keep (zaK.refl _ _) (fun b hb=>by have:=YU.out;show r+1<=b;omega)) (Nat.lt_succ_self r) _ _ _ _ _).keep (zaK.refl _ _) (fun b hb=>by have:=YU.out;show w.heap.size<=b;omega)
  have QN:=yb (QH.out rfl rfl)
  clear QU QH ZD Q3
  go_wp2_with fail
  refine (Z6.out _).mono ?_
  rintro e w4 ⟨rfl,QT⟩
  have Zk:=yb (QL.out.on QT)
  have Zq:=yb (zab QT ZE.out)
  clear QT QL ZE Z6 v0 v1 v2 v3 v4 v5 v6 v7
  obtain ⟨⟨v0,v1,v2,v3,v4,v5,v6,v7⟩,-⟩:=zag Zq.out
  cases wx
  case false =>
   have Ql:=QN.out.trans (yg rfl)
   have QM:=yb (show V=(Sec.none,0,20) from Qj.out.trans (by rw [Ql];exact yg (by decide)))
   obtain ⟨⟨z0,z1,z2,z3,z4⟩,y0,y1,y2,y3,y4⟩:=zbn Zk.out.rb
   clear Ql QN QD
   go_wp2
   refine yi (zae rfl _ _ r 33 _ (0,0) _ rfl (by exact set5 Zk.out.rb _ _ _ _ _) Tryz.underlying33 rfl (by exact zbI) _ _ rfl rfl) rfl ?_
   exact Zk.out.ret QM.out _ _ _ _ _
  have Z9:=yb (QN.out.trans (yh (by decide)))
  have ZF:=yb (QD.out _ Zk.out.bel)
  clear QN QD
  go_wp2_with fail
  refine ZF.out.mono ?_
  rintro e w5 ⟨rfl,Qv⟩
  have Qx:=Qv.alloc Qv.size (.cells #[.int .i64 b0,.int .i64 f2,.int .i64 t2,.int .i64 b1,.int .i64 b2,.string q1,.slice none 0 0,.string q2] 111)
  have Ya:=yb (zac (w:=w5) (b:=w5.heap.size) (.cells #[.int .i64 b0,.int .i64 f2,.int .i64 t2,.int .i64 b1,.int .i64 b2,.string q1,.slice none 0 0,.string q2] 111) rfl)
  have Zi:=yb (zab Qx Zq.out)
  have Qh:=yb (Zk.out.on Qx)
  clear Qv Qx ZF Zk Zq v0 v1 v2 v3 v4 v5 v6 v7
  go_upto_region 16 with fail
  obtain ⟨Y,hY⟩:∃Y,Y=w5.heap.size:=⟨_,rfl⟩
  rw [<-hY] at Ya |-
  clear hY
  generalize World.alloc _ _=W5 at *
  obtain ⟨⟨v0,v1,v2,v3,v4,v5,v6,v7⟩,-⟩:=zag Zi.out
  obtain ⟨⟨u0,u1,u2,u3,u4,u5,u6,u7⟩,-⟩:=zag Ya.out
  by_cases hE2:E2=0
  case neg =>
   have Ql:=Z9.out.trans (yg hE2)
   have QM:=yb (show V=(Sec.none,0,E2) from Qj.out.trans (by rw [Ql];exact yg hE2))
   have e0:(E2==0)=false:=by rw [yf];exact hE2
   have e1:(E2 != 0)=true:=by simp only [bne,e0,yj]
   obtain ⟨⟨z0,z1,z2,z3,z4⟩,y0,y1,y2,y3,y4⟩:=zbn Qh.out.rb
   clear hE2 Ql Z9
   go_wp2
   refine yi (zae rfl _ _ r 33 _ (0,0) _ rfl (by exact set5 Qh.out.rb _ _ _ _ _) Tryz.underlying33 rfl (by exact zbI) _ _ rfl rfl) rfl ?_
   exact Qh.out.ret QM.out _ _ _ _ _
  subst hE2
  have ZG:=yb (Z9.out.trans (yh (fun h=>h rfl)))
  clear Z9
  go_wp2
  go_quiet (fail)
  have XK:=yb (Qh.out.on (zah (Below.refl _ _) nq))
  have VB:=yb (zab (zah (Below.refl _ _) nq) Zi.out)
  have YV:=yb (zab (zah (Below.refl _ _) nq) Ya.out)
  generalize W5.drewN nq=W6 at *
  clear Qh Zi Ya v0 v1 v2 v3 v4 v5 v6 v7 u0 u1 u2 u3 u4 u5 u6 u7
  obtain ⟨⟨u0,u1,u2,u3,u4,u5,u6,u7⟩,-⟩:=zag YV.out
  obtain ⟨bad,ZH⟩:∃bad:Bool,bad=(!wy||(decide (gs.length=64)||(decide (a2<0)||(decide (b2<0)||(decide (4097<a2)||decide (4097-a2<b2)))))):=⟨_,rfl⟩
  have Qk:=yb ZH
  clear ZH
  go_upto_region 19 with fail
  go_cut [108] from 37 to 143 (fun v wx=>v=.bool bad/\Hid (Below W6.heap.size W6 wx))
  case first =>
   clear ZG
   cases wy
   ·obtain rfl:bad=true:=Qk.out
    go_wp2_with (go_at_call 48;refine (QV.out _).mono ?_;rintro e w7 ⟨rfl,Qq⟩;have Qu:=yb Qq;clear Qq)
    go_meet
    exact ⟨rfl,Qu⟩
   by_cases h64:gs.length=64
   ·have YW:((gs.length:Int)==64)=true:=by rw [beq_iff_eq];omega
    have ZI:(gs.length==64)=true:=by rw [beq_iff_eq];exact h64
    obtain rfl:bad=true:=by rw [Qk.out,yd h64];rfl
    clear h64
    go_wp2_with (go_at_call 48;refine (QV.out _).mono ?_;rintro e w7 ⟨rfl,Qq⟩;have Qu:=yb Qq;clear Qq)
    go_meet
    exact ⟨rfl,Qu⟩
   have YW:((gs.length:Int)==64)=false:=by rw [yf];omega
   have ZI:(gs.length==64)=false:=by rw [yf];exact h64
   by_cases c1:a2<0
   ·have d1:decide (a2<0)=true:=yd c1
    obtain rfl:bad=true:=by rw [Qk.out,ye h64,d1];rfl
    go_wp2_with (go_at_call 48;refine (QV.out _).mono ?_;rintro e w7 ⟨rfl,Qq⟩;have Qu:=yb Qq;clear Qq)
    go_meet
    exact ⟨rfl,Qu⟩
   have d1:decide (a2<0)=false:=ye c1
   by_cases c2:b2<0
   ·have d2:decide (b2<0)=true:=yd c2
    obtain rfl:bad=true:=by rw [Qk.out,ye h64,d1,d2];rfl
    go_wp2_with (go_at_call 48;refine (QV.out _).mono ?_;rintro e w7 ⟨rfl,Qq⟩;have Qu:=yb Qq;clear Qq)
    go_meet
    exact ⟨rfl,Qu⟩
   have d2:decide (b2<0)=false:=ye c2
   by_cases c3:4097<a2
   ·have d3:decide (4097<a2)=true:=yd c3
    obtain rfl:bad=true:=by rw [Qk.out,ye h64,d1,d2,d3];rfl
    go_wp2_with (go_at_call 48;refine (QV.out _).mono ?_;rintro e w7 ⟨rfl,Qq⟩;have Qu:=yb Qq;clear Qq)
    go_meet
    exact ⟨rfl,Qu⟩
   have d3:decide (4097<a2)=false:=ye c3
   have a20:0<=a2:=by omega
   have a21:a2<=4097:=by omega
   obtain ⟨b4,QT⟩:∃b4,decide (4097-a2<b2)=b4:=⟨_,rfl⟩
   obtain rfl:bad=b4:=by rw [Qk.out,ye h64,d1,d2,d3,QT];rfl
   clear h64 c1 c2 c3
   go_wp2_with (go_at_call 48;refine (QV.out _).mono ?_;rintro e w7 ⟨rfl,Qq⟩;have Qu:=yb Qq;clear Qq)
   go_meet
   exact ⟨rfl,Qu⟩
  case rest =>
  obtain ⟨rfl,Qu⟩:=hcut
  have Q5:=yb (XK.out.on Qu.out)
  have YX:=yb (zab Qu.out YV.out)
  generalize wc=W7 at *
  clear XK VB YV Qu QV u0 u1 u2 u3 u4 u5 u6 u7
  obtain ⟨⟨u0,u1,u2,u3,u4,u5,u6,u7⟩,-⟩:=zag YX.out
  have Yb:=yb (show bad=true↔(wy=false\/gs.length=64\/zdb a2 b2=false) by
   rw [Qk.out]
   unfold zdb
   simp only [Bool.or_eq_true,Bool.not_eq_true',decide_eq_true_eq,Bool.and_eq_false_iff,decide_eq_false_iff_not]
   refine or_congr Iff.rfl (or_congr Iff.rfl ?_)
   omega)
  clear Qk
  cases bad
  case true =>
   have Ql:=ZG.out.trans (yg (Yb.out.1 rfl))
   have QM:=yb (show V=(Sec.none,0,20) from Qj.out.trans (by rw [Ql];exact yg (by decide)))
   obtain ⟨⟨z0,z1,z2,z3,z4⟩,y0,y1,y2,y3,y4⟩:=zbn Q5.out.rb
   clear Ql ZG Yb
   go_wp2
   refine yi (zae rfl _ _ r 33 _ (0,0) _ rfl (by exact set5 Q5.out.rb _ _ _ _ _) Tryz.underlying33 rfl (by exact zbI) _ _ rfl rfl) rfl ?_
   exact Q5.out.ret QM.out _ _ _ _ _
  have Yc:¬(wy=false\/gs.length=64\/zdb a2 b2=false):=fun h=>by have:=Yb.out.2 h;cases this
  have Zl:=yb (ZG.out.trans (yh Yc))
  have Q6:zdb a2 b2=true:=by
   cases h:zdb a2 b2 with
   | true=>rfl
   | false=>exact absurd (.inr (.inr h)) Yc
  have h64:gs.length<=63:=by
   have:gs.length≠64:=fun h=>Yc (.inr (.inl h))
   omega
  have XL:0<=b2/\b2<=4097/\0<=a2/\a2<=4097:=by
   unfold zdb at Q6
   simp only [Bool.and_eq_true,decide_eq_true_eq] at Q6
   omega
  obtain ⟨N,hN⟩:∃N:Nat,b2=(N:Int):=⟨b2.toNat,by omega⟩
  subst hN
  have V5:N<=4097:=by omega
  rw [show ((N:Int)).toNat=N from rfl] at Zl
  obtain ⟨T2,VC⟩:∃T2:Nat,t2=(T2:Int):=⟨t2.toNat,by omega⟩
  subst VC
  rw [show ((T2:Int)).toNat=T2 from rfl] at Zl
  have YY:T2<=bs.length:=by omega
  obtain ⟨Q,hQ⟩:∃Q,Q=zb5 bs yq N T2 []:=⟨_,rfl⟩
  rw [<-hQ] at Zl
  have HQ:=yb hQ
  have V6:=yb XL
  clear hQ Yc Q6 XL ZG Yb Q4
  have VD:=yb (zak (.cells #[.int .i64 a2,.slice none 0 0] 42) YX.out)
  have VE:=yb (show EsM (W7.alloc (.cells #[.int .i64 a2,.slice none 0 0] 42)) (W7.alloc (.cells #[.int .i64 a2,.slice none 0 0] 42)) W7.heap.size a2 [] (.slice none 0 0) from
   ⟨zac _ rfl,World.ownsRow_nil _ _ _ _,zaj.refl _ _,by rw [zan];omega⟩)
  have Yd:=yb (fun (W:World) (es:List Ent) (sv:Value) (h:EsM (W7.alloc (.cells #[.int .i64 a2,.slice none 0 0] 42)) W W7.heap.size a2 es sv)=>Q5.out.on (h.outer rfl))
  have YJ:=yb (show ∀b,Value.ownBlock (.slice sa gs.length sc)=some b->b<(W7.alloc (.cells #[.int .i64 a2,.slice none 0 0] 42)).heap.size from fun b hb=>by have:=(Q5.out.gm.own.lt b hb).2;rw [zan];omega)
  have VF:=yb (show w2.heap.size<=(W7.alloc (.cells #[.int .i64 a2,.slice none 0 0] 42)).heap.size by have:=Q5.out.gm.kps.size;rw [zan];omega)
  go_upto_region 23 with fail
  generalize W7.heap.size=g at *
  generalize World.alloc _ _=W8 at *
  clear Q5 YX VD u0 u1 u2 u3 u4 u5 u6 u7
  go_wp2_with fail
  go_loopw [1,19] (fun v1 v wr=>∃(c k3:Nat) (es:List Ent) (sv:Value),v1=.int .i64 k3/\v=.int .i64 c/\c<=N/\k3<=bs.length/\Hid (es.length=c)/\Hid (EsM W8 wr g a2 es sv)/\Hid (Q=zb5 bs yq (N-c) k3 es)) (fun _ v _=>N-(intOf v).toNat)
  case atStart=>exact ⟨0,T2,[],.slice none 0 0,rfl,rfl,by omega,YY,yb rfl,VE,HQ⟩
  case round =>
   obtain ⟨c,k3,es,sv,rfl,rfl,V7,XM,YZ,QO,Ye⟩:=hrel
   by_cases hlt:c<N
   ·have Qz:decide ((c:Int)<(N:Int))=true:=by simp;omega
    have Qf:decide (c<N)=true:=by simp;omega
    have Yf:=yb (dentry_any (Z4.out.mono (Yd.out _ _ _ QO.out).bel) (by omega) XM yq)
    obtain ⟨m2,Y0⟩:∃m2,m2+1=N-c:=⟨N-c-1,by omega⟩
    have Za:=yb Y0
    have Yg:=Ye.out
    rw [<-Y0,zb5] at Yg
    have Yh:(entV bs yq k3).2.2=0->(entV bs yq k3).2.1<=bs.length:=fun h=>entV_le XM h
    generalize entV bs yq k3=Z at *
    obtain ⟨ee,kk,er⟩:=Z
    simp only at Yg Yh
    have Yi:=yb Yg
    unfold DEntEnd entA at Yf
    simp only at Yf
    have ZQ:=yb (show entC ee=[.int .i64 ee.at_,.int .i64 ee.gen,.bool ee.used] from rfl)
    generalize ee.at_=ea at *
    generalize ee.gen=eg at *
    generalize ee.used=eu at *
    clear Y0 Yg Ye
    go_wp2_with fail
    refine Yf.out.mono ?_
    rintro e w6 ⟨rfl,Y1⟩
    have ZJ:=Y1.alloc Y1.size (.cells #[.int .i64 ea,.int .i64 eg,.bool eu] 44)
    have XN:=yb (zac (w:=w6) (b:=w6.heap.size) (.cells #[.int .i64 ea,.int .i64 eg,.bool eu] 44) rfl)
    have Q7:=yb (QO.out.below ZJ)
    clear Y1 ZJ Yf QO
    go_upto_region 27 with fail
    obtain ⟨z,hz⟩:∃z,z=w6.heap.size:=⟨_,rfl⟩
    rw [<-hz] at XN |-
    clear hz
    generalize w6.alloc _=W9 at *
    obtain ⟨⟨l0,l1,l2⟩,-⟩:=zcH XN.out
    obtain ⟨⟨g0,g1⟩,gf0,gf1⟩:=zaA Q7.out.blk
    by_cases her:er=0
    case neg =>
     have e0:(er==0)=false:=by rw [yf];exact her
     have e1:(er != 0)=true:=by simp only [bne,e0,yj]
     have ZK:Q=([],0,er):=Yi.out.trans (yg her)
     have Ql:G=([],0,er):=Zl.out.trans (by rw [ZK];exact yg her)
     have QM:=yb (show V=(Sec.none,0,er) from Qj.out.trans (by rw [Ql];exact yg her))
     have Y2:=yb (Yd.out _ _ _ Q7.out)
     obtain ⟨⟨z0,z1,z2,z3,z4⟩,y0,y1,y2,y3,y4⟩:=zbn Y2.out.rb
     clear her ZK Ql Yi Yh
     go_wp2
     refine yi (zae rfl _ _ r 33 _ (0,0) _ rfl (by exact set5 Y2.out.rb _ _ _ _ _) Tryz.underlying33 rfl (by exact zbI) _ _ rfl rfl) rfl ?_
     exact Y2.out.ret QM.out _ _ _ _ _
    subst her
    obtain ⟨va,vc,rfl,-,-⟩:=zas Q7.out.own
    have hL:es.length<=4097:=by have:=YZ.out;omega
    have QF:∀u∈[Value.int .i64 ea,.int .i64 eg,.bool eu],u.oneCell'=true:=by
     intro u hu
     simp at hu
     rcases hu with rfl|rfl|rfl<;>rfl
    have Q8:=yb QF
    have Qn:=yb (Yi.out.trans (yh (by decide)))
    have VG:=yb (Yh rfl)
    clear QF Yi Yh
    go_wp2_with (at_builtin;go_loud (refine zbT EEnt rfl (.tmp 132) (.tmp 134) rfl W8.heap.size _ es.length _ rfl (Q7.out.own.alloc _) _ 1 _ rfl (zcK _ #[.int .i64 ea,.int .i64 eg,.bool eu] _ 3 rfl rfl) Q8.out (by unfold maxLen;omega) (by omega) (by rw [zan];have:=Q7.out.kps.size;omega) ?_);intro v' w8 hO8 hg8 hn8;obtain ⟨ua,uc,rfl,-,-⟩:=zas hO8;have VH:=yb (Q7.out.app hg8 (by rw [ZQ.out];exact hO8));obtain ⟨⟨q0,q1'⟩,qf0,qf1⟩:=zaA (Q7.out.atG hg8);clear hO8 hg8 hn8)
    go_roundw
    case rel=>exact ⟨c+1,kk,es++[ee],_,rfl,by go_num,by omega,VG.out,yb (by rw [List.length_append,YZ.out];rfl),VH,yb (by rw [Qn.out,show N-(c+1)=m2 by have:=Za.out;omega])⟩
    case measure=>simp [intOf];omega
   ·have ZP:c=N:=by omega
    subst ZP
    have Qz:decide ((c:Int)<(c:Int))=false:=ye (by omega)
    have Qf:decide (c<c)=false:=ye (by omega)
    have ZK:Q=(es,k3,0):=Ye.out.trans (show zb5 bs yq (c-c) k3 es=(es,k3,0) by rw [Nat.sub_self];rfl)
    have Ql:=yb (show G=zbF bs yq m (gs++[⟨a2,es⟩]) (k3:Int) from Zl.out.trans (by rw [ZK];exact yh (fun h=>h rfl)))
    have Zm:=yb (Yd.out _ _ _ QO.out)
    have VI:=yb QO.out.fin
    obtain ⟨va,vc,rfl,-,-⟩:=zas QO.out.own
    obtain ⟨⟨g0,g1⟩,gf0,gf1⟩:=zaA QO.out.blk
    obtain ⟨⟨p0,p1,p2,p3,p4⟩,pf0,pf1,pf2,pf3,pf4⟩:=zbn Zm.out.sb
    have ZM:=yb (show W8.heap.size<=wr.heap.size from QO.out.kps.size)
    have QF:∀u∈[Value.int .i64 a2,.slice va es.length vc],u.oneCell'=true:=by
     intro u hu
     simp at hu
     rcases hu with rfl|rfl<;>rfl
    have Q8:=yb QF
    clear QF ZK Ye Zl QO Yd YZ
    go_wp2_with (at_builtin;go_loud (refine zbT EGrp rfl (.tmp 139) (.tmp 141) rfl w2.heap.size _ gs.length _ rfl (Zm.out.gm.own.alloc _) _ 1 _ rfl (zcK _ #[.int .i64 a2,.slice va es.length vc] _ 2 rfl rfl) Q8.out (by unfold maxLen;omega) (by omega) (by rw [zan];have:=Zm.out.gm.kps.size;omega) ?_);intro v' w8 hO8 hg8 hn8;obtain ⟨ua,uc,rfl,-,-⟩:=zas hO8;have VJ:=yb (Zm.out.app hg8 (Zm.out.gm.app hg8 VI.out VF.out YJ.out ZM.out hO8 hn8));obtain ⟨⟨q0,q1',q2',q3',q4'⟩,qf0,qf1,qf2,qf3,qf4⟩:=zbn (Zm.out.atP hg8);clear hO8 hg8 hn8)
    go_roundw
    case rel=>exact ⟨gs++[⟨a2,es⟩],(k3:Int),_,_,rfl,by rw [List.length_append];go_num,by rw [List.length_append];simp;omega,by omega,by omega,VJ,yb (by rw [Ql.out,List.length_append,show 65-(gs.length+[(⟨a2,es⟩:Grp)].length)=m by have:=HM.out;simp;omega])⟩
    case measure=>simp [intOf];omega
end Go.Proofs.YtfafdeemfeaedaaGreat
