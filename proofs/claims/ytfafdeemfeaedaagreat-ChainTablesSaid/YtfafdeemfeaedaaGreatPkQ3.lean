/-
  Our texts Num4 to LexD, in one.
-/
import Derived.Test.YtfafdeemfeaedaaGreatPkQ2
import Derived.Laws.IdiomStrings
import Derived.Deep.LoopGhost
import Derived.Lib.BytesEntry
import Derived.PlainAid
set_option maxRecDepth 8000
set_option maxHeartbeats 8000000
namespace Go.Proofs.YtfafdeemfeaedaaGreat
open Go.RowKit
theorem zau:(Tryz.prog.info? 27).map (·.size)=some 4:=by kernel_rfl
theorem zab {P:Program} {fn:Func} {p u:Tmp} {ty:TypeId} (h:fn.results=#[.cell p ty,.tmp u]) (tmps:Array Value) (w:World) (g:Nat) (t:TypeId) (cs:Array Value) (fr:Nat×Nat) (d:TypeDesc)
  (hp:tmps.getD p undef=.pointer (some ⟨g,0,none⟩)) (hg:w.heap[g]?=some (.cells cs t fr))
  (hu:P.underlying ty=some d) (hd:(match d with | .struct _ | .array _ _=>true|_=>false)=true) (hi:(P.info? ty).map (·.size)=some cs.size) (v:Value) (hv:tmps.getD u undef=v) :
  (results fn tmps).run P w=.ok (.tuple #[.agg cs,v]) w:=by
 rw [results_cell_tmp h,hp,hv]
 simp [asAddr,Result.andThen,run_loadVar_row w g t ty cs fr d hg hu hd hi]
theorem set4 {w:World} {b:Nat} {x0 x1 x2 x3:Value} {t:TypeId} (h:w.heap[b]?=some (.cells #[x0,x1,x2,x3] t (0,0))) (y0 y1 y2 y3:Value) :
  ((((w.setCell ⟨b,0,none⟩ y0).setCell ⟨b,1,none⟩ y1).setCell ⟨b,2,none⟩ y2).setCell ⟨b,3,none⟩ y3).heap[b]?=some (.cells #[y0,y1,y2,y3] t (0,0)):=by
 rw [heap_setCell_same _ _ 3 _ _ _ (heap_setCell_same _ _ 2 _ _ _ (heap_setCell_same _ _ 1 _ _ _ (heap_setCell_same w _ 0 _ _ _ h)))];rfl
theorem zak {B:Nat} {w0 w:World} (h:Below B w0 w) {b:Nat} (hb:B<=b) (y0 y1 y2 y3:Value) :
  Below B w0 ((((w.setCell ⟨b,0,none⟩ y0).setCell ⟨b,1,none⟩ y1).setCell ⟨b,2,none⟩ y2).setCell ⟨b,3,none⟩ y3) :=
 (((h.setCell hb _).setCell hb _).setCell hb _).setCell hb _
theorem zaj {w:World} {b:Nat} {x0 x1 x2 x3:Value} {t:TypeId} (h:w.heap[b]?=some (.cells #[x0,x1,x2,x3] t (0,0))) :
  (w.cell? ⟨b,0,none⟩=some x0/\w.cell? ⟨b,1,none⟩=some x1/\w.cell? ⟨b,2,none⟩=some x2/\w.cell? ⟨b,3,none⟩=some x3) /\
  (w.frozen? ⟨b,0,none⟩=false/\w.frozen? ⟨b,1,none⟩=false/\w.frozen? ⟨b,2,none⟩=false/\w.frozen? ⟨b,3,none⟩=false):=by
 refine ⟨⟨?_,?_,?_,?_⟩,frozen_of_row w b 0 _ _ h,frozen_of_row w b 1 _ _ h,frozen_of_row w b 2 _ _ h,frozen_of_row w b 3 _ _ h⟩
 ·rw [cell_of_row w b 0 _ _ _ h];rfl
 ·rw [cell_of_row w b 1 _ _ _ h];rfl
 ·rw [cell_of_row w b 2 _ _ _ h];rfl
 ·rw [cell_of_row w b 3 _ _ _ h];rfl
def ParseEnd (V:Int×Int×Int) (w:World) (e:Ending) (w':World):Prop:=e=.returned (.tuple #[.agg (valC V.1 V.2.1 zbv),.int .i64 V.2.2])/\Below w.heap.size w w'
theorem digits0 (l:List UInt8) (h:l.all isDg=true):zaz (48::l)=if 2147483647<valD l then (0,5) else (((valD l:Nat):Int),0):=by
 have hv:valD (48::l)=valD l:=valD_zl 1 l
 have ha:(48::l).all isDg=true:=by rw [List.all_cons,h];rfl
 by_cases ho:2147483647<valD l
 ·rw [yf ho,zdZ (by simp) ha (by rw [hv];exact ho)]
 ·rw [yg ho,zdv (by simp) ha (by rw [hv];omega),hv]
theorem zc6 {s:ByteArray} {c:UInt8} (h:hd1 s c=true):(bl s).head?=some c/\1<=s.size:=by
 unfold hd1 at h
 have h2:(bl s).head?=some c:=by simpa using h
 refine ⟨h2,?_⟩
 have:bl s≠[]:=by intro e;rw [e] at h2;simp at h2
 have h3:=List.length_pos_iff.2 this
 rw [zaM] at h3;exact h3
theorem zdc {s:ByteArray} {c:UInt8} (h:hd1 s c=false):(bl s).head?≠some c:=by
 unfold hd1 at h;simpa using h
theorem body_from {s:ByteArray} (h:(bl s).head?=some 45\/(bl s).head?=some 43) (_h1:1<=s.size):bl (s.extract 1 s.size)=zdY (bl s):=by
 unfold zdY;rw [yf h,bl_from,List.drop_one]
theorem parse_any (s:ByteArray) (w:World) (hs:s.size<=400000) :
  Calls Tryz.prog 198 #[.string s] w (ParseEnd (za4 (bl s)) w):=by
 have hbx:(w.alloc (.cells #[.int .i64 0,.int .i64 0,.string ⟨#[]⟩,.slice none 0 0] 27)).heap[w.heap.size]?=some (.cells #[.int .i64 0,.int .i64 0,.string ⟨#[]⟩,.slice none 0 0] 27 (0,0)):=zac _ rfl
 have hB0:=zag w (.cells #[.int .i64 0,.int .i64 0,.string ⟨#[]⟩,.slice none 0 0] 27)
 have HBX:=ya hbx
 have HB0:=ya hB0
 obtain ⟨V,hV⟩:∃V,V=za4 (bl s):=⟨_,rfl⟩
 rw [<-hV]
 have HV:=ya hV
 clear hV hbx hB0
 obtain ⟨c1,hc1⟩:∃c,hd1 s 45=c:=⟨_,rfl⟩
 obtain ⟨c2,hc2⟩:∃c,hd1 s 43=c:=⟨_,rfl⟩
 have HP1:=ya (fun W=>ze7 s 45 W (by omega))
 have HP2:=ya (fun W=>ze7 s 43 W (by omega))
 rw [hc1] at HP1
 rw [hc2] at HP2
 have HC1:=ya hc1
 have HC2:=ya hc2
 clear hc1 hc2
 cases c1
 case true =>
  have hz:=(zc6 HC1.out).2
  have HS:=ya (show V=za6 (-1) (bl (s.extract 1 s.size)) by
   rw [HV.out,za4,body_from (.inl (zc6 HC1.out).1) hz];unfold zd8;rw [yf (zc6 HC1.out).1])
  have hsz:(s.extract 1 s.size).size<=400000:=by rw [ByteArray.size_extract];omega
  go_enter Tryz.func198,Tryz.ntmps198
  go_wp2_with (go_at_call 143;refine (HP1.out _).mono ?_;rintro e w' ⟨rfl,rfl⟩)
  go_quiet (fail)
  generalize s.extract 1 s.size=b at *
  go_wp2_with fail
  refine (cut_any b _ (by omega)).mono ?_
  rintro e w' ⟨F,R,rfl,h1,h2,h3,h4,q,rfl⟩
  have HK2:=ya (show (((w.alloc (.cells #[.int .i64 0,.int .i64 0,.string ⟨#[]⟩,.slice none 0 0] 27)).drewN nq).drewN q).heap[w.heap.size]?=some (.cells #[.int .i64 0,.int .i64 0,.string ⟨#[]⟩,.slice none 0 0] 27 (0,0)) from HBX.out)
  have HB2:=ya (show Below w.heap.size w (((w.alloc (.cells #[.int .i64 0,.int .i64 0,.string ⟨#[]⟩,.slice none 0 0] 27)).drewN nq).drewN q) from zad (zad HB0.out nq) q)
  generalize (((w.alloc (.cells #[.int .i64 0,.int .i64 0,.string ⟨#[]⟩,.slice none 0 0] 27)).drewN nq).drewN q)=w2 at *
  have HF:=ya h1
  have HR:=ya h2
  obtain ⟨pt,hpt⟩:∃pt,zds (bl b)=pt:=⟨_,rfl⟩
  rw [hpt]
  have HPT:=ya hpt
  clear h1 h2 hpt
  have hw2:=HB2.out.size
  have HALF:=ya (fun W=>zdI F W)
  have HALR:=ya (fun W=>zdI R W)
  by_cases hz:F.size+R.size=0
  ·have HL:=ya (show V=(0,0,11) by
    rw [HS.out];unfold za6;rw [yf (.inl (by rw [<-HF.out,<-HR.out,zaM,zaM];exact hz))])
   have hz0:(((F.size:Int)+(R.size:Int))==0)=true:=by rw [beq_iff_eq];omega
   obtain ⟨⟨k0,k1,k2,k3⟩,f0,f1,f2,f3⟩:=zaj HK2.out
   go_wp2
   refine yh (zab rfl _ _ w.heap.size 27 _ (0,0) _ rfl (set4 HK2.out _ _ _ _) Tryz.underlying27 rfl zau _ rfl) rfl ⟨?_,zak HB2.out (ym _) _ _ _ _⟩
   rw [HL.out]
   rfl
  ·have hz0:(((F.size:Int)+(R.size:Int))==0)=false:=by rw [ye];omega
   obtain ⟨cF,hcF⟩:∃c,(bl F).all isDg=c:=⟨_,rfl⟩
   obtain ⟨cR,hcR⟩:∃c,(bl R).all isDg=c:=⟨_,rfl⟩
   rw [hcF] at HALF
   rw [hcR] at HALR
   have HCF:=ya hcF
   have HCR:=ya hcR
   clear hcF hcR
   cases cF
   case false =>
    have HL:=ya (show V=(0,0,11) by
     rw [HS.out];unfold za6;rw [yf (.inr (.inl (by rw [<-HF.out];exact HCF.out)))])
    go_wp2_with fail
    refine (HALF.out _).mono ?_
    rintro e w3 ⟨rfl,hb3⟩
    have h3k:=zaa hb3 HK2.out
    have HB3:=ya (HB2.out.trans (hb3.mono hw2))
    obtain ⟨⟨k0,k1,k2,k3⟩,f0,f1,f2,f3⟩:=zaj h3k
    have HK3:=ya h3k
    clear h3k hb3
    go_wp2
    refine yh (zab rfl _ _ w.heap.size 27 _ (0,0) _ rfl (set4 HK3.out _ _ _ _) Tryz.underlying27 rfl zau _ rfl) rfl ⟨?_,zak HB3.out (ym _) _ _ _ _⟩
    rw [HL.out]
    rfl
   go_wp2_with fail
   refine (HALF.out _).mono ?_
   rintro e w3 ⟨rfl,hb3⟩
   have HK3:=ya (zaa hb3 HK2.out)
   have HB3:=ya (HB2.out.trans (hb3.mono hw2))
   clear hb3
   go_wp2_with fail
   refine (HALR.out _).mono ?_
   rintro e w4 ⟨rfl,hb4⟩
   have HK4:=ya (zaa hb4 HK3.out)
   have HB4:=yl HB3 hb4
   clear hb4
   cases cR
   case false =>
    have HL:=ya (show V=(0,0,11) by
     rw [HS.out];unfold za6;rw [yf (.inr (.inr (by rw [<-HR.out];exact HCR.out)))])
    obtain ⟨⟨k0,k1,k2,k3⟩,f0,f1,f2,f3⟩:=zaj HK4.out
    go_wp2
    refine yh (zab rfl _ _ w.heap.size 27 _ (0,0) _ rfl (set4 HK4.out _ _ _ _) Tryz.underlying27 rfl zau _ rfl) rfl ⟨?_,zak HB4.out (ym _) _ _ _ _⟩
    rw [HL.out]
    rfl
   have hd0:bl (⟨#[48]⟩++F:ByteArray)=48::bl F:=by rw [zfq];rfl
   have hdig:=fun W=>zca (⟨#[48]⟩++F) W
   rw [hd0,digits0 _ HCF.out] at hdig
   have HDIG:=ya hdig
   have HL:=ya (show V=if 2147483647<valD (bl F) then (0,0,5) else if pt=false then (2,(-1:Int)*(valD (bl F):Nat),0) else if 2147483647000000<valD (bl F)*1000000+mil (bl R) then (0,0,5) else (3,(-1:Int)*((valD (bl F)*1000000+mil (bl R):Nat):Int),0) by
    rw [HS.out];unfold za6
    rw [yg (by
     rintro (h|h|h)
     ·rw [<-HF.out,<-HR.out,zaM,zaM] at h;exact hz h
     ·rw [<-HF.out,HCF.out] at h;cases h
     ·rw [<-HR.out,HCR.out] at h;cases h),HPT.out,<-HF.out,<-HR.out])
   have HMIL:=ya (fun W=>zbZ R W (by omega) HCR.out)
   have hml:=zfu (bl R) HCR.out
   have hszF:(⟨#[48]⟩++F:ByteArray).size=F.size+1:=by rw [zep,Nat.add_comm];rfl
   clear hdig hd0
   generalize valD (bl F)=n at *
   generalize mil (bl R)=m at *
   by_cases hov:2147483647<n
   ·rw [yf hov] at HDIG
    rw [yf hov] at HL
    clear hov
    go_wp2_with fail
    refine (HDIG.out _).mono ?_
    rintro e w5 ⟨rfl,hb5⟩
    have HK5:=ya (zaa hb5 HK4.out)
    have HB5:=yl HB4 hb5
    obtain ⟨⟨k0,k1,k2,k3⟩,f0,f1,f2,f3⟩:=zaj HK5.out
    clear hb5
    go_wp2
    refine yh (zab rfl _ _ w.heap.size 27 _ (0,0) _ rfl (set4 HK5.out _ _ _ _) Tryz.underlying27 rfl zau _ rfl) rfl ⟨?_,zak HB5.out (ym _) _ _ _ _⟩
    rw [HL.out]
    rfl
   rw [yg hov] at HDIG
   rw [yg hov] at HL
   have hn:(n:Int)<=2147483647:=by omega
   clear hov
   go_wp2_with fail
   refine (HDIG.out _).mono ?_
   rintro e w5 ⟨rfl,hb5⟩
   have HK5:=ya (zaa hb5 HK4.out)
   have HB5:=yl HB4 hb5
   obtain ⟨⟨k0,k1,k2,k3⟩,f0,f1,f2,f3⟩:=zaj HK5.out
   clear hb5
   cases pt
   case false =>
    rw [yf rfl] at HL
    go_wp2
    refine yh (zab rfl _ _ w.heap.size 27 _ (0,0) _ rfl (set4 HK5.out _ _ _ _) Tryz.underlying27 rfl zau _ rfl) rfl ⟨?_,zak HB5.out (ym _) _ _ _ _⟩
    rw [HL.out]
    simp [valC,zbv]
   rw [yg (by decide)] at HL
   clear k0 k1 k2 k3 f0 f1 f2 f3
   go_wp2_with fail
   refine (HMIL.out _).mono ?_
   rintro e w6 ⟨rfl,hb6⟩
   have HK6:=ya (zaa hb6 HK5.out)
   have HB6:=yl HB5 hb6
   clear hb6
   have hw6:=(Array.getElem?_eq_some_iff.1 HK6.out).1
   have hck:zaI 3 (-((n:Int)*1000000+(m:Int))) (zbn ⟨#[]⟩ 0)=if 2147483647000000<n*1000000+m then 2 else 0:=by
    unfold zaI
    by_cases hb:2147483647000000<n*1000000+m
    ·rw [yf hb,yg];rintro ⟨-,h|h⟩<;>omega
    ·rw [yg hb,yf];exact ⟨rfl,.inr ⟨rfl,by omega,by omega⟩⟩
   have HCK:=ya (fun W=>zev 3 (-((n:Int)*1000000+(m:Int))) ⟨#[]⟩ none 0 0 W (by omega))
   rw [hck] at HCK
   clear hck
   go_wp2_with fail
   refine (HCK.out _).mono ?_
   rintro e w7 ⟨rfl,hb7⟩
   have HK7:=ya (zaa hb7 (zai _ HK6.out))
   have hq7:=zaa hb7 (zac _ rfl)
   have HB7:=ya ((HB6.out.alloc (Nat.le_of_lt hw6) (.cells #[.int .i64 3,.int .i64 (-((n:Int)*1000000+(m:Int))),.string ⟨#[]⟩,.slice none 0 0] 27)).trans (hb7.mono (by rw [zan];omega)))
   obtain ⟨⟨k0,k1,k2,k3⟩,f0,f1,f2,f3⟩:=zaj HK7.out
   obtain ⟨⟨g0,g1,g2,g3⟩,-⟩:=zaj hq7
   clear hb7 hq7
   by_cases hbig:2147483647000000<n*1000000+m
   ·rw [yf hbig] at HL |-
    clear hbig
    go_wp2
    refine yh (zab rfl _ _ w.heap.size 27 _ (0,0) _ rfl (set4 HK7.out _ _ _ _) Tryz.underlying27 rfl zau _ rfl) rfl ⟨?_,zak HB7.out (ym _) _ _ _ _⟩
    rw [HL.out]
    rfl
   ·rw [yg hbig] at HL |-
    clear hbig
    go_wp2
    refine yh (zab rfl _ _ w.heap.size 27 _ (0,0) _ rfl (set4 HK7.out _ _ _ _) Tryz.underlying27 rfl zau _ rfl) rfl ⟨?_,zak HB7.out (ym _) _ _ _ _⟩
    rw [HL.out]
    simp [valC,zbv]
 case false =>
 cases c2
 case true =>
  have hz:=(zc6 HC2.out).2
  have HS:=ya (show V=za6 1 (bl (s.extract 1 s.size)) by
   rw [HV.out,za4,body_from (.inr (zc6 HC2.out).1) hz];unfold zd8;rw [yg (zdc HC1.out)])
  have hsz:(s.extract 1 s.size).size<=400000:=by rw [ByteArray.size_extract];omega
  go_enter Tryz.func198,Tryz.ntmps198
  go_wp2_with (go_at_call 143;first|(refine (HP1.out _).mono ?_;rintro e w' ⟨rfl,rfl⟩)|(refine (HP2.out _).mono ?_;rintro e w' ⟨rfl,rfl⟩))
  generalize s.extract 1 s.size=b at *
  go_wp2_with fail
  refine (cut_any b _ (by omega)).mono ?_
  rintro e w' ⟨F,R,rfl,h1,h2,h3,h4,q,rfl⟩
  have HK2:=ya (show ((w.alloc (.cells #[.int .i64 0,.int .i64 0,.string ⟨#[]⟩,.slice none 0 0] 27)).drewN q).heap[w.heap.size]?=some (.cells #[.int .i64 0,.int .i64 0,.string ⟨#[]⟩,.slice none 0 0] 27 (0,0)) from HBX.out)
  have HB2:=ya (show Below w.heap.size w ((w.alloc (.cells #[.int .i64 0,.int .i64 0,.string ⟨#[]⟩,.slice none 0 0] 27)).drewN q) from zad HB0.out q)
  generalize ((w.alloc (.cells #[.int .i64 0,.int .i64 0,.string ⟨#[]⟩,.slice none 0 0] 27)).drewN q)=w2 at *
  have HF:=ya h1
  have HR:=ya h2
  obtain ⟨pt,hpt⟩:∃pt,zds (bl b)=pt:=⟨_,rfl⟩
  rw [hpt]
  have HPT:=ya hpt
  clear h1 h2 hpt
  have hw2:=HB2.out.size
  have HALF:=ya (fun W=>zdI F W)
  have HALR:=ya (fun W=>zdI R W)
  by_cases hz:F.size+R.size=0
  ·have HL:=ya (show V=(0,0,11) by
    rw [HS.out];unfold za6;rw [yf (.inl (by rw [<-HF.out,<-HR.out,zaM,zaM];exact hz))])
   have hz0:(((F.size:Int)+(R.size:Int))==0)=true:=by rw [beq_iff_eq];omega
   obtain ⟨⟨k0,k1,k2,k3⟩,f0,f1,f2,f3⟩:=zaj HK2.out
   go_wp2
   refine yh (zab rfl _ _ w.heap.size 27 _ (0,0) _ rfl (set4 HK2.out _ _ _ _) Tryz.underlying27 rfl zau _ rfl) rfl ⟨?_,zak HB2.out (ym _) _ _ _ _⟩
   rw [HL.out]
   rfl
  ·have hz0:(((F.size:Int)+(R.size:Int))==0)=false:=by rw [ye];omega
   obtain ⟨cF,hcF⟩:∃c,(bl F).all isDg=c:=⟨_,rfl⟩
   obtain ⟨cR,hcR⟩:∃c,(bl R).all isDg=c:=⟨_,rfl⟩
   rw [hcF] at HALF
   rw [hcR] at HALR
   have HCF:=ya hcF
   have HCR:=ya hcR
   clear hcF hcR
   cases cF
   case false =>
    have HL:=ya (show V=(0,0,11) by
     rw [HS.out];unfold za6;rw [yf (.inr (.inl (by rw [<-HF.out];exact HCF.out)))])
    go_wp2_with fail
    refine (HALF.out _).mono ?_
    rintro e w3 ⟨rfl,hb3⟩
    have h3k:=zaa hb3 HK2.out
    have HB3:=ya (HB2.out.trans (hb3.mono hw2))
    obtain ⟨⟨k0,k1,k2,k3⟩,f0,f1,f2,f3⟩:=zaj h3k
    have HK3:=ya h3k
    clear h3k hb3
    go_wp2
    refine yh (zab rfl _ _ w.heap.size 27 _ (0,0) _ rfl (set4 HK3.out _ _ _ _) Tryz.underlying27 rfl zau _ rfl) rfl ⟨?_,zak HB3.out (ym _) _ _ _ _⟩
    rw [HL.out]
    rfl
   go_wp2_with fail
   refine (HALF.out _).mono ?_
   rintro e w3 ⟨rfl,hb3⟩
   have HK3:=ya (zaa hb3 HK2.out)
   have HB3:=ya (HB2.out.trans (hb3.mono hw2))
   clear hb3
   go_wp2_with fail
   refine (HALR.out _).mono ?_
   rintro e w4 ⟨rfl,hb4⟩
   have HK4:=ya (zaa hb4 HK3.out)
   have HB4:=yl HB3 hb4
   clear hb4
   cases cR
   case false =>
    have HL:=ya (show V=(0,0,11) by
     rw [HS.out];unfold za6;rw [yf (.inr (.inr (by rw [<-HR.out];exact HCR.out)))])
    obtain ⟨⟨k0,k1,k2,k3⟩,f0,f1,f2,f3⟩:=zaj HK4.out
    go_wp2
    refine yh (zab rfl _ _ w.heap.size 27 _ (0,0) _ rfl (set4 HK4.out _ _ _ _) Tryz.underlying27 rfl zau _ rfl) rfl ⟨?_,zak HB4.out (ym _) _ _ _ _⟩
    rw [HL.out]
    rfl
   have hd0:bl (⟨#[48]⟩++F:ByteArray)=48::bl F:=by rw [zfq];rfl
   have hdig:=fun W=>zca (⟨#[48]⟩++F) W
   rw [hd0,digits0 _ HCF.out] at hdig
   have HDIG:=ya hdig
   have HL:=ya (show V=if 2147483647<valD (bl F) then (0,0,5) else if pt=false then (2,(1:Int)*(valD (bl F):Nat),0) else if 2147483647000000<valD (bl F)*1000000+mil (bl R) then (0,0,5) else (3,(1:Int)*((valD (bl F)*1000000+mil (bl R):Nat):Int),0) by
    rw [HS.out];unfold za6
    rw [yg (by
     rintro (h|h|h)
     ·rw [<-HF.out,<-HR.out,zaM,zaM] at h;exact hz h
     ·rw [<-HF.out,HCF.out] at h;cases h
     ·rw [<-HR.out,HCR.out] at h;cases h),HPT.out,<-HF.out,<-HR.out])
   have HMIL:=ya (fun W=>zbZ R W (by omega) HCR.out)
   have hml:=zfu (bl R) HCR.out
   have hszF:(⟨#[48]⟩++F:ByteArray).size=F.size+1:=by rw [zep,Nat.add_comm];rfl
   clear hdig hd0
   generalize valD (bl F)=n at *
   generalize mil (bl R)=m at *
   by_cases hov:2147483647<n
   ·rw [yf hov] at HDIG
    rw [yf hov] at HL
    clear hov
    go_wp2_with fail
    refine (HDIG.out _).mono ?_
    rintro e w5 ⟨rfl,hb5⟩
    have HK5:=ya (zaa hb5 HK4.out)
    have HB5:=yl HB4 hb5
    obtain ⟨⟨k0,k1,k2,k3⟩,f0,f1,f2,f3⟩:=zaj HK5.out
    clear hb5
    go_wp2
    refine yh (zab rfl _ _ w.heap.size 27 _ (0,0) _ rfl (set4 HK5.out _ _ _ _) Tryz.underlying27 rfl zau _ rfl) rfl ⟨?_,zak HB5.out (ym _) _ _ _ _⟩
    rw [HL.out]
    rfl
   rw [yg hov] at HDIG
   rw [yg hov] at HL
   have hn:(n:Int)<=2147483647:=by omega
   clear hov
   go_wp2_with fail
   refine (HDIG.out _).mono ?_
   rintro e w5 ⟨rfl,hb5⟩
   have HK5:=ya (zaa hb5 HK4.out)
   have HB5:=yl HB4 hb5
   obtain ⟨⟨k0,k1,k2,k3⟩,f0,f1,f2,f3⟩:=zaj HK5.out
   clear hb5
   cases pt
   case false =>
    rw [yf rfl] at HL
    go_wp2
    refine yh (zab rfl _ _ w.heap.size 27 _ (0,0) _ rfl (set4 HK5.out _ _ _ _) Tryz.underlying27 rfl zau _ rfl) rfl ⟨?_,zak HB5.out (ym _) _ _ _ _⟩
    rw [HL.out]
    simp [valC,zbv]
   rw [yg (by decide)] at HL
   clear k0 k1 k2 k3 f0 f1 f2 f3
   go_wp2_with fail
   refine (HMIL.out _).mono ?_
   rintro e w6 ⟨rfl,hb6⟩
   have HK6:=ya (zaa hb6 HK5.out)
   have HB6:=yl HB5 hb6
   clear hb6
   have hw6:=(Array.getElem?_eq_some_iff.1 HK6.out).1
   have hck:zaI 3 ((n:Int)*1000000+(m:Int)) (zbn ⟨#[]⟩ 0)=if 2147483647000000<n*1000000+m then 2 else 0:=by
    unfold zaI
    by_cases hb:2147483647000000<n*1000000+m
    ·rw [yf hb,yg];rintro ⟨-,h|h⟩<;>omega
    ·rw [yg hb,yf];exact ⟨rfl,.inr ⟨rfl,by omega,by omega⟩⟩
   have HCK:=ya (fun W=>zev 3 ((n:Int)*1000000+(m:Int)) ⟨#[]⟩ none 0 0 W (by omega))
   rw [hck] at HCK
   clear hck
   go_wp2_with fail
   refine (HCK.out _).mono ?_
   rintro e w7 ⟨rfl,hb7⟩
   have HK7:=ya (zaa hb7 (zai _ HK6.out))
   have hq7:=zaa hb7 (zac _ rfl)
   have HB7:=ya ((HB6.out.alloc (Nat.le_of_lt hw6) (.cells #[.int .i64 3,.int .i64 ((n:Int)*1000000+(m:Int)),.string ⟨#[]⟩,.slice none 0 0] 27)).trans (hb7.mono (by rw [zan];omega)))
   obtain ⟨⟨k0,k1,k2,k3⟩,f0,f1,f2,f3⟩:=zaj HK7.out
   obtain ⟨⟨g0,g1,g2,g3⟩,-⟩:=zaj hq7
   clear hb7 hq7
   by_cases hbig:2147483647000000<n*1000000+m
   ·rw [yf hbig] at HL |-
    clear hbig
    go_wp2
    refine yh (zab rfl _ _ w.heap.size 27 _ (0,0) _ rfl (set4 HK7.out _ _ _ _) Tryz.underlying27 rfl zau _ rfl) rfl ⟨?_,zak HB7.out (ym _) _ _ _ _⟩
    rw [HL.out]
    rfl
   ·rw [yg hbig] at HL |-
    clear hbig
    go_wp2
    refine yh (zab rfl _ _ w.heap.size 27 _ (0,0) _ rfl (set4 HK7.out _ _ _ _) Tryz.underlying27 rfl zau _ rfl) rfl ⟨?_,zak HB7.out (ym _) _ _ _ _⟩
    rw [HL.out]
    simp [valC,zbv]
 case false =>
  have HS:=ya (show V=za6 1 (bl s) by
   rw [HV.out,za4,show zdY (bl s)=bl s from by unfold zdY;rw [yg (by rintro (h|h);exact zdc HC1.out h;exact zdc HC2.out h)]];unfold zd8;rw [yg (zdc HC1.out)])
  have hsz:=hs
  obtain ⟨b,hb⟩:∃b,b=s:=⟨_,rfl⟩
  rw [<-hb] at HS
  go_enter Tryz.func198,Tryz.ntmps198
  go_wp2_with (go_at_call 143;first|(refine (HP1.out _).mono ?_;rintro e w' ⟨rfl,rfl⟩)|(refine (HP2.out _).mono ?_;rintro e w' ⟨rfl,rfl⟩))
  subst hb
  go_wp2_with fail
  refine (cut_any b _ (by omega)).mono ?_
  rintro e w' ⟨F,R,rfl,h1,h2,h3,h4,q,rfl⟩
  have HK2:=ya (show ((w.alloc (.cells #[.int .i64 0,.int .i64 0,.string ⟨#[]⟩,.slice none 0 0] 27)).drewN q).heap[w.heap.size]?=some (.cells #[.int .i64 0,.int .i64 0,.string ⟨#[]⟩,.slice none 0 0] 27 (0,0)) from HBX.out)
  have HB2:=ya (show Below w.heap.size w ((w.alloc (.cells #[.int .i64 0,.int .i64 0,.string ⟨#[]⟩,.slice none 0 0] 27)).drewN q) from zad HB0.out q)
  generalize ((w.alloc (.cells #[.int .i64 0,.int .i64 0,.string ⟨#[]⟩,.slice none 0 0] 27)).drewN q)=w2 at *
  have HF:=ya h1
  have HR:=ya h2
  obtain ⟨pt,hpt⟩:∃pt,zds (bl b)=pt:=⟨_,rfl⟩
  rw [hpt]
  have HPT:=ya hpt
  clear h1 h2 hpt
  have hw2:=HB2.out.size
  have HALF:=ya (fun W=>zdI F W)
  have HALR:=ya (fun W=>zdI R W)
  by_cases hz:F.size+R.size=0
  ·have HL:=ya (show V=(0,0,11) by
    rw [HS.out];unfold za6;rw [yf (.inl (by rw [<-HF.out,<-HR.out,zaM,zaM];exact hz))])
   have hz0:(((F.size:Int)+(R.size:Int))==0)=true:=by rw [beq_iff_eq];omega
   obtain ⟨⟨k0,k1,k2,k3⟩,f0,f1,f2,f3⟩:=zaj HK2.out
   go_wp2
   refine yh (zab rfl _ _ w.heap.size 27 _ (0,0) _ rfl (set4 HK2.out _ _ _ _) Tryz.underlying27 rfl zau _ rfl) rfl ⟨?_,zak HB2.out (ym _) _ _ _ _⟩
   rw [HL.out]
   rfl
  ·have hz0:(((F.size:Int)+(R.size:Int))==0)=false:=by rw [ye];omega
   obtain ⟨cF,hcF⟩:∃c,(bl F).all isDg=c:=⟨_,rfl⟩
   obtain ⟨cR,hcR⟩:∃c,(bl R).all isDg=c:=⟨_,rfl⟩
   rw [hcF] at HALF
   rw [hcR] at HALR
   have HCF:=ya hcF
   have HCR:=ya hcR
   clear hcF hcR
   cases cF
   case false =>
    have HL:=ya (show V=(0,0,11) by
     rw [HS.out];unfold za6;rw [yf (.inr (.inl (by rw [<-HF.out];exact HCF.out)))])
    go_wp2_with fail
    refine (HALF.out _).mono ?_
    rintro e w3 ⟨rfl,hb3⟩
    have h3k:=zaa hb3 HK2.out
    have HB3:=ya (HB2.out.trans (hb3.mono hw2))
    obtain ⟨⟨k0,k1,k2,k3⟩,f0,f1,f2,f3⟩:=zaj h3k
    have HK3:=ya h3k
    clear h3k hb3
    go_wp2
    refine yh (zab rfl _ _ w.heap.size 27 _ (0,0) _ rfl (set4 HK3.out _ _ _ _) Tryz.underlying27 rfl zau _ rfl) rfl ⟨?_,zak HB3.out (ym _) _ _ _ _⟩
    rw [HL.out]
    rfl
   go_wp2_with fail
   refine (HALF.out _).mono ?_
   rintro e w3 ⟨rfl,hb3⟩
   have HK3:=ya (zaa hb3 HK2.out)
   have HB3:=ya (HB2.out.trans (hb3.mono hw2))
   clear hb3
   go_wp2_with fail
   refine (HALR.out _).mono ?_
   rintro e w4 ⟨rfl,hb4⟩
   have HK4:=ya (zaa hb4 HK3.out)
   have HB4:=yl HB3 hb4
   clear hb4
   cases cR
   case false =>
    have HL:=ya (show V=(0,0,11) by
     rw [HS.out];unfold za6;rw [yf (.inr (.inr (by rw [<-HR.out];exact HCR.out)))])
    obtain ⟨⟨k0,k1,k2,k3⟩,f0,f1,f2,f3⟩:=zaj HK4.out
    go_wp2
    refine yh (zab rfl _ _ w.heap.size 27 _ (0,0) _ rfl (set4 HK4.out _ _ _ _) Tryz.underlying27 rfl zau _ rfl) rfl ⟨?_,zak HB4.out (ym _) _ _ _ _⟩
    rw [HL.out]
    rfl
   have hd0:bl (⟨#[48]⟩++F:ByteArray)=48::bl F:=by rw [zfq];rfl
   have hdig:=fun W=>zca (⟨#[48]⟩++F) W
   rw [hd0,digits0 _ HCF.out] at hdig
   have HDIG:=ya hdig
   have HL:=ya (show V=if 2147483647<valD (bl F) then (0,0,5) else if pt=false then (2,(1:Int)*(valD (bl F):Nat),0) else if 2147483647000000<valD (bl F)*1000000+mil (bl R) then (0,0,5) else (3,(1:Int)*((valD (bl F)*1000000+mil (bl R):Nat):Int),0) by
    rw [HS.out];unfold za6
    rw [yg (by
     rintro (h|h|h)
     ·rw [<-HF.out,<-HR.out,zaM,zaM] at h;exact hz h
     ·rw [<-HF.out,HCF.out] at h;cases h
     ·rw [<-HR.out,HCR.out] at h;cases h),HPT.out,<-HF.out,<-HR.out])
   have HMIL:=ya (fun W=>zbZ R W (by omega) HCR.out)
   have hml:=zfu (bl R) HCR.out
   have hszF:(⟨#[48]⟩++F:ByteArray).size=F.size+1:=by rw [zep,Nat.add_comm];rfl
   clear hdig hd0
   generalize valD (bl F)=n at *
   generalize mil (bl R)=m at *
   by_cases hov:2147483647<n
   ·rw [yf hov] at HDIG
    rw [yf hov] at HL
    clear hov
    go_wp2_with fail
    refine (HDIG.out _).mono ?_
    rintro e w5 ⟨rfl,hb5⟩
    have HK5:=ya (zaa hb5 HK4.out)
    have HB5:=yl HB4 hb5
    obtain ⟨⟨k0,k1,k2,k3⟩,f0,f1,f2,f3⟩:=zaj HK5.out
    clear hb5
    go_wp2
    refine yh (zab rfl _ _ w.heap.size 27 _ (0,0) _ rfl (set4 HK5.out _ _ _ _) Tryz.underlying27 rfl zau _ rfl) rfl ⟨?_,zak HB5.out (ym _) _ _ _ _⟩
    rw [HL.out]
    rfl
   rw [yg hov] at HDIG
   rw [yg hov] at HL
   have hn:(n:Int)<=2147483647:=by omega
   clear hov
   go_wp2_with fail
   refine (HDIG.out _).mono ?_
   rintro e w5 ⟨rfl,hb5⟩
   have HK5:=ya (zaa hb5 HK4.out)
   have HB5:=yl HB4 hb5
   obtain ⟨⟨k0,k1,k2,k3⟩,f0,f1,f2,f3⟩:=zaj HK5.out
   clear hb5
   cases pt
   case false =>
    rw [yf rfl] at HL
    go_wp2
    refine yh (zab rfl _ _ w.heap.size 27 _ (0,0) _ rfl (set4 HK5.out _ _ _ _) Tryz.underlying27 rfl zau _ rfl) rfl ⟨?_,zak HB5.out (ym _) _ _ _ _⟩
    rw [HL.out]
    simp [valC,zbv]
   rw [yg (by decide)] at HL
   clear k0 k1 k2 k3 f0 f1 f2 f3
   go_wp2_with fail
   refine (HMIL.out _).mono ?_
   rintro e w6 ⟨rfl,hb6⟩
   have HK6:=ya (zaa hb6 HK5.out)
   have HB6:=yl HB5 hb6
   clear hb6
   have hw6:=(Array.getElem?_eq_some_iff.1 HK6.out).1
   have hck:zaI 3 ((n:Int)*1000000+(m:Int)) (zbn ⟨#[]⟩ 0)=if 2147483647000000<n*1000000+m then 2 else 0:=by
    unfold zaI
    by_cases hb:2147483647000000<n*1000000+m
    ·rw [yf hb,yg];rintro ⟨-,h|h⟩<;>omega
    ·rw [yg hb,yf];exact ⟨rfl,.inr ⟨rfl,by omega,by omega⟩⟩
   have HCK:=ya (fun W=>zev 3 ((n:Int)*1000000+(m:Int)) ⟨#[]⟩ none 0 0 W (by omega))
   rw [hck] at HCK
   clear hck
   go_wp2_with fail
   refine (HCK.out _).mono ?_
   rintro e w7 ⟨rfl,hb7⟩
   have HK7:=ya (zaa hb7 (zai _ HK6.out))
   have hq7:=zaa hb7 (zac _ rfl)
   have HB7:=ya ((HB6.out.alloc (Nat.le_of_lt hw6) (.cells #[.int .i64 3,.int .i64 ((n:Int)*1000000+(m:Int)),.string ⟨#[]⟩,.slice none 0 0] 27)).trans (hb7.mono (by rw [zan];omega)))
   obtain ⟨⟨k0,k1,k2,k3⟩,f0,f1,f2,f3⟩:=zaj HK7.out
   obtain ⟨⟨g0,g1,g2,g3⟩,-⟩:=zaj hq7
   clear hb7 hq7
   by_cases hbig:2147483647000000<n*1000000+m
   ·rw [yf hbig] at HL |-
    clear hbig
    go_wp2
    refine yh (zab rfl _ _ w.heap.size 27 _ (0,0) _ rfl (set4 HK7.out _ _ _ _) Tryz.underlying27 rfl zau _ rfl) rfl ⟨?_,zak HB7.out (ym _) _ _ _ _⟩
    rw [HL.out]
    rfl
   ·rw [yg hbig] at HL |-
    clear hbig
    go_wp2
    refine yh (zab rfl _ _ w.heap.size 27 _ (0,0) _ rfl (set4 HK7.out _ _ _ _) Tryz.underlying27 rfl zau _ rfl) rfl ⟨?_,zak HB7.out (ym _) _ _ _ _⟩
    rw [HL.out]
    simp [valC,zbv]
def TxtEnd (w:World) (S:Nat->Prop) (p:Nat) (X:Src) (V:Option (List UInt8×List UInt8)) (e:Ending) (w':World):Prop :=
 zae S w w'/\match V with
 | none=>e=.returned (.tuple #[.agg (valC 0 0 zbv),.int .i64 (zbt X.yo)])
 | some (x,t)=>e=.returned (.tuple #[.agg (valC 4 0 (mkB x)),.int .i64 0])/\t.length<=X.bs.length/\w'.cell? ⟨p,3,none⟩=some (.int .i64 ((X.bs.length-t.length:Nat):Int))
theorem textV_nil (yo:Bool) (D:Nat) (out:List UInt8):za2 yo D out []=none:=by rw [za2]
theorem textV_esc (yo:Bool) (D:Nat) (out:List UInt8) (t:List UInt8):za2 yo D out (92::t)=match escV yo t with|none=>none|some (x,k)=>za2 yo D (out++x) (t.drop k):=by rw [za2];rfl
theorem textV_nl (yo:Bool) (D:Nat) (out:List UInt8) (t:List UInt8):za2 yo D out (13::t)=match zfd yo t with|none=>none|some k=>za2 yo D (out++[10]) (t.drop k):=by rw [za2];rfl
theorem textV_in (yo:Bool) (D:Nat) (out:List UInt8) (t:List UInt8):za2 yo D out (40::t)=za2 yo (D+1) (out++[40]) t:=by rw [za2];rfl
theorem textV_out (yo:Bool) (D:Nat) (out:List UInt8) (t:List UInt8):za2 yo D out (41::t)=if D=1 then some (out,t) else za2 yo (D-1) (out++[41]) t:=by rw [za2];rfl
theorem textV_byte (yo:Bool) (D:Nat) (out:List UInt8) (c:UInt8) (t:List UInt8) (h1:c≠92) (h2:c≠13) (h3:c≠40) (h4:c≠41):za2 yo D out (c::t)=za2 yo D (out++[c]) t:=by
 rw [za2,yg h1,yg h2,yg h3,yg h4]
structure TxtAt (W0:World) (S:Nat->Prop) (p:Nat) (X:Src) (V:Option (List UInt8×List UInt8)) (D k:Nat) (out:List UInt8) (w':World):Prop where
 d1:1<=D
 d2:D<=k
 o:out.length<k
 le:k<=X.bs.length
 sc:zam W0 S p X out k w'
 v:V=za2 X.yo D out (X.bs.drop k)
def TxtI (W0:World) (S:Nat->Prop) (p:Nat) (X:Src) (V:Option (List UInt8×List UInt8)) (r:Nat) (m:Nat) (a:Act) (w':World):Prop :=
 ∃(D k:Nat) (out:List UInt8) (u5 u6 u7 u8 u9 u10 u11 u12 u13 u14 u15 u16 u17 u18 u19 u20 u21 u22 u23 u24 u25 u26 u27 u28 u29 u30 u31 u32 u33 u34 u35 u36 u37 u38 u39 u40 u41 u42 u43 u44 u45 u46 u47 u48 u49 u50 u51 u52 u53 u54 u55 u56 u57 u58 u59 u60 u61:Value),m=X.bs.length-k/\Hid (TxtAt W0 S p X V D k out w')/\a={ tmps:=#[.pointer (some ⟨p,0,none⟩),undef,.pointer (some ⟨r,0,none⟩),.int .i64 0,.int .i64 D,u5,u6,u7,u8,u9,u10,u11,u12,u13,u14,u15,u16,u17,u18,u19,u20,u21,u22,u23,u24,u25,u26,u27,u28,u29,u30,u31,u32,u33,u34,u35,u36,u37,u38,u39,u40,u41,u42,u43,u44,u45,u46,u47,u48,u49,u50,u51,u52,u53,u54,u55,u56,u57,u58,u59,u60,u61],defers:=[] }
theorem zaV {S:Nat->Prop} {w W:World} (h:zae S w W) {r:Nat} (hr:w.heap.size<=r) (y0 y1 y2 y3:Value) :
  zae S w ((((W.setCell ⟨r,0,none⟩ y0).setCell ⟨r,1,none⟩ y1).setCell ⟨r,2,none⟩ y2).setCell ⟨r,3,none⟩ y3) :=
 (((h.setCell (.inr hr) _).setCell (.inr hr) _).setCell (.inr hr) _).setCell (.inr hr) _
theorem zbg {W:World} {b r:Nat} (hb:b≠r) (y0 y1 y2 y3:Value) :
  ((((W.setCell ⟨r,0,none⟩ y0).setCell ⟨r,1,none⟩ y1).setCell ⟨r,2,none⟩ y2).setCell ⟨r,3,none⟩ y3).heap[b]?=W.heap[b]?:=by
 rw [heap_setCell_other _ _ _ _ hb,heap_setCell_other _ _ _ _ hb,heap_setCell_other _ _ _ _ hb,heap_setCell_other _ _ _ _ hb]
theorem zgK {w w':World} {S:Nat->Prop} {p:Nat} {X:Src} {V:Option (List UInt8×List UInt8)} (hV:V=none) (hk:zae S w w'):TxtEnd w S p X V (.returned (.tuple #[.agg (valC 0 0 zbv),.int .i64 (zbt X.yo)])) w':=by
 subst hV;exact ⟨hk,rfl⟩
theorem txt_some {w w':World} {S:Nat->Prop} {p:Nat} {X:Src} {V:Option (List UInt8×List UInt8)} {x t:List UInt8} (hV:V=some (x,t)) (hk:zae S w w') (ht:t.length<=X.bs.length)
  (hc:w'.cell? ⟨p,3,none⟩=some (.int .i64 ((X.bs.length-t.length:Nat):Int))):TxtEnd w S p X V (.returned (.tuple #[.agg (valC 4 0 (mkB x)),.int .i64 0])) w':=by
 subst hV;exact ⟨hk,rfl,ht,hc⟩
theorem esc_len (X:Src) (out:List UInt8) (k:Nat) (o2:List UInt8) (k2:Nat) (h:zb1 X out k=some (o2,k2)):o2.length<=out.length+1/\k<k2:=by
 unfold zb1 at h
 rw [Option.map_eq_some_iff] at h
 obtain ⟨⟨x,j⟩,hx,he⟩:=h
 simp only [Prod.mk.injEq] at he
 obtain ⟨rfl,rfl⟩:=he
 have:x.length<=1/\1<=j:=by
  cases hd:X.bs.drop k with
  | nil=>rw [hd] at hx;simp [escV] at hx
  | cons c t =>
   rw [hd] at hx
   rcases esc_idx c with ⟨-,n1,n2,n3,n4,n5⟩|rfl|rfl|rfl|rfl|rfl
   ·rw [zgo _ _ _ n1 n2 n3 n4 n5] at hx
    split at hx
    ·rw [octV_go,Option.map_map,Option.map_eq_some_iff] at hx
     obtain ⟨y,-,hy⟩:=hx
     simp only [Function.comp,Prod.mk.injEq] at hy
     obtain ⟨rfl,rfl⟩:=hy
     exact ⟨by simp,by omega⟩
    ·split at hx
     ·simp at hx;obtain ⟨rfl,rfl⟩:=hx;simp
     ·split at hx
      ·rw [Option.map_eq_some_iff] at hx
       obtain ⟨y,-,hy⟩:=hx
       simp only [Prod.mk.injEq] at hy
       obtain ⟨rfl,rfl⟩:=hy
       exact ⟨by simp,by omega⟩
      ·simp at hx;obtain ⟨rfl,rfl⟩:=hx;simp
   all_goals (simp [escV] at hx;obtain ⟨rfl,rfl⟩:=hx;simp)
 refine ⟨by rw [List.length_append];omega,by omega⟩
set_option maxHeartbeats 16000000 in
theorem text_any {w:World} {S:Nat->Prop} {p:Nat} {X:Src} {k:Nat} (h:ScQ w S p X [] k) (hk:1<=k) :
  Calls Tryz.prog 181 #[.pointer (some ⟨p,0,none⟩)] w (TxtEnd w S p X (za2 X.yo 1 [] (X.bs.drop k))):=by
 obtain ⟨V,hV⟩:∃V,V=za2 X.yo 1 [] (X.bs.drop k):=⟨_,rfl⟩
 rw [<-hV]
 obtain ⟨r,hr⟩:∃r,r=w.heap.size:=⟨_,rfl⟩
 have hsm:X.bs.length<=400000:=by obtain ⟨_,_,h⟩:=h;exact h.small
 have hSr:¬S r:=by obtain ⟨_,_,h⟩:=h;intro e;have:=(h.lt r e).2;omega
 have hle:k<=X.bs.length:=by obtain ⟨_,_,h⟩:=h;exact h.le
 have HBX:=ya (show (w.alloc (.cells #[.int .i64 0,.int .i64 0,.string ⟨#[]⟩,.slice none 0 0] 27)).heap[r]?=some (.cells #[.int .i64 0,.int .i64 0,.string ⟨#[]⟩,.slice none 0 0] 27 (0,0)) from zac _ hr)
 have HK0:=ya (show zae S w (w.alloc (.cells #[.int .i64 0,.int .i64 0,.string ⟨#[]⟩,.slice none 0 0] 27)) from (zae.refl S w).alloc _)
 have hq0:=h.keep (zag w (.cells #[.int .i64 0,.int .i64 0,.string ⟨#[]⟩,.slice none 0 0] 27))
 have HAT:=ya (show TxtAt (w.alloc (.cells #[.int .i64 0,.int .i64 0,.string ⟨#[]⟩,.slice none 0 0] 27)) S p X V 1 k [] _ from ⟨by omega,hk,by simp;omega,hle,zam.refl hq0,hV⟩)
 have HR:=ya hr
 have HRS:=ya hSr
 have HSP:=ya (show S p from (let ⟨_,_,h⟩:=h;h.own))
 have HRG:=ya (show w.heap.size<=r by omega)
 clear hV hr hSr h hk hq0
 go_enter Tryz.func181,Tryz.ntmps181
 go_wp2
 rw [<-HR.out]
 generalize w.alloc (.cells #[.int .i64 0,.int .i64 0,.string ⟨#[]⟩,.slice none 0 0] 27)=W0 at *
 refine zb0 0 (TxtI W0 S p X V r) rfl ?first ?pass
 case first =>
  intro hpass
  have HPASS:=ya hpass
  clear hpass
  go_wp2
  refine wp_label ?_
  rename_i K hK
  exact hK _ _ (HPASS.out _ _ _ ⟨1,k,[],_,_,_,_,_,_,_,_,_,_,_,_,_,_,_,_,_,_,_,_,_,_,_,_,_,_,_,_,_,_,_,_,_,_,_,_,_,_,_,_,_,_,_,_,_,_,_,_,_,_,_,_,_,_,_,_,_,rfl,HAT,rfl⟩)
 case pass =>
  rintro m a w' ⟨D,k,out,u5,u6,u7,u8,u9,u10,u11,u12,u13,u14,u15,u16,u17,u18,u19,u20,u21,u22,u23,u24,u25,u26,u27,u28,u29,u30,u31,u32,u33,u34,u35,u36,u37,u38,u39,u40,u41,u42,u43,u44,u45,u46,u47,u48,u49,u50,u51,u52,u53,u54,u55,u56,u57,u58,u59,u60,u61,hm,HA,rfl⟩
  obtain ⟨S1,hq1,hk1,hs1⟩:=HA.out.sc
  have hd1:=HA.out.d1
  have hd2:=HA.out.d2
  have ho:=HA.out.o
  have hkl:=HA.out.le
  have HV:=ya HA.out.v
  have HQ1:=ya hq1
  have HK1:=ya hk1
  have HS1:=ya hs1
  have HB1:=ya (hk1.obj HBX.out HRS.out)
  have HM:=ya hm
  have hP:=zcf hq1
  unfold zed u8C at hP
  clear hk1 hs1 hm HAT HA
  by_cases hkn:k<X.bs.length
  case neg =>
   rw [yg hkn] at hP
   have HP:=ya hP
   have HNONE:=ya (show V=none by rw [HV.out,zbP hkn];exact textV_nil _ _ _)
   have HO:=ya (fun q=>zc4 (hq1.drewN q))
   clear hP hq1 hkn
   go_wp2_with fail
   refine HP.out.mono ?_
   rintro e w1 ⟨rfl,q,rfl⟩
   go_wp2_with fail
   refine (HO.out q).mono ?_
   rintro e w2 ⟨rfl,rfl⟩
   have HB2:=ya (show (w'.drewN q).heap[r]?=_ from HB1.out)
   obtain ⟨⟨k0,k1,k2,k3⟩,f0,f1,f2,f3⟩:=zaj HB2.out
   have HK2:=ya (zae.trans HK0.out (zae.trans HK1.out ((zae.refl S1 w').drewN q) HS1.out) (fun _ h=>.inl h))
   generalize w'.drewN q=w2 at *
   have HB9:=HB2
   have HK9:=HK2
   obtain ⟨⟨k0,k1,k2,k3⟩,f0,f1,f2,f3⟩:=zaj HB9.out
   go_wp2
   simp only [Exit.jump]
   refine yh (zab rfl _ _ r 27 _ (0,0) _ rfl (set4 HB9.out _ _ _ _) Tryz.underlying27 rfl zau _ rfl) rfl ?_
   exact zgK HNONE.out (zaV HK9.out HRG.out _ _ _ _)
  case pos =>
   rw [yf hkn] at hP
   have hv:=HV.out
   rw [zaS hkn] at hv
   have HMV:=ya (fun q=>(let ⟨_,_,h1⟩:=hq1.drewN q;h1.move (k+1) (by omega) (by omega)))
   have HC3:=ya (fun q=>(let ⟨_,_,h1⟩:=hq1.drewN q;(And.intro h1.cells.2.2.2.1 (h1.free 3))))
   have HP:=ya hP
   obtain ⟨c,hc⟩:∃c,c=X.bs.getD k 0:=⟨_,rfl⟩
   rw [<-hc] at HP hv
   clear hP hc hq1
   by_cases h92:c=92
   ·subst h92
    rw [textV_esc] at hv
    have HVE:=ya hv
    clear hv
    go_wp2_with fail
    refine HP.out.mono ?_
    rintro e w1 ⟨rfl,q,rfl⟩
    obtain ⟨c3,f3⟩:=HC3.out q
    obtain ⟨S2,q2,k2,s2⟩:=HMV.out q
    have HQ2:=ya q2
    have HK2:=ya (zae.trans HK1.out (zae.trans ((zae.refl S1 w').drewN q) k2 (fun _ h=>.inl h)) HS1.out)
    have HS2:=ya (fun b (hb:S2 b)=>(s2 b hb).elim (HS1.out b) (fun h=>Or.inr (Nat.le_trans HK1.out.size h)))
    clear q2 k2 s2
    go_wp2_with fail
    rw [show ((k:Int)+1)=((k+1:Nat):Int) from rfl]
    generalize (w'.drewN q).setCell ⟨p,3,none⟩ (.int .i64 ((k+1:Nat):Int))=w2 at *
    clear c3 f3
    have HO:=ya (escape_any HQ2.out (by omega))
    go_wp2_with fail
    refine HO.out.mono ?_
    rintro e w3 hstep
    have HST:=ya hstep
    clear hstep
    cases hES:zb1 X out (k+1) with
    | none =>
     rw [hES] at HST
     obtain ⟨rfl,o2,k2,hn⟩:=HST.out
     have HN9:=ya (zam.trans HK2.out HS2.out hn)
     have HNONE:=ya (show V=none by
      unfold zb1 at hES
      rw [Option.map_eq_none_iff] at hES
      rw [HVE.out,hES])
     clear HST hn hES
     obtain ⟨S9,hq9,hk9,hs9⟩:=HN9.out
     have HQ9:=ya hq9
     have HB9:=ya (hk9.obj HBX.out HRS.out)
     have HK9:=ya (zae.trans HK0.out hk9 (fun _ h=>.inl h))
     have HOP:=ya (zc4 hq9)
     clear hq9 hk9 hs9
     go_wp2_with fail
     refine (HOP.out).mono ?_
     rintro e w9 ⟨rfl,rfl⟩
     obtain ⟨⟨k0,k1,k2,k3⟩,f0,f1,f2,f3⟩:=zaj HB9.out
     go_wp2
     simp only [Exit.jump]
     refine yh (zab rfl _ _ r 27 _ (0,0) _ rfl (set4 HB9.out _ _ _ _) Tryz.underlying27 rfl zau _ rfl) rfl ?_
     exact zgK HNONE.out (zaV HK9.out HRG.out _ _ _ _)
    | some ok =>
     obtain ⟨o2,k2⟩:=ok
     rw [hES] at HST
     obtain ⟨rfl,hn⟩:=HST.out
     have hel:=esc_len X out (k+1) o2 k2 hES
     have HN8:=ya (zam.trans HK2.out HS2.out hn)
     have hkl2:k2<=X.bs.length:=by obtain ⟨_,⟨_,_,h⟩,_⟩:=hn;exact h.le
     have HVV:=ya (show V=za2 X.yo D o2 (X.bs.drop k2) by
      unfold zb1 at hES
      rw [Option.map_eq_some_iff] at hES
      obtain ⟨⟨x,j⟩,e1,e2⟩:=hES
      simp only [Prod.mk.injEq] at e2
      obtain ⟨rfl,rfl⟩:=e2
      rw [HVE.out,e1]
      simp only
      rw [List.drop_drop])
     clear HST hn hES
     go_wp2
     go_step3
     exact ⟨rfl,X.bs.length-k2,by have:=HM.out;omega,D,k2,o2,_,_,_,_,_,_,_,_,_,_,_,_,_,_,_,_,_,_,_,_,_,_,_,_,_,_,_,_,_,_,_,_,_,_,_,_,_,_,_,_,_,_,_,_,_,_,_,_,_,_,_,_,_,_,_,_,_,rfl,ya ⟨by omega,by omega,by omega,hkl2,HN8.out,HVV.out⟩,rfl⟩
   have h92d:((c.toNat:Int)==92)=false:=by rw [ye];intro e;exact h92 (UInt8.toNat_inj.1 (Int.ofNat_inj.1 e))
   by_cases h13:c=13
   ·subst h13
    rw [textV_nl] at hv
    have HVE:=ya hv
    clear hv h92 h92d
    go_wp2_with fail
    refine HP.out.mono ?_
    rintro e w1 ⟨rfl,q,rfl⟩
    obtain ⟨c3,f3⟩:=HC3.out q
    obtain ⟨S2,q2,k2,s2⟩:=HMV.out q
    have HQ2:=ya q2
    have HK2:=ya (zae.trans HK1.out (zae.trans ((zae.refl S1 w').drewN q) k2 (fun _ h=>.inl h)) HS1.out)
    have HS2:=ya (fun b (hb:S2 b)=>(s2 b hb).elim (HS1.out b) (fun h=>Or.inr (Nat.le_trans HK1.out.size h)))
    clear q2 k2 s2
    go_wp2_with fail
    rw [show ((k:Int)+1)=((k+1:Nat):Int) from rfl]
    generalize (w'.drewN q).setCell ⟨p,3,none⟩ (.int .i64 ((k+1:Nat):Int))=w2 at *
    clear c3 f3
    have HO:=ya (line_any HQ2.out)
    go_wp2_with fail
    refine HO.out.mono ?_
    rintro e w3 hstep
    have HST:=ya hstep
    clear hstep
    cases hES:zfd X.yo (X.bs.drop (k+1)) with
    | none =>
     rw [hES] at HST
     obtain ⟨rfl,o2,k2,hn⟩:=HST.out
     have HN9:=ya (zam.trans HK2.out HS2.out hn)
     have HNONE:=ya (show V=none by rw [HVE.out,hES])
     clear HST hn hES
     obtain ⟨S9,hq9,hk9,hs9⟩:=HN9.out
     have HQ9:=ya hq9
     have HB9:=ya (hk9.obj HBX.out HRS.out)
     have HK9:=ya (zae.trans HK0.out hk9 (fun _ h=>.inl h))
     have HOP:=ya (zc4 hq9)
     clear hq9 hk9 hs9
     go_wp2_with fail
     refine (HOP.out).mono ?_
     rintro e w9 ⟨rfl,rfl⟩
     obtain ⟨⟨k0,k1,k2,k3⟩,f0,f1,f2,f3⟩:=zaj HB9.out
     go_wp2
     simp only [Exit.jump]
     refine yh (zab rfl _ _ r 27 _ (0,0) _ rfl (set4 HB9.out _ _ _ _) Tryz.underlying27 rfl zau _ rfl) rfl ?_
     exact zgK HNONE.out (zaV HK9.out HRG.out _ _ _ _)
    | some j =>
     rw [hES] at HST
     obtain ⟨rfl,hn⟩:=HST.out
     have HN9:=ya (zam.trans HK2.out HS2.out hn)
     have hkl2:k+1+j<=X.bs.length:=by obtain ⟨_,⟨_,_,h⟩,_⟩:=hn;exact h.le
     have HVV:=ya (show V=za2 X.yo D (out++[10]) (X.bs.drop (k+1+j)) by
      rw [HVE.out,hES]
      simp only
      rw [List.drop_drop])
     have hD0:((D:Int)==0)=false:=by rw [ye];omega
     clear HST hn hES
     obtain ⟨S9,hq9,hk9,hs9⟩:=HN9.out
     have HK9:=ya hk9
     have HS9:=ya hs9
     have HWB:=ya (zaG hq9 10 10 rfl (by omega))
     clear hq9 hk9 hs9
     go_wp2_with fail
     refine HWB.out.mono ?_
     rintro e w8 ⟨rfl,hn8⟩
     have HN8:=ya (zam.trans HK9.out HS9.out hn8)
     clear hn8
     go_wp2
     go_step3
     exact ⟨rfl,X.bs.length-(k+1+j),by have:=HM.out;omega,D,(k+1+j),(out++[10]),_,_,_,_,_,_,_,_,_,_,_,_,_,_,_,_,_,_,_,_,_,_,_,_,_,_,_,_,_,_,_,_,_,_,_,_,_,_,_,_,_,_,_,_,_,_,_,_,_,_,_,_,_,_,_,_,_,rfl,ya ⟨by omega,by omega,by simp;omega,by omega,HN8.out,HVV.out⟩,rfl⟩
   have h13d:((c.toNat:Int)==13)=false:=by rw [ye];intro e;exact h13 (UInt8.toNat_inj.1 (Int.ofNat_inj.1 e))
   by_cases h40:c=40
   ·subst h40
    rw [textV_in] at hv
    have HVV:=ya hv
    have hD0:((D:Int)+1==0)=false:=by rw [ye];omega
    clear hv h92 h92d h13 h13d
    go_wp2_with fail
    refine HP.out.mono ?_
    rintro e w1 ⟨rfl,q,rfl⟩
    obtain ⟨c3,f3⟩:=HC3.out q
    obtain ⟨S2,q2,k2,s2⟩:=HMV.out q
    have HQ2:=ya q2
    have HK2:=ya (zae.trans HK1.out (zae.trans ((zae.refl S1 w').drewN q) k2 (fun _ h=>.inl h)) HS1.out)
    have HS2:=ya (fun b (hb:S2 b)=>(s2 b hb).elim (HS1.out b) (fun h=>Or.inr (Nat.le_trans HK1.out.size h)))
    clear q2 k2 s2
    go_wp2_with fail
    rw [show ((k:Int)+1)=((k+1:Nat):Int) from rfl]
    generalize (w'.drewN q).setCell ⟨p,3,none⟩ (.int .i64 ((k+1:Nat):Int))=w2 at *
    clear c3 f3
    have HN9:=ya (zam.trans HK2.out HS2.out (zam.refl HQ2.out))
    obtain ⟨S9,hq9,hk9,hs9⟩:=HN9.out
    have HK9:=ya hk9
    have HS9:=ya hs9
    have HWB:=ya (zaG hq9 40 40 rfl (by omega))
    clear hq9 hk9 hs9
    go_wp2_with fail
    refine HWB.out.mono ?_
    rintro e w8 ⟨rfl,hn8⟩
    have HN8:=ya (zam.trans HK9.out HS9.out hn8)
    clear hn8
    go_wp2
    go_step3
    exact ⟨rfl,X.bs.length-(k+1),by have:=HM.out;omega,(D+1),(k+1),(out++[40]),_,_,_,_,_,_,_,_,_,_,_,_,_,_,_,_,_,_,_,_,_,_,_,_,_,_,_,_,_,_,_,_,_,_,_,_,_,_,_,_,_,_,_,_,_,_,_,_,_,_,_,_,_,_,_,_,_,rfl,ya ⟨by omega,by omega,by simp;omega,by omega,HN8.out,HVV.out⟩,rfl⟩
   have h40d:((c.toNat:Int)==40)=false:=by rw [ye];intro e;exact h40 (UInt8.toNat_inj.1 (Int.ofNat_inj.1 e))
   by_cases h41:c=41
   ·subst h41
    rw [textV_out] at hv
    clear h92 h92d h13 h13d h40 h40d
    by_cases hD:D=1
    ·subst hD
     rw [yf rfl] at hv
     have HVV:=ya hv
     clear hv
     go_wp2_with fail
     refine HP.out.mono ?_
     rintro e w1 ⟨rfl,q,rfl⟩
     obtain ⟨c3,f3⟩:=HC3.out q
     obtain ⟨S2,q2,k2,s2⟩:=HMV.out q
     have HQ2:=ya q2
     have HK2:=ya (zae.trans HK1.out (zae.trans ((zae.refl S1 w').drewN q) k2 (fun _ h=>.inl h)) HS1.out)
     have HS2:=ya (fun b (hb:S2 b)=>(s2 b hb).elim (HS1.out b) (fun h=>Or.inr (Nat.le_trans HK1.out.size h)))
     clear q2 k2 s2
     go_wp2_with fail
     rw [show ((k:Int)+1)=((k+1:Nat):Int) from rfl]
     generalize (w'.drewN q).setCell ⟨p,3,none⟩ (.int .i64 ((k+1:Nat):Int))=w2 at *
     clear c3 f3
     have HO:=ya (zdG HQ2.out)
     have HB2:=ya (HK2.out.obj HBX.out HRS.out)
     go_wp2_with fail
     refine HO.out.mono ?_
     rintro e w3 ⟨rfl,hk3,hp3⟩
     have HRS2:=ya (show ¬S2 r from fun e=>(HS2.out r e).elim HRS.out (fun h=>by have:=(Array.getElem?_eq_some_iff.1 HBX.out).1;omega))
     have HB9:=ya (hk3.obj HB2.out HRS2.out)
     have HK9:=ya (zae.trans HK0.out (zae.trans HK2.out hk3 HS2.out) (fun _ h=>.inl h))
     have HP3:=ya hp3
     clear hk3 hp3
     obtain ⟨⟨k0,k1,k2,k3⟩,f0,f1,f2,f3⟩:=zaj HB9.out
     go_wp2
     simp only [Exit.jump]
     refine yh (zab rfl _ _ r 27 _ (0,0) _ rfl (set4 HB9.out _ _ _ _) Tryz.underlying27 rfl zau _ rfl) rfl ?_
     obtain ⟨ad9,v9,hsc⟩:=HQ2.out
     have hpr:p≠r:=fun e=>HRS.out (e▸HSP.out)
     refine txt_some HVV.out (zaV HK9.out HRG.out _ _ _ _) (by rw [yj];omega) ?_
     rw [cell_of_row _ p 3 (scV X ad9 v9 (k+1)) 240 (0,0) ((zbg hpr _ _ _ _).trans (HP3.out.trans hsc.blk)),yj,show X.bs.length-(X.bs.length-(k+1))=k+1 from by omega]
     rfl
    ·rw [yg hD] at hv
     have HVV:=ya hv
     obtain ⟨E,rfl⟩:∃E,D=E+1:=⟨D-1,by omega⟩
     have hD0:((E:Int)==0)=false:=by rw [ye];omega
     have hE1:1<=E:=by omega
     clear hv hD
     go_wp2_with fail
     refine HP.out.mono ?_
     rintro e w1 ⟨rfl,q,rfl⟩
     obtain ⟨c3,f3⟩:=HC3.out q
     obtain ⟨S2,q2,k2,s2⟩:=HMV.out q
     have HQ2:=ya q2
     have HK2:=ya (zae.trans HK1.out (zae.trans ((zae.refl S1 w').drewN q) k2 (fun _ h=>.inl h)) HS1.out)
     have HS2:=ya (fun b (hb:S2 b)=>(s2 b hb).elim (HS1.out b) (fun h=>Or.inr (Nat.le_trans HK1.out.size h)))
     clear q2 k2 s2
     go_wp2_with fail
     rw [show ((k:Int)+1)=((k+1:Nat):Int) from rfl]
     generalize (w'.drewN q).setCell ⟨p,3,none⟩ (.int .i64 ((k+1:Nat):Int))=w2 at *
     clear c3 f3
     have HN9:=ya (zam.trans HK2.out HS2.out (zam.refl HQ2.out))
     obtain ⟨S9,hq9,hk9,hs9⟩:=HN9.out
     have HK9:=ya hk9
     have HS9:=ya hs9
     have HWB:=ya (zaG hq9 41 41 rfl (by omega))
     clear hq9 hk9 hs9
     go_wp2_with fail
     refine HWB.out.mono ?_
     rintro e w8 ⟨rfl,hn8⟩
     have HN8:=ya (zam.trans HK9.out HS9.out hn8)
     clear hn8
     go_wp2
     go_step3
     exact ⟨rfl,X.bs.length-(k+1),by have:=HM.out;omega,E,(k+1),(out++[41]),_,_,_,_,_,_,_,_,_,_,_,_,_,_,_,_,_,_,_,_,_,_,_,_,_,_,_,_,_,_,_,_,_,_,_,_,_,_,_,_,_,_,_,_,_,_,_,_,_,_,_,_,_,_,_,_,_,rfl,ya ⟨by omega,by omega,by simp;omega,by omega,HN8.out,HVV.out⟩,rfl⟩
   have h41d:((c.toNat:Int)==41)=false:=by rw [ye];intro e;exact h41 (UInt8.toNat_inj.1 (Int.ofNat_inj.1 e))
   rw [textV_byte _ _ _ _ _ h92 h13 h40 h41] at hv
   have HVV:=ya hv
   have hD0:((D:Int)==0)=false:=by rw [ye];omega
   clear hv h92 h13 h40 h41
   go_wp2_with fail
   refine HP.out.mono ?_
   rintro e w1 ⟨rfl,q,rfl⟩
   obtain ⟨c3,f3⟩:=HC3.out q
   obtain ⟨S2,q2,k2,s2⟩:=HMV.out q
   have HQ2:=ya q2
   have HK2:=ya (zae.trans HK1.out (zae.trans ((zae.refl S1 w').drewN q) k2 (fun _ h=>.inl h)) HS1.out)
   have HS2:=ya (fun b (hb:S2 b)=>(s2 b hb).elim (HS1.out b) (fun h=>Or.inr (Nat.le_trans HK1.out.size h)))
   clear q2 k2 s2
   go_wp2_with fail
   rw [show ((k:Int)+1)=((k+1:Nat):Int) from rfl]
   generalize (w'.drewN q).setCell ⟨p,3,none⟩ (.int .i64 ((k+1:Nat):Int))=w2 at *
   clear c3 f3
   have HN9:=ya (zam.trans HK2.out HS2.out (zam.refl HQ2.out))
   obtain ⟨S9,hq9,hk9,hs9⟩:=HN9.out
   have HK9:=ya hk9
   have HS9:=ya hs9
   have HWB:=ya (zaG hq9 c _ rfl (by omega))
   clear hq9 hk9 hs9
   go_wp2_with fail
   refine HWB.out.mono ?_
   rintro e w8 ⟨rfl,hn8⟩
   have HN8:=ya (zam.trans HK9.out HS9.out hn8)
   clear hn8
   go_wp2
   go_step3
   exact ⟨rfl,X.bs.length-(k+1),by have:=HM.out;omega,D,(k+1),(out++[c]),_,_,_,_,_,_,_,_,_,_,_,_,_,_,_,_,_,_,_,_,_,_,_,_,_,_,_,_,_,_,_,_,_,_,_,_,_,_,_,_,_,_,_,_,_,_,_,_,_,_,_,_,_,_,_,_,_,rfl,ya ⟨by omega,by omega,by simp;omega,by omega,HN8.out,HVV.out⟩,rfl⟩
def HexEnd (w:World) (S:Nat->Prop) (p:Nat) (X:Src) (V:Int×List UInt8×List UInt8) (e:Ending) (w':World):Prop :=
 zae S w w'/\((V.1=1/\e=.returned (.tuple #[.agg (valC 0 0 zbv),.int .i64 (zbt X.yo)]))\/(V.1=11/\e=.returned (.tuple #[.agg (valC 0 0 zbv),.int .i64 11])) \/
  (V.1=0/\e=.returned (.tuple #[.agg (valC 4 0 (mkB V.2.1)),.int .i64 0])/\V.2.2.length<=X.bs.length/\w'.cell? ⟨p,3,none⟩=some (.int .i64 ((X.bs.length-V.2.2.length:Nat):Int))))
theorem hex_some {w w':World} {S:Nat->Prop} {p:Nat} {X:Src} {V:Int×List UInt8×List UInt8} {x t:List UInt8} (hV:V=(0,x,t)) (hk:zae S w w') (ht:t.length<=X.bs.length)
  (hc:w'.cell? ⟨p,3,none⟩=some (.int .i64 ((X.bs.length-t.length:Nat):Int))):HexEnd w S p X V (.returned (.tuple #[.agg (valC 4 0 (mkB x)),.int .i64 0])) w':=by
 subst hV;exact ⟨hk,.inr (.inr ⟨rfl,rfl,ht,hc⟩)⟩
theorem hex_open {w w':World} {S:Nat->Prop} {p:Nat} {X:Src} {V:Int×List UInt8×List UInt8} (hV:V=(1,[],[])) (hk:zae S w w'):HexEnd w S p X V (.returned (.tuple #[.agg (valC 0 0 zbv),.int .i64 (zbt X.yo)])) w':=by
 subst hV;exact ⟨hk,.inl ⟨rfl,rfl⟩⟩
theorem hex_form {w w':World} {S:Nat->Prop} {p:Nat} {X:Src} {V:Int×List UInt8×List UInt8} (hV:V=(11,[],[])) (hk:zae S w w'):HexEnd w S p X V (.returned (.tuple #[.agg (valC 0 0 zbv),.int .i64 11])) w':=by
 subst hV;exact ⟨hk,.inr (.inl ⟨rfl,rfl⟩)⟩
structure HexAt (W0:World) (S:Nat->Prop) (p:Nat) (X:Src) (V:Int×List UInt8×List UInt8) (hf:Int) (k:Nat) (out:List UInt8) (w':World):Prop where
 h1:-1<=hf/\hf<=15
 o:out.length<k
 le:k<=X.bs.length
 sc:zam W0 S p X out k w'
 v:V=hexV out hf (X.bs.drop k)
def HexI (W0:World) (S:Nat->Prop) (p:Nat) (X:Src) (V:Int×List UInt8×List UInt8) (r:Nat) (m:Nat) (a:Act) (w':World):Prop :=
 ∃(hf:Int) (k:Nat) (out:List UInt8) (u5 u6 u7 u8 u9 u10 u11 u12 u13 u14 u15 u16 u17 u18 u19 u20 u21 u22 u23 u24 u25 u26 u27 u28 u29 u30 u31 u32 u33 u34 u35 u36 u37 u38 u39 u40 u41 u42 u43 u44 u45 u46 u47 u48 u49 u50 u51 u52 u53 u54 u55 u56 u57 u58 u59 u60 u61 u62 u63 u64 u65 u66 u67 u68 u69 u70 u71 u72 u73:Value),m=X.bs.length-k/\Hid (HexAt W0 S p X V hf k out w')/\a={ tmps:=#[.pointer (some ⟨p,0,none⟩),undef,.pointer (some ⟨r,0,none⟩),.int .i64 0,.int .i64 hf,u5,u6,u7,u8,u9,u10,u11,u12,u13,u14,u15,u16,u17,u18,u19,u20,u21,u22,u23,u24,u25,u26,u27,u28,u29,u30,u31,u32,u33,u34,u35,u36,u37,u38,u39,u40,u41,u42,u43,u44,u45,u46,u47,u48,u49,u50,u51,u52,u53,u54,u55,u56,u57,u58,u59,u60,u61,u62,u63,u64,u65,u66,u67,u68,u69,u70,u71,u72,u73],defers:=[] }
theorem byte_of (x:Int) (h0:0<=x) (h1:x<=255):x=((UInt8.ofNat x.toNat).toNat:Int):=by rw [UInt8.toNat_ofNat'];omega
set_option maxHeartbeats 16000000 in
theorem hexes_any {w:World} {S:Nat->Prop} {p:Nat} {X:Src} {k:Nat} (h:ScQ w S p X [] k) (hk:1<=k) :
  Calls Tryz.prog 201 #[.pointer (some ⟨p,0,none⟩)] w (HexEnd w S p X (hexV [] (-1) (X.bs.drop k))):=by
 obtain ⟨V,hV⟩:∃V,V=hexV [] (-1) (X.bs.drop k):=⟨_,rfl⟩
 rw [<-hV]
 obtain ⟨r,hr⟩:∃r,r=w.heap.size:=⟨_,rfl⟩
 have hsm:X.bs.length<=400000:=by obtain ⟨_,_,h⟩:=h;exact h.small
 have hSr:¬S r:=by obtain ⟨_,_,h⟩:=h;intro e;have:=(h.lt r e).2;omega
 have hle:k<=X.bs.length:=by obtain ⟨_,_,h⟩:=h;exact h.le
 have HBX:=ya (show (w.alloc (.cells #[.int .i64 0,.int .i64 0,.string ⟨#[]⟩,.slice none 0 0] 27)).heap[r]?=some (.cells #[.int .i64 0,.int .i64 0,.string ⟨#[]⟩,.slice none 0 0] 27 (0,0)) from zac _ hr)
 have HK0:=ya (show zae S w (w.alloc (.cells #[.int .i64 0,.int .i64 0,.string ⟨#[]⟩,.slice none 0 0] 27)) from (zae.refl S w).alloc _)
 have hq0:=h.keep (zag w (.cells #[.int .i64 0,.int .i64 0,.string ⟨#[]⟩,.slice none 0 0] 27))
 have HAT:=ya (show HexAt (w.alloc (.cells #[.int .i64 0,.int .i64 0,.string ⟨#[]⟩,.slice none 0 0] 27)) S p X V (-1) k [] _ from ⟨by omega,by simp;omega,hle,zam.refl hq0,hV⟩)
 have HR:=ya hr
 have HRS:=ya hSr
 have HSP:=ya (show S p from (let ⟨_,_,h⟩:=h;h.own))
 have HRG:=ya (show w.heap.size<=r by omega)
 clear hV hr hSr h hk hq0
 go_enter Tryz.func201,Tryz.ntmps201
 go_wp2
 rw [<-HR.out]
 generalize w.alloc (.cells #[.int .i64 0,.int .i64 0,.string ⟨#[]⟩,.slice none 0 0] 27)=W0 at *
 refine zb0 0 (HexI W0 S p X V r) rfl ?first ?pass
 case first =>
  intro hpass
  have HPASS:=ya hpass
  clear hpass
  go_wp2
  refine wp_label ?_
  rename_i K hK
  exact hK _ _ (HPASS.out _ _ _ ⟨-1,k,[],_,_,_,_,_,_,_,_,_,_,_,_,_,_,_,_,_,_,_,_,_,_,_,_,_,_,_,_,_,_,_,_,_,_,_,_,_,_,_,_,_,_,_,_,_,_,_,_,_,_,_,_,_,_,_,_,_,_,_,_,_,_,_,_,_,_,_,_,_,rfl,HAT,rfl⟩)
 case pass =>
  rintro m a w' ⟨hf,k,out,u5,u6,u7,u8,u9,u10,u11,u12,u13,u14,u15,u16,u17,u18,u19,u20,u21,u22,u23,u24,u25,u26,u27,u28,u29,u30,u31,u32,u33,u34,u35,u36,u37,u38,u39,u40,u41,u42,u43,u44,u45,u46,u47,u48,u49,u50,u51,u52,u53,u54,u55,u56,u57,u58,u59,u60,u61,u62,u63,u64,u65,u66,u67,u68,u69,u70,u71,u72,u73,hm,HA,rfl⟩
  obtain ⟨S1,hq1,hk1,hs1⟩:=HA.out.sc
  obtain ⟨hf0,hf1⟩:=HA.out.h1
  have ho:=HA.out.o
  have hkl:=HA.out.le
  have HV:=ya HA.out.v
  have HQ1:=ya hq1
  have HK1:=ya hk1
  have HS1:=ya hs1
  have HB1:=ya (hk1.obj HBX.out HRS.out)
  have HM:=ya hm
  have hP:=zcf hq1
  unfold zed u8C at hP
  clear hk1 hs1 hm HAT HA
  by_cases hkn:k<X.bs.length
  case neg =>
   rw [yg hkn] at hP
   have HP:=ya hP
   have HNONE:=ya (show V=(1,[],[]) by rw [HV.out,zbP hkn];rfl)
   have HO:=ya (fun q=>zc4 (hq1.drewN q))
   clear hP hq1 hkn
   go_wp2_with fail
   refine HP.out.mono ?_
   rintro e w1 ⟨rfl,q,rfl⟩
   go_wp2_with fail
   refine (HO.out q).mono ?_
   rintro e w2 ⟨rfl,rfl⟩
   have HB9:=ya (show (w'.drewN q).heap[r]?=_ from HB1.out)
   have HK9:=ya (zae.trans HK0.out (zae.trans HK1.out ((zae.refl S1 w').drewN q) HS1.out) (fun _ h=>.inl h))
   generalize w'.drewN q=w2 at *
   obtain ⟨⟨k0,k1,k2,k3⟩,f0,f1,f2,f3⟩:=zaj HB9.out
   go_wp2
   simp only [Exit.jump]
   refine yh (zab rfl _ _ r 27 _ (0,0) _ rfl (set4 HB9.out _ _ _ _) Tryz.underlying27 rfl zau _ rfl) rfl ?_
   exact hex_open HNONE.out (zaV HK9.out HRG.out _ _ _ _)
  case pos =>
   rw [yf hkn] at hP
   have hv:=HV.out
   rw [zaS hkn,hexV] at hv
   have HMV:=ya (fun q=>(let ⟨_,_,h1⟩:=hq1.drewN q;h1.move (k+1) (by omega) (by omega)))
   have HC3:=ya (fun q=>(let ⟨_,_,h1⟩:=hq1.drewN q;(And.intro h1.cells.2.2.2.1 (h1.free 3))))
   have HP:=ya hP
   obtain ⟨c,hc⟩:∃c,c=X.bs.getD k 0:=⟨_,rfl⟩
   rw [<-hc] at HP hv
   have HHX:=ya (fun W=>hex_any c W)
   have hsp:=fun W=>zc0 c.toNat W
   rw [<-spI_eq] at hsp
   have hdb:=hexD_bd c
   clear hP hc hq1
   by_cases h62:c=62
   ·subst h62
    rw [yf rfl] at hv
    rw [show hexD 62=-1 from rfl] at HHX
    clear hsp hdb
    by_cases hh:0<=hf
    ·rw [yf hh] at hv
     have HVV:=ya hv
     have HBY:=ya (byte_of (16*hf) (by omega) (by omega))
     clear hv
     go_wp2_with fail
     refine HP.out.mono ?_
     rintro e w1 ⟨rfl,q,rfl⟩
     obtain ⟨c3,f3⟩:=HC3.out q
     obtain ⟨S2,q2,k2,s2⟩:=HMV.out q
     have HQ2:=ya q2
     have HK2:=ya (zae.trans HK1.out (zae.trans ((zae.refl S1 w').drewN q) k2 (fun _ h=>.inl h)) HS1.out)
     have HS2:=ya (fun b (hb:S2 b)=>(s2 b hb).elim (HS1.out b) (fun h=>Or.inr (Nat.le_trans HK1.out.size h)))
     have HB2:=ya (HK2.out.obj HBX.out HRS.out)
     clear q2 k2 s2
     go_wp2_with fail
     rw [show ((k:Int)+1)=((k+1:Nat):Int) from rfl]
     generalize (w'.drewN q).setCell ⟨p,3,none⟩ (.int .i64 ((k+1:Nat):Int))=w2 at *
     clear c3 f3
     refine (HHX.out _).mono ?_
     rintro e w3 ⟨rfl,rfl⟩
     have HWB:=ya (zaG HQ2.out (UInt8.ofNat (16*hf).toNat) (16*hf) HBY.out (by omega))
     go_wp2_with fail
     refine HWB.out.mono ?_
     rintro e w4 ⟨rfl,hn8⟩
     obtain ⟨S4,q4,k4,s4⟩:=hn8
     have HQ4:=ya q4
     have HK4:=ya (zae.trans HK2.out k4 HS2.out)
     have HS4:=ya (fun b (hb:S4 b)=>(s4 b hb).elim (HS2.out b) (fun h=>Or.inr (Nat.le_trans HK2.out.size h)))
     have HB4:=ya (HK4.out.obj HBX.out HRS.out)
     clear q4 k4 s4
     have HO:=ya (zdG HQ4.out)
     go_wp2_with fail
     refine HO.out.mono ?_
     rintro e w5 ⟨rfl,hk3,hp3⟩
     have HRS2:=ya (show ¬S4 r from fun e=>(HS4.out r e).elim HRS.out (fun h=>by have:=(Array.getElem?_eq_some_iff.1 HBX.out).1;omega))
     have HB9:=ya (hk3.obj HB4.out HRS2.out)
     have HK9:=ya (zae.trans HK0.out (zae.trans HK4.out hk3 HS4.out) (fun _ h=>.inl h))
     have HP3:=ya hp3
     clear hk3 hp3
     obtain ⟨⟨k0,k1,k2,k3⟩,f0,f1,f2,f3⟩:=zaj HB9.out
     go_wp2
     simp only [Exit.jump]
     refine yh (zab rfl _ _ r 27 _ (0,0) _ rfl (set4 HB9.out _ _ _ _) Tryz.underlying27 rfl zau _ rfl) rfl ?_
     obtain ⟨ad9,v9,hsc⟩:=HQ4.out
     have hpr:p≠r:=fun e=>HRS.out (e▸HSP.out)
     refine hex_some HVV.out (zaV HK9.out HRG.out _ _ _ _) (by rw [yj];omega) ?_
     rw [cell_of_row _ p 3 (scV X ad9 v9 (k+1)) 240 (0,0) ((zbg hpr _ _ _ _).trans (HP3.out.trans hsc.blk)),yj,show X.bs.length-(X.bs.length-(k+1))=k+1 from by omega]
     rfl
    ·rw [yg hh] at hv
     have HVV:=ya hv
     have hhd:decide (0<=hf)=false:=by simpa using hh
     clear hv hh
     go_wp2_with fail
     refine HP.out.mono ?_
     rintro e w1 ⟨rfl,q,rfl⟩
     obtain ⟨c3,f3⟩:=HC3.out q
     obtain ⟨S2,q2,k2,s2⟩:=HMV.out q
     have HQ2:=ya q2
     have HK2:=ya (zae.trans HK1.out (zae.trans ((zae.refl S1 w').drewN q) k2 (fun _ h=>.inl h)) HS1.out)
     have HS2:=ya (fun b (hb:S2 b)=>(s2 b hb).elim (HS1.out b) (fun h=>Or.inr (Nat.le_trans HK1.out.size h)))
     have HB2:=ya (HK2.out.obj HBX.out HRS.out)
     clear q2 k2 s2
     go_wp2_with fail
     rw [show ((k:Int)+1)=((k+1:Nat):Int) from rfl]
     generalize (w'.drewN q).setCell ⟨p,3,none⟩ (.int .i64 ((k+1:Nat):Int))=w2 at *
     clear c3 f3
     refine (HHX.out _).mono ?_
     rintro e w3 ⟨rfl,rfl⟩
     have HO:=ya (zdG HQ2.out)
     go_wp2_with fail
     refine HO.out.mono ?_
     rintro e w5 ⟨rfl,hk3,hp3⟩
     have HRS2:=ya (show ¬S2 r from fun e=>(HS2.out r e).elim HRS.out (fun h=>by have:=(Array.getElem?_eq_some_iff.1 HBX.out).1;omega))
     have HB9:=ya (hk3.obj HB2.out HRS2.out)
     have HK9:=ya (zae.trans HK0.out (zae.trans HK2.out hk3 HS2.out) (fun _ h=>.inl h))
     have HP3:=ya hp3
     clear hk3 hp3
     obtain ⟨⟨k0,k1,k2,k3⟩,f0,f1,f2,f3⟩:=zaj HB9.out
     go_wp2
     simp only [Exit.jump]
     refine yh (zab rfl _ _ r 27 _ (0,0) _ rfl (set4 HB9.out _ _ _ _) Tryz.underlying27 rfl zau _ rfl) rfl ?_
     obtain ⟨ad9,v9,hsc⟩:=HQ2.out
     have hpr:p≠r:=fun e=>HRS.out (e▸HSP.out)
     refine hex_some HVV.out (zaV HK9.out HRG.out _ _ _ _) (by rw [yj];omega) ?_
     rw [cell_of_row _ p 3 (scV X ad9 v9 (k+1)) 240 (0,0) ((zbg hpr _ _ _ _).trans (HP3.out.trans hsc.blk)),yj,show X.bs.length-(X.bs.length-(k+1))=k+1 from by omega]
     rfl
   have h62d:((c.toNat:Int)==62)=false:=by rw [ye];intro e;exact h62 (UInt8.toNat_inj.1 (Int.ofNat_inj.1 e))
   rw [yg h62] at hv
   clear h62
   obtain ⟨sp,hsp2⟩:∃sp,isSp c=sp:=⟨_,rfl⟩
   rw [hsp2] at hv hsp
   have HSP2:=ya hsp
   clear hsp hsp2
   generalize hexD c=d at *
   cases sp
   case true =>
    rw [yf rfl] at hv
    have HVV:=ya hv
    clear hv
    go_wp2_with fail
    refine HP.out.mono ?_
    rintro e w1 ⟨rfl,q,rfl⟩
    obtain ⟨c3,f3⟩:=HC3.out q
    obtain ⟨S2,q2,k2,s2⟩:=HMV.out q
    have HQ2:=ya q2
    have HK2:=ya (zae.trans HK1.out (zae.trans ((zae.refl S1 w').drewN q) k2 (fun _ h=>.inl h)) HS1.out)
    have HS2:=ya (fun b (hb:S2 b)=>(s2 b hb).elim (HS1.out b) (fun h=>Or.inr (Nat.le_trans HK1.out.size h)))
    have HB2:=ya (HK2.out.obj HBX.out HRS.out)
    clear q2 k2 s2
    go_wp2_with fail
    rw [show ((k:Int)+1)=((k+1:Nat):Int) from rfl]
    generalize (w'.drewN q).setCell ⟨p,3,none⟩ (.int .i64 ((k+1:Nat):Int))=w2 at *
    clear c3 f3
    refine (HHX.out _).mono ?_
    rintro e w3 ⟨rfl,rfl⟩
    have HN:=ya (show zam W0 S p X out (k+1) w2 from zam.trans HK2.out HS2.out (zam.refl HQ2.out))
    go_wp2_with fail
    refine (HSP2.out _).mono ?_
    rintro e w3 ⟨rfl,rfl⟩
    go_wp2
    go_step3
    exact ⟨rfl,X.bs.length-(k+1),by have:=HM.out;omega,hf,k+1,out,_,_,_,_,_,_,_,_,_,_,_,_,_,_,_,_,_,_,_,_,_,_,_,_,_,_,_,_,_,_,_,_,_,_,_,_,_,_,_,_,_,_,_,_,_,_,_,_,_,_,_,_,_,_,_,_,_,_,_,_,_,_,_,_,_,_,_,_,_,rfl,ya ⟨⟨hf0,hf1⟩,by first|omega|(simp;omega),by omega,HN.out,HVV.out⟩,rfl⟩
   rw [yg (by decide)] at hv
   by_cases hd0:d<0
   ·rw [yf hd0] at hv
    have HNONE:=ya hv
    clear hv
    go_wp2_with fail
    refine HP.out.mono ?_
    rintro e w1 ⟨rfl,q,rfl⟩
    obtain ⟨c3,f3⟩:=HC3.out q
    obtain ⟨S2,q2,k2,s2⟩:=HMV.out q
    have HQ2:=ya q2
    have HK2:=ya (zae.trans HK1.out (zae.trans ((zae.refl S1 w').drewN q) k2 (fun _ h=>.inl h)) HS1.out)
    have HS2:=ya (fun b (hb:S2 b)=>(s2 b hb).elim (HS1.out b) (fun h=>Or.inr (Nat.le_trans HK1.out.size h)))
    have HB2:=ya (HK2.out.obj HBX.out HRS.out)
    clear q2 k2 s2
    go_wp2_with fail
    rw [show ((k:Int)+1)=((k+1:Nat):Int) from rfl]
    generalize (w'.drewN q).setCell ⟨p,3,none⟩ (.int .i64 ((k+1:Nat):Int))=w2 at *
    clear c3 f3
    refine (HHX.out _).mono ?_
    rintro e w3 ⟨rfl,rfl⟩
    go_wp2_with fail
    refine (HSP2.out _).mono ?_
    rintro e w3 ⟨rfl,rfl⟩
    have HB9:=HB2
    have HK9:=ya (zae.trans HK0.out HK2.out (fun _ h=>.inl h))
    obtain ⟨⟨k0,k1,k2,k3⟩,f0,f1,f2,f3⟩:=zaj HB9.out
    go_wp2
    simp only [Exit.jump]
    refine yh (zab rfl _ _ r 27 _ (0,0) _ rfl (set4 HB9.out _ _ _ _) Tryz.underlying27 rfl zau _ rfl) rfl ?_
    exact hex_form HNONE.out (zaV HK9.out HRG.out _ _ _ _)
   rw [yg hd0] at hv
   have hd0d:decide (d<0)=false:=by simpa using hd0
   have hd1:0<=d:=by omega
   clear hd0
   by_cases hh:hf<0
   ·rw [yf hh] at hv
    have HVV:=ya hv
    clear hv
    go_wp2_with fail
    refine HP.out.mono ?_
    rintro e w1 ⟨rfl,q,rfl⟩
    obtain ⟨c3,f3⟩:=HC3.out q
    obtain ⟨S2,q2,k2,s2⟩:=HMV.out q
    have HQ2:=ya q2
    have HK2:=ya (zae.trans HK1.out (zae.trans ((zae.refl S1 w').drewN q) k2 (fun _ h=>.inl h)) HS1.out)
    have HS2:=ya (fun b (hb:S2 b)=>(s2 b hb).elim (HS1.out b) (fun h=>Or.inr (Nat.le_trans HK1.out.size h)))
    have HB2:=ya (HK2.out.obj HBX.out HRS.out)
    clear q2 k2 s2
    go_wp2_with fail
    rw [show ((k:Int)+1)=((k+1:Nat):Int) from rfl]
    generalize (w'.drewN q).setCell ⟨p,3,none⟩ (.int .i64 ((k+1:Nat):Int))=w2 at *
    clear c3 f3
    refine (HHX.out _).mono ?_
    rintro e w3 ⟨rfl,rfl⟩
    have HN:=ya (show zam W0 S p X out (k+1) w2 from zam.trans HK2.out HS2.out (zam.refl HQ2.out))
    go_wp2_with fail
    refine (HSP2.out _).mono ?_
    rintro e w3 ⟨rfl,rfl⟩
    go_wp2
    go_step3
    exact ⟨rfl,X.bs.length-(k+1),by have:=HM.out;omega,d,k+1,out,_,_,_,_,_,_,_,_,_,_,_,_,_,_,_,_,_,_,_,_,_,_,_,_,_,_,_,_,_,_,_,_,_,_,_,_,_,_,_,_,_,_,_,_,_,_,_,_,_,_,_,_,_,_,_,_,_,_,_,_,_,_,_,_,_,_,_,_,_,rfl,ya ⟨⟨by omega,hdb.2⟩,by first|omega|(simp;omega),by omega,HN.out,HVV.out⟩,rfl⟩
   ·rw [yg hh] at hv
    have HVV:=ya hv
    have hhd:decide (hf<0)=false:=by simpa using hh
    have hh1:0<=hf:=by omega
    have hdb2:=hdb.2
    have HBY:=ya (byte_of (16*hf+d) (by omega) (by omega))
    clear hv hh hdb
    go_wp2_with fail
    refine HP.out.mono ?_
    rintro e w1 ⟨rfl,q,rfl⟩
    obtain ⟨c3,f3⟩:=HC3.out q
    obtain ⟨S2,q2,k2,s2⟩:=HMV.out q
    have HQ2:=ya q2
    have HK2:=ya (zae.trans HK1.out (zae.trans ((zae.refl S1 w').drewN q) k2 (fun _ h=>.inl h)) HS1.out)
    have HS2:=ya (fun b (hb:S2 b)=>(s2 b hb).elim (HS1.out b) (fun h=>Or.inr (Nat.le_trans HK1.out.size h)))
    have HB2:=ya (HK2.out.obj HBX.out HRS.out)
    clear q2 k2 s2
    go_wp2_with fail
    rw [show ((k:Int)+1)=((k+1:Nat):Int) from rfl]
    generalize (w'.drewN q).setCell ⟨p,3,none⟩ (.int .i64 ((k+1:Nat):Int))=w2 at *
    clear c3 f3
    refine (HHX.out _).mono ?_
    rintro e w3 ⟨rfl,rfl⟩
    go_wp2_with fail
    refine (HSP2.out _).mono ?_
    rintro e w3 ⟨rfl,rfl⟩
    have HWB:=ya (zaG HQ2.out (UInt8.ofNat (16*hf+d).toNat) (16*hf+d) HBY.out (by omega))
    go_wp2_with fail
    refine HWB.out.mono ?_
    rintro e w4 ⟨rfl,hn8⟩
    obtain ⟨S4,q4,k4,s4⟩:=hn8
    have HQ4:=ya q4
    have HK4:=ya (zae.trans HK2.out k4 HS2.out)
    have HS4:=ya (fun b (hb:S4 b)=>(s4 b hb).elim (HS2.out b) (fun h=>Or.inr (Nat.le_trans HK2.out.size h)))
    have HB4:=ya (HK4.out.obj HBX.out HRS.out)
    clear q4 k4 s4
    have HN:=ya (show zam W0 S p X _ (k+1) w4 from zam.trans HK4.out HS4.out (zam.refl HQ4.out))
    go_wp2
    go_step3
    exact ⟨rfl,X.bs.length-(k+1),by have:=HM.out;omega,-1,k+1,_,_,_,_,_,_,_,_,_,_,_,_,_,_,_,_,_,_,_,_,_,_,_,_,_,_,_,_,_,_,_,_,_,_,_,_,_,_,_,_,_,_,_,_,_,_,_,_,_,_,_,_,_,_,_,_,_,_,_,_,_,_,_,_,_,_,_,_,_,_,rfl,ya ⟨by omega,by first|omega|(simp;omega),by omega,HN.out,HVV.out⟩,rfl⟩
def regs (l:List UInt8):List UInt8:=l.takeWhile isRg
def runN (l:List UInt8):Nat:=(regs l).length
theorem zge (l:List UInt8):runN l<=l.length:=by unfold runN regs;exact List.Sublist.length_le (List.takeWhile_sublist _)
theorem zgD {c:UInt8} (l:List UInt8) (h:isRg c=true):runN (c::l)=1+runN l:=by unfold runN regs;rw [List.takeWhile_cons_of_pos h];simp;omega
theorem runN_no {c:UInt8} (l:List UInt8) (h:isRg c=false):runN (c::l)=0:=by unfold runN regs;rw [List.takeWhile_cons_of_neg (by simp [h])];rfl
theorem regs_take (l:List UInt8):regs l=l.take (runN l):=by
 unfold runN regs
 induction l with
 | nil=>rfl
 | cons c l ih =>
  by_cases h:isRg c=true
  ·rw [List.takeWhile_cons_of_pos h,List.length_cons,List.take_succ_cons,<-ih]
  ·rw [List.takeWhile_cons_of_neg h];rfl
theorem regs_drop (l:List UInt8):l.dropWhile isRg=l.drop (runN l):=by
 unfold runN regs
 induction l with
 | nil=>rfl
 | cons c l ih =>
  by_cases h:isRg c=true
  ·rw [List.takeWhile_cons_of_pos h,List.length_cons,List.drop_succ_cons,<-ih,List.dropWhile_cons_of_pos h]
  ·rw [List.takeWhile_cons_of_neg h,List.dropWhile_cons_of_neg h];rfl
def zgd (w:World) (S:Nat->Prop) (p:Nat) (X:Src) (out:List UInt8) (k:Nat) (e:Ending) (w':World):Prop :=
 e=.returned (.tuple #[.string (mkB (regs (X.bs.drop k))),.bool (decide (k+runN (X.bs.drop k)<X.bs.length)||X.yo)])/\zam w S p X out (k+runN (X.bs.drop k)) w'
theorem zcB {w:World} {b off cap:Nat} {X:Src} (hc:∀j,j<X.bs.length->w.cell? ⟨b,off+j,none⟩=some (u8C (X.bs.getD j 0))) (k m:Nat) (hm:k+m<=X.bs.length) (W:World) (hW:Below w.heap.size w W) :
  (convert 22 9 (.slice (some ⟨b,off+k,none⟩) m cap)).run Tryz.prog W=.ok (.string (mkB ((X.bs.drop k).take m))) W:=by
 have hl:((X.bs.drop k).take m).length=m:=by rw [List.length_take,yj];omega
 have h:=run_convert_bytes_back (P:=Tryz.prog) W 22 9 5 ⟨b,off+k,none⟩ cap ((X.bs.drop k).take m) Tryz.underlying22 Tryz.underlying5 Tryz.underlying9 (fun j hj=>by
  rw [hl] at hj
  rw [Addr.add_lit,Nat.add_assoc]
  refine cell?_keep hW ((hc (k+j) (by omega)).trans ?_)
  congr 1
  unfold u8C
  simp [List.getD,show k+j<X.bs.length from by omega])
 rw [hl] at h
 exact h
theorem word_any {w:World} {S:Nat->Prop} {p:Nat} {X:Src} {out:List UInt8} {k:Nat} (h:ScQ w S p X out k) (hne:0<X.bs.length) :
  Calls Tryz.prog 182 #[.pointer (some ⟨p,0,none⟩)] w (zgd w S p X out k):=by
 have hsm:X.bs.length<=400000:=by obtain ⟨_,_,h⟩:=h;exact h.small
 have hle:k<=X.bs.length:=by obtain ⟨_,_,h⟩:=h;exact h.le
 have hcap:X.bs.length<=X.cap/\X.cap<=maxLen:=by obtain ⟨_,_,h⟩:=h;exact ⟨h.src.2.1,h.src.2.2.1⟩
 have hc3:w.cell? ⟨p,3,none⟩=some (.int .i64 k):=by obtain ⟨_,_,h⟩:=h;exact h.cells.2.2.2.1
 have HN:=ya (zam.refl h)
 obtain ⟨m,hm⟩:∃m,m=runN (X.bs.drop k):=⟨_,rfl⟩
 have hml:=zge (X.bs.drop k)
 rw [yj,<-hm] at hml
 have HM:=ya hm
 unfold zgd
 rw [regs_take,<-hm]
 obtain ⟨l,hl⟩:∃l,X.yo=l:=⟨_,rfl⟩
 rw [hl]
 have HLL:=ya hl
 obtain ⟨hc1,hc2⟩:=hcap
 have hc2':X.cap<=9223372036854775807:=by unfold maxLen at hc2;omega
 clear h hm hc2 hl
 go_enter Tryz.func182,Tryz.ntmps182
 go_wp2
 clear hc3
 go_loopg [] (X.bs.length-k) (fun g wr=>∃j:Nat,g=X.bs.length-j/\k<=j/\j<=k+m/\Hid (zam w S p X out j wr)/\Hid (k+m=j+runN (X.bs.drop j)))
 case atStart=>exact ⟨k,rfl,ym _,by omega,HN,ya (by rw [HM.out])⟩
 case round =>
  obtain ⟨j,hg,hkj,hjm,HS,HJ⟩:=hrel
  have HG:=ya hg
  obtain ⟨S1,hq1,hk1,hs1⟩:=HS.out
  obtain ⟨ad,v,h1⟩:=hq1
  obtain ⟨-,-,c2,c3,c4⟩:=h1.cells
  have f3:=h1.free 3
  obtain ⟨b,off,ha,_,hcc⟩:=h1.src.at 0 0 hne
  have hcc2:∀i,i<X.bs.length->wr.cell? ⟨b,off+i,none⟩=some (u8C (X.bs.getD i 0)):=hcc
  rw [ha] at c2
  have HCC:=ya hcc2
  have HK1:=ya hk1
  have HS1:=ya hs1
  have H1:=ya h1
  clear hk1 hs1 hg hcc hcc2 h1
  by_cases hj:j<X.bs.length
  ·have hcj:=HCC.out j hj
   have hv:=HJ.out
   rw [zaS hj] at hv
   have hjd:decide ((j:Int)<X.bs.length)=true:=by simp;omega
   have HMV:=ya (fun q=>(let h:=H1.out.keep (zad (Below.refl wr.heap.size wr) q);h.move (j+1) (by omega) (by omega)))
   have hrg:=fun W=>zeT (X.bs.getD j 0) W
   rw [<-rgI_eq] at hrg
   unfold u8C at hcj
   obtain ⟨c,hc⟩:∃c,c=X.bs.getD j 0:=⟨_,rfl⟩
   rw [<-hc] at hrg hcj hv
   obtain ⟨rg,hrg2⟩:∃rg,isRg c=rg:=⟨_,rfl⟩
   rw [hrg2] at hrg
   have HRG:=ya hrg
   have HR2:=ya hrg2
   have HV:=ya hv
   clear hrg hrg2 hv hc
   cases rg
   ·have hje:j=k+m:=by have:=HV.out;rw [runN_no _ HR2.out] at this;omega
    have HJE:=ya hje
    clear hje
    have hcv:∀nq,(convert 22 9 (.slice (some ⟨b,off+k,none⟩) (j-k) (X.cap-k))).run Tryz.prog (wr.drewN nq)=.ok (.string (mkB ((X.bs.drop k).take (j-k)))) (wr.drewN nq):=fun nq=>zcB HCC.out k (j-k) (by omega) _ (zad (Below.refl _ _) nq)
    have hcv0:∀nq,(convert 22 9 (.slice (some ⟨b,off,none⟩) 0 0)).run Tryz.prog (wr.drewN nq)=.ok (.string (mkB [])) (wr.drewN nq):=fun nq=>zcB HCC.out 0 0 (by omega) _ (zad (Below.refl _ _) nq)
    have HEND:=ya (fun q=>zam.trans HK1.out HS1.out (zam.drew q (zam.refl (⟨ad,v,H1.out.keep (zad (Below.refl _ _) q)⟩:ScQ (wr.drewN q) S1 p X out j))))
    rw [HLL.out] at c4
    go_wp2
    go_quiet ((go_at_call 177;exact (HRG.out _).mono fun _ _ ⟨he,hm⟩=>⟨he,_,hm.symm⟩))
    go_wp2
    have HDD:=ya (show decide (j<X.bs.length)=true from yb hj)
    have hck:¬X.cap=k:=by omega
    go_quiet (fail)
    go_wp2
    go_ret2
    exact ⟨by rw [show m=j-k from by have:=HJE.out;omega,show k+(j-k)=j from by omega,HDD.out];rfl,by rw [<-HJE.out];simpa using HEND.out _⟩
   ·go_wp2
    go_quiet ((go_at_call 177;exact (HRG.out _).mono fun _ _ ⟨he,hm⟩=>⟨he,_,hm.symm⟩))
    go_wp2
    go_roundg (X.bs.length-(j+1))
    case rel =>
     refine ⟨j+1,rfl,by omega,?_,ya (zam.trans HK1.out HS1.out (zam.drew _ (HMV.out _))),ya ?_⟩
     ·have:=HV.out;rw [zgD _ HR2.out] at this;omega
     ·have:=HV.out;rw [zgD _ HR2.out] at this;omega
    case measure=>have:=HG.out;omega
  ·have hje:j=X.bs.length:=by omega
   have HJE:=ya (show j=k+m by omega)
   have hjd:decide ((j:Int)<X.bs.length)=false:=yd (by omega)
   have hjd2:decide (j<X.bs.length)=false:=yd (by omega)
   have hcv:∀nq,(convert 22 9 (.slice (some ⟨b,off+k,none⟩) (j-k) (X.cap-k))).run Tryz.prog (wr.drewN nq)=.ok (.string (mkB ((X.bs.drop k).take (j-k)))) (wr.drewN nq):=fun nq=>zcB HCC.out k (j-k) (by omega) _ (zad (Below.refl _ _) nq)
   have hcv0:∀nq,(convert 22 9 (.slice (some ⟨b,off,none⟩) 0 0)).run Tryz.prog (wr.drewN nq)=.ok (.string (mkB [])) (wr.drewN nq):=fun nq=>zcB HCC.out 0 0 (by omega) _ (zad (Below.refl _ _) nq)
   have HEND:=ya (fun q=>zam.trans HK1.out HS1.out (zam.drew q (zam.refl (⟨ad,v,H1.out.keep (zad (Below.refl _ _) q)⟩:ScQ (wr.drewN q) S1 p X out j))))
   have HDD:=ya (show decide (j<X.bs.length)=false from yd (by omega))
   rw [HLL.out] at c4
   clear hje hj
   cases l
   all_goals
    go_wp2
    go_quiet (fail)
    go_wp2
    by_cases hck:X.cap=k
    ·have hjk:j=k:=by omega
     have HZ:=ya (show (X.bs.drop k).take m=[] by rw [show m=0 from by have:=HJE.out;omega];rfl)
     have hkd2:decide (k<X.bs.length)=false:=yd (by omega)
     go_quiet (fail)
     go_wp2
     go_ret2
     exact ⟨by rw [HZ.out,<-HJE.out,HDD.out];rfl,by rw [<-HJE.out];simpa using HEND.out _⟩
    ·go_quiet (fail)
     go_wp2
     go_ret2
     exact ⟨by rw [show m=j-k from by have:=HJE.out;omega,show k+(j-k)=j from by omega,HDD.out];rfl,by rw [<-HJE.out];simpa using HEND.out _⟩
theorem bytesOf_map (o:List UInt8):Lib.bytesOf (o.map fun b=>(b.toNat:Int))=o:=by
 unfold Lib.bytesOf
 rw [List.map_map]
 have:((fun n:Int=>UInt8.ofNat n.toNat) ∘ fun b:UInt8=>(b.toNat:Int))=id:=by funext b;simp
 rw [this,List.map_id]
set_option maxRecDepth 100000 in
theorem bidx_any {w:World} {base:Nat} {v:Value} {o:List UInt8} (hr:w.ownsRow base 5 1 v o.length (o.map u8C)) (cv:Int) :
  Calls Tryz.prog 206 #[v,.int .u8 cv] w fun e w'=>e=.returned (.int .i64 (Lib.indexByte o cv.toNat.toUInt8))/\w=w':=by
 have hX:(Extern.BytealgIndexByte.indexByte #[v,.int .u8 cv]).run Tryz.prog w=.ok (.int .i64 (Lib.indexByte o cv.toNat.toUInt8)) w:=by
  rcases hr.2 with ⟨rfl,h0⟩|⟨g,cap,cur,rfl,_⟩
  ·have ho:o=[]:=List.eq_nil_of_length_eq_zero h0
   subst ho
   exact Lib.run_indexByteNil _ _ _ cv
  ·have:=Lib.run_indexByteSlice (P:=Tryz.prog) (w:=w) g 0 o.length cap (o.map fun b=>(b.toNat:Int)) (by simp) (fun i hi=>by
    have:=hr.cells (g:=g) rfl i (u8C (o.getD i 0)) (by simp [List.getD,hi])
    rw [Addr.add_lit] at this
    rw [this];unfold u8C
    simp [List.getD,hi]) cv
   rw [bytesOf_map] at this
   exact this
 obtain ⟨a,cap,hv,-⟩:=Row.of_owns hr
 subst hv
 clear hr
 go_enter Tryz.func206,Tryz.ntmps206
 go_wp2
 rw [run_callFunc_extern Tryz.func228 (by kernel_rfl) (by kernel_rfl) (by kernel_rfl) (e:=Extern.BytealgIndexByte.indexByte) (by kernel_rfl),hX]
 simp only [Result.andThen]
 rw [Oper.upon_value]
 go_wp2
 go_ret
 exact ⟨rfl,rfl⟩
def finN:Option (List UInt8)->Option (List UInt8)
 | none=>none
 | some o=>if 127<o.length\/(0:UInt8)∈o then none else some o
theorem nameV_fin (l:List UInt8):zgM l=finN (zbT [] l):=by unfold zgM finN;cases zbT [] l<;>rfl
theorem nameGo_byte (o:List UInt8) (c:UInt8) (t:List UInt8) (h:c≠35):zbT o (c::t)=zbT (o++[c]) t:=by rw [zbT.eq_def];simp only;rw [yg h]
theorem nameGo_short (o:List UInt8) (t:List UInt8) (h:t.length<2):zbT o (35::t)=none:=by
 rw [zbT.eq_def]
 simp only
 rw [yf trivial]
 match t,h with
 | [],_=>rfl
 | [_],_=>rfl
theorem nameGo_hex (o:List UInt8) (x y:UInt8) (u:List UInt8):zbT o (35::x::y::u)=if hexD x<0\/hexD y<0 then none else zbT (o++[UInt8.ofNat (16*hexD x+hexD y).toNat]) u:=by rw [zbT.eq_def];simp only;rw [yf trivial]
theorem hexI_bd (x:Int):-1<=hexI x/\hexI x<=15:=by
 unfold hexI
 repeat' split
 all_goals omega
theorem byte_of9 (x:Int) (h0:0<=x) (h1:x<=255):x=((UInt8.ofNat x.toNat).toNat:Int):=by rw [UInt8.toNat_ofNat'];omega
theorem idx_mem (o:List UInt8) (c:UInt8):decide (0<=Lib.indexByte o c)=decide (c∈o):=by
 have hg:=Lib.indexByte_ge o c
 by_cases h:Lib.indexByte o c=-1
 ·rw [h,yd (zdh _ _ h)];rfl
 ·obtain ⟨i,hi⟩:=Int.eq_ofNat_of_zero_le (show 0<=Lib.indexByte o c by omega)
  obtain ⟨a,t,e,-,-⟩:=zdp _ _ _ hi
  rw [hi,yb (by omega),yb (by rw [e];simp)]
def NameEnd (w:World) (V:Option (List UInt8)) (e:Ending) (w':World):Prop :=
 Below w.heap.size w w'/\match V with
 | none=>e=.returned (.tuple #[.agg (valC 0 0 zbv),.int .i64 17])
 | some o=>e=.returned (.tuple #[.agg (valC 5 0 (mkB o)),.int .i64 0])
theorem zct {w w':World} {V:Option (List UInt8)} (hV:V=none) (hb:Below w.heap.size w w'):NameEnd w V (.returned (.tuple #[.agg (valC 0 0 zbv),.int .i64 17])) w':=by subst hV;exact ⟨hb,rfl⟩
theorem name_some {w w':World} {V:Option (List UInt8)} {o:List UInt8} (hV:V=some o) (hb:Below w.heap.size w w'):NameEnd w V (.returned (.tuple #[.agg (valC 5 0 (mkB o)),.int .i64 0])) w':=by subst hV;exact ⟨hb,rfl⟩
theorem conv_own {w:World} {base:Nat} {v:Value} {o:List UInt8} (hr:w.ownsRow base 5 1 v o.length (o.map u8C)):(convert 22 9 v).run Tryz.prog w=.ok (.string (mkB o)) w:=by
 rcases hr.2 with ⟨rfl,h0⟩|⟨g,cap,cur,rfl,_⟩
 ·have ho:o=[]:=List.eq_nil_of_length_eq_zero h0
  subst ho
  rw [run_convert_bytes_string w 22 9 5 none 0 0 Tryz.underlying22 Tryz.underlying5 Tryz.underlying9]
  rfl
 ·refine run_convert_bytes_back (P:=Tryz.prog) w 22 9 5 ⟨g,0,none⟩ cap o Tryz.underlying22 Tryz.underlying5 Tryz.underlying9 (fun j hj=>?_)
  exact hr.cells (g:=g) rfl j (u8C o[j]) (by simp [hj])
theorem name_any (s:ByteArray) (w:World) (hs:s.size<=400000) :
  Calls Tryz.prog 183 #[.string s] w (NameEnd w (zgM (bl s))):=by
 obtain ⟨V,hV⟩:∃V,V=zgM (bl s):=⟨_,rfl⟩
 rw [<-hV]
 rw [nameV_fin] at hV
 have HV:=ya hV
 obtain ⟨r,hr⟩:∃r,r=w.heap.size:=⟨_,rfl⟩
 have HBX:=ya (show (w.alloc (.cells #[.int .i64 0,.int .i64 0,.string ⟨#[]⟩,.slice none 0 0] 27)).heap[r]?=some (.cells #[.int .i64 0,.int .i64 0,.string ⟨#[]⟩,.slice none 0 0] 27 (0,0)) from zac _ hr)
 have HB0:=ya (zag w (.cells #[.int .i64 0,.int .i64 0,.string ⟨#[]⟩,.slice none 0 0] 27))
 have HRR:=ya hr
 have hgb:=PlainAid.get_bt s
 have HOK:=ya (show ∀i (h:i<s.size),(bl s).drop i=s[i]::(bl s).drop (i+1) from fun i h=>bl_drop s i h)
 clear hV hr
 go_enter Tryz.func183,Tryz.ntmps183
 go_wp2
 rw [<-HRR.out]
 generalize w.alloc (.cells #[.int .i64 0,.int .i64 0,.string ⟨#[]⟩,.slice none 0 0] 27)=W0 at *
 have hr0:=(Array.getElem?_eq_some_iff.1 HBX.out).1
 go_loopw [4,5] (fun v i wr=>∃(k:Nat) (o:List UInt8),k<=s.size/\i=.int .i64 k/\o.length<=k/\Hid (wr.ownsRow W0.heap.size 5 1 v o.length (o.map u8C))/\Hid (Below W0.heap.size W0 wr)/\Hid (V=finN (zbT o ((bl s).drop k)))) (fun _ i _=>s.size-(intOf i).toNat)
 case atStart=>exact ⟨0,[],by omega,rfl,by simp,ya (World.ownsRow_nil _ _ _ _),ya (Below.refl _ _),HV⟩
 case round =>
  obtain ⟨k,o,hk,rfl,hok,HO,HB,HG⟩:=hrel
  have HBR:=ya (zaa HB.out HBX.out)
  have HBW:=ya (HB0.out.trans (HB.out.mono HB0.out.size))
  have hsz:=HB.out.size
  by_cases hlt:k<s.size
  ·have hx:(s[k].toNat:Int)=PlainAid.bt s k:=hgb k hlt
   have hg:=HG.out
   rw [HOK.out k hlt] at hg
   have HX:=ya hx
   clear hx
   by_cases h35:PlainAid.bt s k=35
   ·have h35d:(PlainAid.bt s k==35)=true:=by rw [beq_iff_eq];exact h35
    rw [show s[k]=35 from UInt8.toNat_inj.1 (Int.ofNat_inj.1 (HX.out.trans h35))] at hg
    clear h35
    by_cases h2:s.size<=k+2
    ·have HNONE:=ya (show V=none by rw [hg,nameGo_short _ _ (by rw [yj,zaM];omega)];rfl)
     have h2d:decide ((s.size:Int)<=(k:Int)+2)=true:=by simp;omega
     clear hg
     obtain ⟨⟨k0,k1,k2,k3⟩,f0,f1,f2,f3⟩:=zaj HBR.out
     go_wp2
     refine yh (zab rfl _ _ r 27 _ (0,0) _ rfl (set4 HBR.out _ _ _ _) Tryz.underlying27 rfl zau _ rfl) rfl ?_
     exact zct HNONE.out (zak HBW.out (by have:=HRR.out;omega) _ _ _ _)
    ·have h2d:decide ((s.size:Int)<=(k:Int)+2)=false:=by simp;omega
     have h1':k+1<s.size:=by omega
     have h2':k+2<s.size:=by omega
     rw [HOK.out (k+1) h1',HOK.out (k+1+1) h2',nameGo_hex,hexI_eq,hexI_eq,hgb (k+1) h1',show ((s[k+1+1].toNat:Nat):Int)=PlainAid.bt s (k+2) from hgb (k+2) h2'] at hg
     have hA:=hexI_bd (PlainAid.bt s (k+1))
     have hB:=hexI_bd (PlainAid.bt s (k+2))
     have HCA:=ya (fun W=>hx_205 (PlainAid.bt s (k+1)) W (PlainAid.bt_nonneg _ _) (PlainAid.bt_le _ _))
     have HCB:=ya (fun W=>hx_205 (PlainAid.bt s (k+2)) W (PlainAid.bt_nonneg _ _) (PlainAid.bt_le _ _))
     generalize hexI (PlainAid.bt s (k+1))=A at *
     generalize hexI (PlainAid.bt s (k+2))=B at *
     by_cases hAn:A<0
     ·have HNONE:=ya (show V=none by rw [hg,yf (.inl hAn)];rfl)
      clear hg
      obtain ⟨⟨k0,k1,k2,k3⟩,f0,f1,f2,f3⟩:=zaj HBR.out
      go_wp2_with fail
      refine (HCA.out _).mono ?_
      rintro e w9 ⟨rfl,rfl⟩
      go_wp2
      refine yh (zab rfl _ _ r 27 _ (0,0) _ rfl (set4 HBR.out _ _ _ _) Tryz.underlying27 rfl zau _ rfl) rfl ?_
      exact zct HNONE.out (zak HBW.out (by have:=HRR.out;omega) _ _ _ _)
     ·have hAd:decide (A<0)=false:=by simpa using hAn
      by_cases hBn:B<0
      ·have HNONE:=ya (show V=none by rw [hg,yf (.inr hBn)];rfl)
       clear hg hAn
       obtain ⟨⟨k0,k1,k2,k3⟩,f0,f1,f2,f3⟩:=zaj HBR.out
       go_wp2_with fail
       refine (HCA.out _).mono ?_
       rintro e w9 ⟨rfl,rfl⟩
       go_wp2_with fail
       refine (HCB.out _).mono ?_
       rintro e w9 ⟨rfl,rfl⟩
       go_wp2
       refine yh (zab rfl _ _ r 27 _ (0,0) _ rfl (set4 HBR.out _ _ _ _) Tryz.underlying27 rfl zau _ rfl) rfl ?_
       exact zct HNONE.out (zak HBW.out (by have:=HRR.out;omega) _ _ _ _)
      ·have hBd:decide (B<0)=false:=by simpa using hBn
       rw [yg (by rintro (h|h)<;>contradiction)] at hg
       have HG2:=ya hg
       have HBY:=ya (byte_of9 (16*A+B) (by omega) (by omega))
       have hA0:0<=A:=by omega
       have hB0:0<=B:=by omega
       obtain ⟨hA1,hA2⟩:=hA
       obtain ⟨hB1,hB2⟩:=hB
       clear hg hAn hBn
       go_wp2_with fail
       refine (HCA.out _).mono ?_
       rintro e w9 ⟨rfl,rfl⟩
       go_wp2_with fail
       refine (HCB.out _).mono ?_
       rintro e w9 ⟨rfl,rfl⟩
       go_wp2
       go_quiet ((first|(go_at_call 205;with_reducible exact (HCA.out _).mono fun _ _ ⟨he,hm⟩=>⟨he,_,hm.symm⟩)|(go_at_call 205;with_reducible exact (HCB.out _).mono fun _ _ ⟨he,hm⟩=>⟨he,_,hm.symm⟩)))
       have HO9:=ya (zaH HO.out (zad (Below.refl _ _) nq))
       have HB9:=ya (zad HB.out nq)
       have hsz9:=HB9.out.size
       generalize wr.drewN nq=w3 at *
       go_wp2_with (at_builtin;refine zbj EByte rfl (.tmp 55) (.tmp 57) rfl W0.heap.size _ o.length _ rfl (HO9.out.alloc _) _ 1 _ _ rfl (zes _ _ _) (zgL rfl) (by unfold maxLen;omega) (by omega) (by rw [zan];omega) ?_;intro v' w5 hO5 hg5 hnil5;have HO5:=ya hO5;have HG5:=ya hg5;clear hO5 hg5 hnil5)
       go_roundw
       case rel =>
        refine ⟨k+3,o++[UInt8.ofNat (16*A+B).toNat],by omega,by go_num,by simp;omega,ya ?_,ya ?_,ya HG2.out⟩
        ·have:=HO5.out
         rw [HBY.out] at this
         simpa [u8C] using this
        ·exact (HB9.out.alloc hsz9 _).grown HG5.out (by rw [zan];omega) (fun q hq=>(HO9.out.lt q hq).1)
       case measure=>simp [intOf];omega
   ·have h35d:(PlainAid.bt s k==35)=false:=by rw [ye];exact h35
    rw [nameGo_byte _ _ _ (fun e=>h35 (by rw [<-HX.out,e];rfl))] at hg
    have HG2:=ya hg
    clear hg h35
    go_wp2_with (at_builtin;refine zbj EByte rfl (.tmp 55) (.tmp 57) rfl W0.heap.size _ o.length _ rfl (HO.out.alloc _) _ 1 _ _ rfl (zes _ _ _) (zgL rfl) (by unfold maxLen;omega) (by omega) (by rw [zan];omega) ?_;intro v' w5 hO5 hg5 hnil5;have HO5:=ya hO5;have HG5:=ya hg5;clear hO5 hg5 hnil5)
    go_roundw
    case rel =>
     refine ⟨k+1,o++[s[k]],by omega,by go_num,by simp;omega,ya ?_,ya ?_,HG2⟩
     ·have:=HO5.out
      rw [<-HX.out] at this
      simpa [u8C] using this
     ·exact (HB.out.alloc (by omega) _).grown HG5.out (by rw [zan];omega) (fun q hq=>(HO.out.lt q hq).1)
    case measure=>simp [intOf];omega
  ·obtain rfl:k=s.size:=by omega
   have hg:=HG.out
   rw [show (bl s).drop s.size=[] from by rw [<-zaM];exact List.drop_length] at hg
   have hg2:V=if 127<o.length\/(0:UInt8)∈o then none else some o:=hg
   have HCV:=ya (conv_own HO.out)
   have HIX:=ya (bidx_any HO.out 0)
   have hix:decide (0<=Lib.indexByte o 0)=decide ((0:UInt8)∈o):=idx_mem o 0
   obtain ⟨a1,cap1,hv1,hrow,-⟩:=Row.of_owns HO.out
   have hlen:=hrow.len1
   subst hv1
   rw [show (0:Int).toNat.toUInt8=0 from rfl] at HIX
   clear hg hrow
   by_cases h127:127<o.length
   ·have HNONE:=ya (show V=none by rw [hg2,yf (.inl h127)])
    have h127d:decide ((127:Int)<o.length)=true:=by simp;omega
    clear hg2 hix
    obtain ⟨⟨k0,k1,k2,k3⟩,f0,f1,f2,f3⟩:=zaj HBR.out
    go_wp2
    refine yh (zab rfl _ _ r 27 _ (0,0) _ rfl (set4 HBR.out _ _ _ _) Tryz.underlying27 rfl zau _ rfl) rfl ?_
    exact zct HNONE.out (zak HBW.out (by have:=HRR.out;omega) _ _ _ _)
   ·have h127d:decide ((127:Int)<o.length)=false:=by simp;omega
    have h127e:decide (127<o.length)=false:=yd h127
    obtain ⟨b,hb⟩:∃b,decide ((0:UInt8)∈o)=b:=⟨_,rfl⟩
    rw [hb] at hix
    have HBB:=ya hb
    generalize Lib.indexByte o 0=ix at *
    clear hb
    cases b
    ·have hn0:¬(0:UInt8)∈o:=of_decide_eq_false HBB.out
     have HS:=ya (show V=some o by rw [hg2,yg (by rintro (h|h)<;>contradiction)])
     clear hg2 h127 hn0
     go_wp2_with fail
     refine HIX.out.mono ?_
     rintro e w9 ⟨rfl,rfl⟩
     have hcv:=HCV.out
     obtain ⟨⟨k0,k1,k2,k3⟩,f0,f1,f2,f3⟩:=zaj HBR.out
     go_wp2
     refine yh (zab rfl _ _ r 27 _ (0,0) _ rfl (set4 HBR.out _ _ _ _) Tryz.underlying27 rfl zau _ rfl) rfl ?_
     exact name_some HS.out (zak HBW.out (by have:=HRR.out;omega) _ _ _ _)
    ·have HNONE:=ya (show V=none by rw [hg2,yf (.inr (of_decide_eq_true HBB.out))])
     clear hg2 h127
     obtain ⟨⟨k0,k1,k2,k3⟩,f0,f1,f2,f3⟩:=zaj HBR.out
     go_wp2_with fail
     refine HIX.out.mono ?_
     rintro e w9 ⟨rfl,rfl⟩
     go_wp2
     refine yh (zab rfl _ _ r 27 _ (0,0) _ rfl (set4 HBR.out _ _ _ _) Tryz.underlying27 rfl zau _ rfl) rfl ?_
     exact zct HNONE.out (zak HBW.out (by have:=HRR.out;omega) _ _ _ _)
def tokC (kind f t vk vn:Int) (vs s:ByteArray):Array Value:=#[.int .i64 kind,.int .i64 f,.int .i64 t,.int .i64 vk,.int .i64 vn,.string vs,.slice none 0 0,.string s]
theorem zat:(Tryz.prog.info? 150).map (·.size)=some 8:=by kernel_rfl
def zbS (w:World) (S:Nat->Prop) (p:Nat) (X:Src) (V:Int×Tk×List UInt8) (e:Ending) (w':World):Prop :=
 zae S w w'/\∃(k vk vn:Int) (vs s:ByteArray),e=.returned (.tuple #[.agg (tokC k 0 0 vk vn vs s),.int .i64 V.1]) /\
  (V.1=0->k=V.2.1.kind/\vk=V.2.1.vk/\vn=V.2.1.vn/\vs=mkB V.2.1.vs/\s=mkB V.2.1.s/\V.2.2.length<=X.bs.length/\w'.cell? ⟨p,3,none⟩=some (.int .i64 ((X.bs.length-V.2.2.length:Nat):Int)))
theorem set8 {w:World} {b:Nat} {x0 x1 x2 x3 x4 x5 x6 x7:Value} {t:TypeId} (h:w.heap[b]?=some (.cells #[x0,x1,x2,x3,x4,x5,x6,x7] t (0,0))) (y0 y1 y2 y3 y4 y5 y6 y7:Value) :
  ((((((((w.setCell ⟨b,0,none⟩ y0).setCell ⟨b,1,none⟩ y1).setCell ⟨b,2,none⟩ y2).setCell ⟨b,3,none⟩ y3).setCell ⟨b,4,none⟩ y4).setCell ⟨b,5,none⟩ y5).setCell ⟨b,6,none⟩ y6).setCell ⟨b,7,none⟩ y7).heap[b]?=some (.cells #[y0,y1,y2,y3,y4,y5,y6,y7] t (0,0)):=by
 have h0:(w.setCell ⟨b,0,none⟩ y0).heap[b]?=some (.cells #[y0,x1,x2,x3,x4,x5,x6,x7] t (0,0)):=heap_setCell_same w _ 0 _ _ _ h
 generalize w.setCell ⟨b,0,none⟩ y0=w0 at *
 have h1:(w0.setCell ⟨b,1,none⟩ y1).heap[b]?=some (.cells #[y0,y1,x2,x3,x4,x5,x6,x7] t (0,0)):=heap_setCell_same w0 _ 1 _ _ _ h0
 generalize w0.setCell ⟨b,1,none⟩ y1=w1 at *
 have h2:(w1.setCell ⟨b,2,none⟩ y2).heap[b]?=some (.cells #[y0,y1,y2,x3,x4,x5,x6,x7] t (0,0)):=heap_setCell_same w1 _ 2 _ _ _ h1
 generalize w1.setCell ⟨b,2,none⟩ y2=w2 at *
 have h3:(w2.setCell ⟨b,3,none⟩ y3).heap[b]?=some (.cells #[y0,y1,y2,y3,x4,x5,x6,x7] t (0,0)):=heap_setCell_same w2 _ 3 _ _ _ h2
 generalize w2.setCell ⟨b,3,none⟩ y3=w3 at *
 have h4:(w3.setCell ⟨b,4,none⟩ y4).heap[b]?=some (.cells #[y0,y1,y2,y3,y4,x5,x6,x7] t (0,0)):=heap_setCell_same w3 _ 4 _ _ _ h3
 generalize w3.setCell ⟨b,4,none⟩ y4=w4 at *
 have h5:(w4.setCell ⟨b,5,none⟩ y5).heap[b]?=some (.cells #[y0,y1,y2,y3,y4,y5,x6,x7] t (0,0)):=heap_setCell_same w4 _ 5 _ _ _ h4
 generalize w4.setCell ⟨b,5,none⟩ y5=w5 at *
 have h6:(w5.setCell ⟨b,6,none⟩ y6).heap[b]?=some (.cells #[y0,y1,y2,y3,y4,y5,y6,x7] t (0,0)):=heap_setCell_same w5 _ 6 _ _ _ h5
 generalize w5.setCell ⟨b,6,none⟩ y6=w6 at *
 exact heap_setCell_same w6 _ 7 _ _ _ h6
theorem za0 {S:Nat->Prop} {w W:World} (h:zae S w W) {r:Nat} (hr:w.heap.size<=r) (y0 y1 y2 y3 y4 y5 y6 y7:Value) :
  zae S w ((((((((W.setCell ⟨r,0,none⟩ y0).setCell ⟨r,1,none⟩ y1).setCell ⟨r,2,none⟩ y2).setCell ⟨r,3,none⟩ y3).setCell ⟨r,4,none⟩ y4).setCell ⟨r,5,none⟩ y5).setCell ⟨r,6,none⟩ y6).setCell ⟨r,7,none⟩ y7) :=
 (((((((h.setCell (.inr hr) _).setCell (.inr hr) _).setCell (.inr hr) _).setCell (.inr hr) _).setCell (.inr hr) _).setCell (.inr hr) _).setCell (.inr hr) _).setCell (.inr hr) _
theorem zfO {W:World} {b r:Nat} (hb:b≠r) (y0 y1 y2 y3 y4 y5 y6 y7:Value) :
  ((((((((W.setCell ⟨r,0,none⟩ y0).setCell ⟨r,1,none⟩ y1).setCell ⟨r,2,none⟩ y2).setCell ⟨r,3,none⟩ y3).setCell ⟨r,4,none⟩ y4).setCell ⟨r,5,none⟩ y5).setCell ⟨r,6,none⟩ y6).setCell ⟨r,7,none⟩ y7).heap[b]?=W.heap[b]?:=by
 rw [heap_setCell_other _ _ _ _ hb,heap_setCell_other _ _ _ _ hb,heap_setCell_other _ _ _ _ hb,heap_setCell_other _ _ _ _ hb,heap_setCell_other _ _ _ _ hb,heap_setCell_other _ _ _ _ hb,heap_setCell_other _ _ _ _ hb,heap_setCell_other _ _ _ _ hb]
theorem zb6 {W:World} {b r:Nat} (hb:b≠r) (i:Nat) (y0 y1 y2 y3 y4 y5 y6 y7:Value) :
  ((((((((W.setCell ⟨r,0,none⟩ y0).setCell ⟨r,1,none⟩ y1).setCell ⟨r,2,none⟩ y2).setCell ⟨r,3,none⟩ y3).setCell ⟨r,4,none⟩ y4).setCell ⟨r,5,none⟩ y5).setCell ⟨r,6,none⟩ y6).setCell ⟨r,7,none⟩ y7).cell? ⟨b,i,none⟩=W.cell? ⟨b,i,none⟩:=by
 simp only [World.cell?]
 rw [zfO hb]
theorem zao {w:World} {b:Nat} {x0 x1 x2 x3 x4 x5 x6 x7:Value} {t:TypeId} (h:w.heap[b]?=some (.cells #[x0,x1,x2,x3,x4,x5,x6,x7] t (0,0))) :
  (w.cell? ⟨b,0,none⟩=some x0/\w.cell? ⟨b,1,none⟩=some x1/\w.cell? ⟨b,2,none⟩=some x2/\w.cell? ⟨b,3,none⟩=some x3/\w.cell? ⟨b,4,none⟩=some x4/\w.cell? ⟨b,5,none⟩=some x5/\w.cell? ⟨b,6,none⟩=some x6/\w.cell? ⟨b,7,none⟩=some x7) /\
  (w.frozen? ⟨b,0,none⟩=false/\w.frozen? ⟨b,1,none⟩=false/\w.frozen? ⟨b,2,none⟩=false/\w.frozen? ⟨b,3,none⟩=false/\w.frozen? ⟨b,4,none⟩=false/\w.frozen? ⟨b,5,none⟩=false/\w.frozen? ⟨b,6,none⟩=false/\w.frozen? ⟨b,7,none⟩=false):=by
 refine ⟨⟨?_,?_,?_,?_,?_,?_,?_,?_⟩,frozen_of_row w b 0 _ _ h,frozen_of_row w b 1 _ _ h,frozen_of_row w b 2 _ _ h,frozen_of_row w b 3 _ _ h,frozen_of_row w b 4 _ _ h,frozen_of_row w b 5 _ _ h,frozen_of_row w b 6 _ _ h,frozen_of_row w b 7 _ _ h⟩
 ·rw [cell_of_row w b 0 _ _ _ h];rfl
 ·rw [cell_of_row w b 1 _ _ _ h];rfl
 ·rw [cell_of_row w b 2 _ _ _ h];rfl
 ·rw [cell_of_row w b 3 _ _ _ h];rfl
 ·rw [cell_of_row w b 4 _ _ _ h];rfl
 ·rw [cell_of_row w b 5 _ _ _ h];rfl
 ·rw [cell_of_row w b 6 _ _ _ h];rfl
 ·rw [cell_of_row w b 7 _ _ _ h];rfl
theorem tok_err {w w':World} {S:Nat->Prop} {p:Nat} {X:Src} {V:Int×Tk×List UInt8} {er:Int} (hV:V.1=er) (hn:er≠0) (hk:zae S w w') (k vk vn:Int) (vs s:ByteArray) :
  zbS w S p X V (.returned (.tuple #[.agg (tokC k 0 0 vk vn vs s),.int .i64 er])) w' :=
 ⟨hk,k,vk,vn,vs,s,by rw [hV],fun h=>absurd (hV.symm.trans h) hn⟩
theorem tok_ok {w w':World} {S:Nat->Prop} {p:Nat} {X:Src} {V:Int×Tk×List UInt8} {x:Tk} {t:List UInt8} (hV:V=(0,x,t)) (hk:zae S w w') (ht:t.length<=X.bs.length) (hc:w'.cell? ⟨p,3,none⟩=some (.int .i64 ((X.bs.length-t.length:Nat):Int))) :
  zbS w S p X V (.returned (.tuple #[.agg (tokC x.kind 0 0 x.vk x.vn (mkB x.vs) (mkB x.s)),.int .i64 0])) w':=by
 subst hV;exact ⟨hk,_,_,_,_,_,rfl,fun _=>⟨rfl,rfl,rfl,rfl,rfl,ht,hc⟩⟩
def clV (X:Src) (k:Nat):Int×Tk×List UInt8:=match X.bs.drop k with
 | []=>(if X.yo then 11 else 6,{ kind:=0 },[])
 | d::u=>if d=62 then (0,{ kind:=5 },u) else (11,{ kind:=0 },[])
theorem clV_in {X:Src} {k:Nat} (hk:k<X.bs.length):clV X k=if X.bs.getD k 0=62 then (0,{ kind:=5 },X.bs.drop (k+1)) else (11,{ kind:=0 },[]):=by
 unfold clV;rw [zaS hk]
theorem clV_out {X:Src} {k:Nat} (hk:¬k<X.bs.length):clV X k=(if X.yo then 11 else 6,{ kind:=0 },[]):=by
 unfold clV;rw [zbP (by omega)]
theorem ScQ.facts {w:World} {S:Nat->Prop} {p:Nat} {X:Src} {out:List UInt8} {k:Nat} (h:ScQ w S p X out k):(∀b,S b->b<w.heap.size)/\S p/\k<=X.bs.length/\X.bs.length<=400000/\w.cell? ⟨p,3,none⟩=some (.int .i64 k)/\w.cell? ⟨p,4,none⟩=some (.bool X.yo)/\(∀j,w.frozen? ⟨p,j,none⟩=false):=by
 obtain ⟨_,_,h⟩:=h
 exact ⟨fun b hb=>(h.lt b hb).2,h.own,h.le,h.small,h.cells.2.2.2.1,h.cells.2.2.2.2,h.free⟩
theorem ScQ.step {w:World} {S:Nat->Prop} {p:Nat} {X:Src} {out:List UInt8} {k:Nat} (h:ScQ w S p X out k) (hk:k<X.bs.length):zam w S p X out (k+1) (w.setCell ⟨p,3,none⟩ (.int .i64 ((k:Int)+1))):=by
 obtain ⟨_,_,h⟩:=h
 exact h.move (k+1) hk (by omega)
structure Tm (w:World) (S:Nat->Prop) (p r:Nat) (X:Src) (k:Nat) (W:World):Prop where
 sc:ScQ W S p X [] k
 blk:W.heap[r]?=some (.cells #[.int .i64 0,.int .i64 0,.int .i64 0,.int .i64 0,.int .i64 0,.string ⟨#[]⟩,.slice none 0 0,.string ⟨#[]⟩] 150 (0,0))
 keeps:zae S w W
 pr:p≠r
 wr:w.heap.size<=r
 sr:¬S r
theorem Tm.start {w:World} {S:Nat->Prop} {p:Nat} {X:Src} {k:Nat} (h:ScQ w S p X [] k):Tm w S p w.heap.size X k (w.alloc (.cells #[.int .i64 0,.int .i64 0,.int .i64 0,.int .i64 0,.int .i64 0,.string ⟨#[]⟩,.slice none 0 0,.string ⟨#[]⟩] 150)) :=
 ⟨h.keep (zag w _),zac _ rfl,(zae.refl S w).alloc _,by have:=h.facts.1 p h.facts.2.1;omega,ym _,fun hS=>by have:=h.facts.1 _ hS;omega⟩
theorem Tm.drewN {w W:World} {S:Nat->Prop} {p r:Nat} {X:Src} {k:Nat} (h:Tm w S p r X k W) (q:Nat):Tm w S p r X k (W.drewN q) :=
 ⟨h.sc.drewN q,h.blk,h.keeps.drewN q,h.pr,h.wr,h.sr⟩
theorem ScQ.next {w:World} {S:Nat->Prop} {p:Nat} {X:Src} {k:Nat} (h:ScQ w S p X [] k) (hk:k<X.bs.length):ScQ (w.setCell ⟨p,3,none⟩ (.int .i64 ((k:Int)+1))) S p X [] (k+1):=by
 obtain ⟨ad,v,h⟩:=h
 have hb:=h.blk
 refine ⟨ad,v,⟨?_,h.ad_,?_,h.at_,h.own,fun b hS=>by have:=h.lt b hS;simpa using this,?_,h.srcb,hk,h.small,by simp,h.nil_⟩⟩
 ·rw [heap_setCell_same _ _ 3 _ _ _ hb];rfl
 ·exact ownsRow_setCell_other h.row (a:=⟨p,3,none⟩) (fun e=>by have:=(h.row.lt p e).1;omega) _
 ·exact h.src.keeps (S:=fun b=>b=p) ((zae.refl (fun b=>b=p) w).setCell (a:=⟨p,3,none⟩) (.inl rfl) _) (fun x hx e=>by have:=h.srcb x hx;omega)
theorem Tm.next {w W:World} {S:Nat->Prop} {p r:Nat} {X:Src} {k:Nat} (h:Tm w S p r X k W) (hk:k<X.bs.length):Tm w S p r X (k+1) (W.setCell ⟨p,3,none⟩ (.int .i64 ((k:Int)+1))) :=
 ⟨h.sc.next hk,by rw [heap_setCell_other _ _ _ _ (Ne.symm h.pr)];exact h.blk,h.keeps.setCell (.inl h.sc.facts.2.1) _,h.pr,h.wr,h.sr⟩
theorem Tm.ok {w W:World} {S:Nat->Prop} {p r:Nat} {X:Src} {k:Nat} {V:Int×Tk×List UInt8} {x:Tk} (h:Tm w S p r X k W) (hV:V=(0,x,X.bs.drop k)) (y0 y1 y2 y3 y4 y5 y6 y7:Value) :
  zbS w S p X V (.returned (.tuple #[.agg (tokC x.kind 0 0 x.vk x.vn (mkB x.vs) (mkB x.s)),.int .i64 0]))
   ((((((((W.setCell ⟨r,0,none⟩ y0).setCell ⟨r,1,none⟩ y1).setCell ⟨r,2,none⟩ y2).setCell ⟨r,3,none⟩ y3).setCell ⟨r,4,none⟩ y4).setCell ⟨r,5,none⟩ y5).setCell ⟨r,6,none⟩ y6).setCell ⟨r,7,none⟩ y7) :=
 tok_ok hV (za0 h.keeps h.wr _ _ _ _ _ _ _ _) (by simp) (by
  rw [zb6 h.pr,h.sc.facts.2.2.2.2.1,yj]
  have:=h.sc.facts.2.2.1
  congr 2;omega)
theorem Tm.err {w W:World} {S:Nat->Prop} {p r:Nat} {X:Src} {k:Nat} {V:Int×Tk×List UInt8} {er:Int} (h:Tm w S p r X k W) (hV:V.1=er) (hn:er≠0) (y0 y1 y2 y3 y4 y5 y6 y7:Value) (a b c:Int) (vs s:ByteArray) :
  zbS w S p X V (.returned (.tuple #[.agg (tokC a 0 0 b c vs s),.int .i64 er]))
   ((((((((W.setCell ⟨r,0,none⟩ y0).setCell ⟨r,1,none⟩ y1).setCell ⟨r,2,none⟩ y2).setCell ⟨r,3,none⟩ y3).setCell ⟨r,4,none⟩ y4).setCell ⟨r,5,none⟩ y5).setCell ⟨r,6,none⟩ y6).setCell ⟨r,7,none⟩ y7) :=
 tok_err hV hn (za0 h.keeps h.wr _ _ _ _ _ _ _ _) a b c vs s
structure Tn (w:World) (S:Nat->Prop) (p r:Nat) (W:World):Prop where
 blk:W.heap[r]?=some (.cells #[.int .i64 0,.int .i64 0,.int .i64 0,.int .i64 0,.int .i64 0,.string ⟨#[]⟩,.slice none 0 0,.string ⟨#[]⟩] 150 (0,0))
 keeps:zae S w W
 pr:p≠r
 wr:w.heap.size<=r
 sp:S p
theorem Tn.of {w W W':World} {S:Nat->Prop} {p r:Nat} {X:Src} {k:Nat} (h:Tm w S p r X k W) (hk:zae S W W'):Tn w S p r W' :=
 ⟨hk.obj h.blk h.sr,h.keeps.trans hk (fun _ hS=>.inl hS),h.pr,h.wr,h.sc.facts.2.1⟩
theorem Tn.on {w W W':World} {S:Nat->Prop} {p r:Nat} (h:Tn w S p r W) (hb:Below W.heap.size W W'):Tn w S p r W' :=
 ⟨zaa hb h.blk,h.keeps.trans (zae.of_below (S:=fun b=>W.heap.size<=b) hb (fun _ h=>h)) (fun _ hS=>.inr (Nat.le_trans h.keeps.size hS)),h.pr,h.wr,h.sp⟩
theorem Tn.alloc {w W:World} {S:Nat->Prop} {p r:Nat} (h:Tn w S p r W) (o:Obj):Tn w S p r (W.alloc o):=h.on (zag W o)
theorem Tn.ok {w W:World} {S:Nat->Prop} {p r:Nat} {X:Src} {V:Int×Tk×List UInt8} {x:Tk} {t:List UInt8} (h:Tn w S p r W) (hV:V=(0,x,t)) (ht:t.length<=X.bs.length) (hc:W.cell? ⟨p,3,none⟩=some (.int .i64 ((X.bs.length-t.length:Nat):Int))) (y0 y1 y2 y3 y4 y5 y6 y7:Value) :
  zbS w S p X V (.returned (.tuple #[.agg (tokC x.kind 0 0 x.vk x.vn (mkB x.vs) (mkB x.s)),.int .i64 0]))
   ((((((((W.setCell ⟨r,0,none⟩ y0).setCell ⟨r,1,none⟩ y1).setCell ⟨r,2,none⟩ y2).setCell ⟨r,3,none⟩ y3).setCell ⟨r,4,none⟩ y4).setCell ⟨r,5,none⟩ y5).setCell ⟨r,6,none⟩ y6).setCell ⟨r,7,none⟩ y7) :=
 tok_ok hV (za0 h.keeps h.wr _ _ _ _ _ _ _ _) ht (by rw [zb6 h.pr];exact hc)
theorem Tn.err {w W:World} {S:Nat->Prop} {p r:Nat} {X:Src} {V:Int×Tk×List UInt8} {er:Int} (h:Tn w S p r W) (hV:V.1=er) (hn:er≠0) (y0 y1 y2 y3 y4 y5 y6 y7:Value) (a b c:Int) (vs s:ByteArray) :
  zbS w S p X V (.returned (.tuple #[.agg (tokC a 0 0 b c vs s),.int .i64 er]))
   ((((((((W.setCell ⟨r,0,none⟩ y0).setCell ⟨r,1,none⟩ y1).setCell ⟨r,2,none⟩ y2).setCell ⟨r,3,none⟩ y3).setCell ⟨r,4,none⟩ y4).setCell ⟨r,5,none⟩ y5).setCell ⟨r,6,none⟩ y6).setCell ⟨r,7,none⟩ y7) :=
 tok_err hV hn (za0 h.keeps h.wr _ _ _ _ _ _ _ _) a b c vs s
theorem Tn.any {w W:World} {S:Nat->Prop} {p r:Nat} {X:Src} {V:Int×Tk×List UInt8} {x:Tk} {t:List UInt8} {er:Int} (h:Tn w S p r W) (hV:V=(er,x,t)) (ht:t.length<=X.bs.length) (hc:W.cell? ⟨p,3,none⟩=some (.int .i64 ((X.bs.length-t.length:Nat):Int))) (y0 y1 y2 y3 y4 y5 y6 y7:Value) :
  zbS w S p X V (.returned (.tuple #[.agg (tokC x.kind 0 0 x.vk x.vn (mkB x.vs) (mkB x.s)),.int .i64 er]))
   ((((((((W.setCell ⟨r,0,none⟩ y0).setCell ⟨r,1,none⟩ y1).setCell ⟨r,2,none⟩ y2).setCell ⟨r,3,none⟩ y3).setCell ⟨r,4,none⟩ y4).setCell ⟨r,5,none⟩ y5).setCell ⟨r,6,none⟩ y6).setCell ⟨r,7,none⟩ y7):=by
 by_cases he:er=0
 ·subst he;exact h.ok hV ht hc _ _ _ _ _ _ _ _
 ·exact h.err (by rw [hV]) he _ _ _ _ _ _ _ _ _ _ _ _ _
theorem zaR {w:World} {b o:Nat} {v:Value} (x:Obj) (h:w.cell? ⟨b,o,none⟩=some v):(w.alloc x).cell? ⟨b,o,none⟩=some v:=cell?_keep (zag w x) h
theorem closing_any {w:World} {S:Nat->Prop} {p:Nat} {X:Src} {k:Nat} (h:ScQ w S p X [] k) :
  Calls Tryz.prog 180 #[.pointer (some ⟨p,0,none⟩)] w (zbS w S p X (clV X k)):=by
 obtain ⟨V,hV⟩:∃V,V=clV X k:=⟨_,rfl⟩
 rw [<-hV]
 have hT:=Tm.start h
 obtain ⟨r,hr⟩:∃r,r=w.heap.size:=⟨_,rfl⟩
 rw [<-hr] at hT
 have HT0:=ya hT
 have HR:=ya hr
 have hP:=zcf hT.sc
 have hsm:=h.facts.2.2.2.1
 clear hT hr h
 by_cases hk:k<X.bs.length
 ·have hv:=hV.trans (clV_in hk)
  unfold zed u8C at hP
  rw [yf hk] at hP
  have HK:=ya hk
  have hkb:k<=399999:=by omega
  clear hsm
  generalize X.bs.getD k 0=c at *
  have HP:=ya hP
  clear hP hV hk
  by_cases hc:c=62
  ·rw [yf hc] at hv
   have HV:=ya hv
   have hc2:c.toNat=62:=by rw [hc];rfl
   rw [hc2] at HP
   clear hv hc hc2
   go_enter Tryz.func180,Tryz.ntmps180
   go_wp2_with fail
   refine HP.out.mono ?_
   rintro e w1 ⟨rfl,q,rfl⟩
   have HT1:=ya (HT0.out.drewN q)
   have HT2:=ya (HT1.out.next HK.out)
   obtain ⟨-,-,-,-,c3,c4,fr⟩:=HT1.out.sc.facts
   have f3:=fr 3
   rw [<-HR.out]
   clear fr HT0
   generalize (w.alloc _).drewN q=W1 at *
   obtain ⟨⟨k0,k1,k2,k3,k4,k5,k6,k7⟩,f0,f1,f2,f3',f4,f5,f6,f7⟩:=zao HT2.out.blk
   go_wp2
   refine yh (zab rfl _ _ _ 150 _ (0,0) _ rfl (set8 HT2.out.blk _ _ _ _ _ _ _ _) Tryz.underlying150 rfl zat _ rfl) rfl ?_
   exact HT2.out.ok HV.out _ _ _ _ _ _ _ _
  ·rw [yg hc] at hv
   have HV:=ya hv
   have hc2:¬c.toNat=62:=fun h=>hc (UInt8.toNat_inj.1 h)
   have hc3:((c.toNat:Int)==62)=false:=by rw [ye];omega
   generalize c.toNat=x at *
   clear hv hc
   go_enter Tryz.func180,Tryz.ntmps180
   go_wp2_with fail
   refine HP.out.mono ?_
   rintro e w1 ⟨rfl,q,rfl⟩
   have HT1:=ya (HT0.out.drewN q)
   rw [<-HR.out]
   clear HT0
   generalize (w.alloc _).drewN q=W1 at *
   obtain ⟨⟨k0,k1,k2,k3,k4,k5,k6,k7⟩,f0,f1,f2,f3,f4,f5,f6,f7⟩:=zao HT1.out.blk
   go_wp2
   refine yh (zab rfl _ _ _ 150 _ (0,0) _ rfl (set8 HT1.out.blk _ _ _ _ _ _ _ _) Tryz.underlying150 rfl zat _ rfl) rfl ?_
   exact HT1.out.err (by rw [HV.out]) (by decide) _ _ _ _ _ _ _ _ _ _ _ _ _
 ·have hv:=hV.trans (clV_out hk)
  unfold zed at hP
  rw [yg hk] at hP
  have HP:=ya hP
  obtain ⟨l,hl⟩:∃l,X.yo=l:=⟨_,rfl⟩
  rw [hl] at hv
  have HV:=ya hv
  have HL:=ya hl
  clear hv hV hk hP hsm hl
  cases l
  all_goals
   go_enter Tryz.func180,Tryz.ntmps180
   go_wp2_with fail
   refine HP.out.mono ?_
   rintro e w1 ⟨rfl,q,rfl⟩
   have HT1:=ya (HT0.out.drewN q)
   obtain ⟨-,-,-,-,-,c4,-⟩:=HT1.out.sc.facts
   rw [HL.out] at c4
   rw [<-HR.out]
   clear HT0
   generalize (w.alloc _).drewN q=W1 at *
   obtain ⟨⟨k0,k1,k2,k3,k4,k5,k6,k7⟩,f0,f1,f2,f3,f4,f5,f6,f7⟩:=zao HT1.out.blk
   go_wp2
   refine yh (zab rfl _ _ _ 150 _ (0,0) _ rfl (set8 HT1.out.blk _ _ _ _ _ _ _ _) Tryz.underlying150 rfl zat _ rfl) rfl ?_
   exact HT1.out.err (by rw [HV.out];rfl) (by decide) _ _ _ _ _ _ _ _ _ _ _ _ _
theorem zet (l:Bool):zbt l≠0:=by cases l<;>decide
def hexK (yo:Bool) (H:Int×List UInt8×List UInt8):Int×Tk×List UInt8:=if H.1=0 then (0,{ kind:=1,vk:=4,vs:=H.2.1 },H.2.2) else if H.1=1 then (zbt yo,{ kind:=0 },[]) else (11,{ kind:=0 },[])
def opV (X:Src) (k:Nat):Int×Tk×List UInt8:=match X.bs.drop k with
 | []=>(zbt X.yo,{ kind:=0 },[])
 | d::u=>if d=60 then (0,{ kind:=4 },u) else hexK X.yo (hexV [] (-1) (d::u))
theorem opV_in {X:Src} {k:Nat} (hk:k<X.bs.length):opV X k=if X.bs.getD k 0=60 then (0,{ kind:=4 },X.bs.drop (k+1)) else hexK X.yo (hexV [] (-1) (X.bs.drop k)):=by
 unfold opV;rw [zaS hk]
theorem opV_out {X:Src} {k:Nat} (hk:¬k<X.bs.length):opV X k=(zbt X.yo,{ kind:=0 },[]):=by
 unfold opV;rw [zbP (by omega)]
theorem opening_any {w:World} {S:Nat->Prop} {p:Nat} {X:Src} {k:Nat} (h:ScQ w S p X [] k) (h1k:1<=k) :
  Calls Tryz.prog 179 #[.pointer (some ⟨p,0,none⟩)] w (zbS w S p X (opV X k)):=by
 obtain ⟨V,hV⟩:∃V,V=opV X k:=⟨_,rfl⟩
 rw [<-hV]
 have hT:=Tm.start h
 obtain ⟨r,hr⟩:∃r,r=w.heap.size:=⟨_,rfl⟩
 rw [<-hr] at hT
 have HT0:=ya hT
 have HR:=ya hr
 have hP:=zcf hT.sc
 have hsm:=h.facts.2.2.2.1
 clear hT hr h
 by_cases hk:k<X.bs.length
 ·have hv:=hV.trans (opV_in hk)
  unfold zed u8C at hP
  rw [yf hk] at hP
  have HK:=ya hk
  have H1K:=ya h1k
  have hkb:k<=399999:=by omega
  clear hsm
  generalize X.bs.getD k 0=c at *
  have HP:=ya hP
  clear hP hV hk
  by_cases hc:c=60
  ·rw [yf hc] at hv
   have HV:=ya hv
   have hc2:c.toNat=60:=by rw [hc];rfl
   rw [hc2] at HP
   clear hv hc hc2
   go_enter Tryz.func179,Tryz.ntmps179
   go_wp2_with fail
   refine HP.out.mono ?_
   rintro e w1 ⟨rfl,q,rfl⟩
   have HT1:=ya (HT0.out.drewN q)
   have HT2:=ya (HT1.out.next HK.out)
   obtain ⟨-,-,-,-,c3,c4,fr⟩:=HT1.out.sc.facts
   have f3:=fr 3
   rw [<-HR.out]
   clear fr HT0
   generalize (w.alloc _).drewN q=W1 at *
   obtain ⟨⟨k0,k1,k2,k3,k4,k5,k6,k7⟩,f0,f1,f2,f3',f4,f5,f6,f7⟩:=zao HT2.out.blk
   go_wp2
   refine yh (zab rfl _ _ _ 150 _ (0,0) _ rfl (set8 HT2.out.blk _ _ _ _ _ _ _ _) Tryz.underlying150 rfl zat _ rfl) rfl ?_
   exact HT2.out.ok HV.out _ _ _ _ _ _ _ _
  ·rw [yg hc] at hv
   have HV:=ya hv
   have hc2:¬c.toNat=60:=fun h=>hc (UInt8.toNat_inj.1 h)
   have hc3:((c.toNat:Int)==60)=false:=by rw [ye];omega
   generalize c.toNat=x at *
   clear hv hc
   go_enter Tryz.func179,Tryz.ntmps179
   go_wp2_with fail
   refine HP.out.mono ?_
   rintro e w1 ⟨rfl,q,rfl⟩
   have HT1:=ya (HT0.out.drewN q)
   rw [<-HR.out]
   clear HT0
   generalize (w.alloc _).drewN q=W1 at *
   go_wp2_with fail
   refine (hexes_any HT1.out.sc H1K.out).mono ?_
   rintro e w2 ⟨hk2,hh⟩
   have HT2:=ya (Tn.of HT1.out hk2)
   generalize hexV [] (-1) (X.bs.drop k)=H at *
   rcases hh with ⟨h1,rfl⟩|⟨h1,rfl⟩|⟨h1,rfl,h2,h3⟩
   ·have HL:=ya (show V.1=zbt X.yo by rw [HV.out,hexK,h1];rfl)
    have HN:=ya (zet X.yo)
    generalize zbt X.yo=er at *
    clear h1
    have HT3:=ya (HT2.out.alloc (.cells (valC 0 0 zbv) 27))
    obtain ⟨⟨k0,k1,k2,k3,k4,k5,k6,k7⟩,f0,f1,f2,f3,f4,f5,f6,f7⟩:=zao HT3.out.blk
    unfold valC zbv at *
    go_wp2
    refine yh (zab rfl _ _ _ 150 _ (0,0) _ rfl (set8 HT3.out.blk _ _ _ _ _ _ _ _) Tryz.underlying150 rfl zat _ rfl) rfl ?_
    exact HT3.out.err HL.out HN.out _ _ _ _ _ _ _ _ _ _ _ _ _
   ·have HL:=ya (show V.1=11 by rw [HV.out,hexK,h1];rfl)
    clear h1
    have HT3:=ya (HT2.out.alloc (.cells (valC 0 0 zbv) 27))
    obtain ⟨⟨k0,k1,k2,k3,k4,k5,k6,k7⟩,f0,f1,f2,f3,f4,f5,f6,f7⟩:=zao HT3.out.blk
    unfold valC zbv at *
    go_wp2
    refine yh (zab rfl _ _ _ 150 _ (0,0) _ rfl (set8 HT3.out.blk _ _ _ _ _ _ _ _) Tryz.underlying150 rfl zat _ rfl) rfl ?_
    exact HT3.out.err HL.out (by decide) _ _ _ _ _ _ _ _ _ _ _ _ _
   ·have HL:=ya (show V=(0,{ kind:=1,vk:=4,vs:=H.2.1 },H.2.2) by rw [HV.out,hexK,yf h1])
    have HA:=ya (fun x=>zaR x h3)
    have HB:=ya h2
    obtain ⟨B,hB⟩:∃B,mkB H.2.1=B:=⟨_,rfl⟩
    rw [hB]
    have HBB:=ya hB
    have HT3:=ya (HT2.out.alloc (.cells (valC 4 0 B) 27))
    obtain ⟨⟨k0,k1,k2,k3,k4,k5,k6,k7⟩,f0,f1,f2,f3,f4,f5,f6,f7⟩:=zao HT3.out.blk
    unfold valC at *
    clear h1 h2 h3 hB
    go_wp2
    refine yh (zab rfl _ _ _ 150 _ (0,0) _ rfl (set8 HT3.out.blk _ _ _ _ _ _ _ _) Tryz.underlying150 rfl zat _ rfl) rfl ?_
    have hbb:=HBB.out
    subst hbb
    exact HT3.out.ok (x:={ kind:=1,vk:=4,vs:=H.2.1 }) HL.out HB.out (HA.out _) _ _ _ _ _ _ _ _
 ·have HV:=ya (hV.trans (opV_out hk))
  unfold zed at hP
  rw [yg hk] at hP
  have HP:=ya hP
  clear hV hk hP hsm
  go_enter Tryz.func179,Tryz.ntmps179
  go_wp2_with fail
  refine HP.out.mono ?_
  rintro e w1 ⟨rfl,q,rfl⟩
  have HT1:=ya (HT0.out.drewN q)
  rw [<-HR.out]
  clear HT0
  generalize (w.alloc _).drewN q=W1 at *
  obtain ⟨⟨k0,k1,k2,k3,k4,k5,k6,k7⟩,f0,f1,f2,f3,f4,f5,f6,f7⟩:=zao HT1.out.blk
  go_wp2_with fail
  refine (zc4 HT1.out.sc).mono ?_
  rintro e w2 ⟨rfl,rfl⟩
  have HN:=ya (zet X.yo)
  go_wp2
  refine yh (zab rfl _ _ _ 150 _ (0,0) _ rfl (set8 HT1.out.blk _ _ _ _ _ _ _ _) Tryz.underlying150 rfl zat _ rfl) rfl ?_
  exact HT1.out.err (by rw [HV.out]) HN.out _ _ _ _ _ _ _ _ _ _ _ _ _
end Go.Proofs.YtfafdeemfeaedaaGreat
