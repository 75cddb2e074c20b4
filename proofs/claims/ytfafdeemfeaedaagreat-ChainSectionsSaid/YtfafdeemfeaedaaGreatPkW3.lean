/-
  Our texts Num4 to LexD, in one.
-/
import Derived.Test.YtfafdeemfeaedaaGreatPkW2
import Derived.Laws.IdiomStrings
import Derived.Deep.LoopGhost
import Derived.Lib.BytesEntry
import Derived.PlainAid
set_option maxRecDepth 8000
set_option maxHeartbeats 8000000
namespace Go.Proofs.YtfafdeemfeaedaaGreat
open Go.RowKit
theorem zao:(Tryz.prog.info? 27).map (·.size)=some 4:=by kernel_rfl
theorem zaa {P:Program} {fn:Func} {p u:Tmp} {ty:TypeId} (h:fn.results=#[.cell p ty,.tmp u]) (tmps:Array Value) (w:World) (g:Nat) (t:TypeId) (cs:Array Value) (fr:Nat×Nat) (d:TypeDesc)
  (hp:tmps.getD p undef=.pointer (some ⟨g,0,none⟩)) (hg:w.heap[g]?=some (.cells cs t fr))
  (hu:P.underlying ty=some d) (hd:(match d with | .struct _ | .array _ _=>true|_=>false)=true) (hi:(P.info? ty).map (·.size)=some cs.size) (v:Value) (hv:tmps.getD u undef=v) :
  (results fn tmps).run P w=.ok (.tuple #[.agg cs,v]) w:=by
 rw [results_cell_tmp h,hp,hv]
 simp [asAddr,Result.andThen,run_loadVar_row w g t ty cs fr d hg hu hd hi]
theorem set4 {w:World} {b:Nat} {x0 x1 x2 x3:Value} {t:TypeId} (h:w.heap[b]?=some (.cells #[x0,x1,x2,x3] t (0,0))) (y0 y1 y2 y3:Value) :
  ((((w.setCell ⟨b,0,none⟩ y0).setCell ⟨b,1,none⟩ y1).setCell ⟨b,2,none⟩ y2).setCell ⟨b,3,none⟩ y3).heap[b]?=some (.cells #[y0,y1,y2,y3] t (0,0)):=by
 rw [heap_setCell_same _ _ 3 _ _ _ (heap_setCell_same _ _ 2 _ _ _ (heap_setCell_same _ _ 1 _ _ _ (heap_setCell_same w _ 0 _ _ _ h)))];rfl
theorem zad {B:Nat} {w0 w:World} (h:Below B w0 w) {b:Nat} (hb:B<=b) (y0 y1 y2 y3:Value) :
  Below B w0 ((((w.setCell ⟨b,0,none⟩ y0).setCell ⟨b,1,none⟩ y1).setCell ⟨b,2,none⟩ y2).setCell ⟨b,3,none⟩ y3) :=
 (((h.setCell hb _).setCell hb _).setCell hb _).setCell hb _
theorem zaf {w:World} {b:Nat} {x0 x1 x2 x3:Value} {t:TypeId} (h:w.heap[b]?=some (.cells #[x0,x1,x2,x3] t (0,0))) :
  (w.cell? ⟨b,0,none⟩=some x0/\w.cell? ⟨b,1,none⟩=some x1/\w.cell? ⟨b,2,none⟩=some x2/\w.cell? ⟨b,3,none⟩=some x3) /\
  (w.frozen? ⟨b,0,none⟩=false/\w.frozen? ⟨b,1,none⟩=false/\w.frozen? ⟨b,2,none⟩=false/\w.frozen? ⟨b,3,none⟩=false):=by
 refine ⟨⟨?_,?_,?_,?_⟩,frozen_of_row w b 0 _ _ h,frozen_of_row w b 1 _ _ h,frozen_of_row w b 2 _ _ h,frozen_of_row w b 3 _ _ h⟩
 ·rw [cell_of_row w b 0 _ _ _ h];rfl
 ·rw [cell_of_row w b 1 _ _ _ h];rfl
 ·rw [cell_of_row w b 2 _ _ _ h];rfl
 ·rw [cell_of_row w b 3 _ _ _ h];rfl
def zbr (V:Int×Int×Int) (w:World) (e:Ending) (w':World):Prop:=e=.returned (.tuple #[.agg (valC V.1 V.2.1 zbe),.int .i64 V.2.2])/\Below w.heap.size w w'
theorem digits0 (l:List UInt8) (h:l.all isDg=true):zaA (48::l)=if 2147483647<valD l then (0,5) else (((valD l:Nat):Int),0):=by
 have hv:valD (48::l)=valD l:=valD_zl 1 l
 have ha:(48::l).all isDg=true:=by rw [List.all_cons,h];rfl
 by_cases ho:2147483647<valD l
 ·rw [yg ho,zcV (by simp) ha (by rw [hv];exact ho)]
 ·rw [yh ho,zdd (by simp) ha (by rw [hv];omega),hv]
theorem zdZ {s:ByteArray} {c:UInt8} (h:hd1 s c=true):(bl s).head?=some c/\1<=s.size:=by
 unfold hd1 at h
 have h2:(bl s).head?=some c:=by simpa using h
 refine ⟨h2,?_⟩
 have:bl s≠[]:=by intro e;rw [e] at h2;simp at h2
 have h3:=List.length_pos_iff.2 this
 rw [zaG] at h3;exact h3
theorem zd6 {s:ByteArray} {c:UInt8} (h:hd1 s c=false):(bl s).head?≠some c:=by
 unfold hd1 at h;simpa using h
theorem body_from {s:ByteArray} (h:(bl s).head?=some 45\/(bl s).head?=some 43) (_h1:1<=s.size):bl (s.extract 1 s.size)=zc6 (bl s):=by
 unfold zc6;rw [yg h,bl_from,List.drop_one]
theorem parse_any (s:ByteArray) (w:World) (hs:s.size<=400000) :
  Calls Tryz.prog 198 #[.string s] w (zbr (zaP (bl s)) w):=by
 have hbx:(w.alloc (.cells #[.int .i64 0,.int .i64 0,.string ⟨#[]⟩,.slice none 0 0] 27)).heap[w.heap.size]?=some (.cells #[.int .i64 0,.int .i64 0,.string ⟨#[]⟩,.slice none 0 0] 27 (0,0)):=zac _ rfl
 have hB0:=zam w (.cells #[.int .i64 0,.int .i64 0,.string ⟨#[]⟩,.slice none 0 0] 27)
 have HBX:=yb hbx
 have HB0:=yb hB0
 obtain ⟨V,hV⟩:∃V,V=zaP (bl s):=⟨_,rfl⟩
 rw [<-hV]
 have HV:=yb hV
 clear hV hbx hB0
 obtain ⟨c1,hc1⟩:∃c,hd1 s 45=c:=⟨_,rfl⟩
 obtain ⟨c2,hc2⟩:∃c,hd1 s 43=c:=⟨_,rfl⟩
 have HP1:=yb (fun W=>pre_any s 45 W (by omega))
 have HP2:=yb (fun W=>pre_any s 43 W (by omega))
 rw [hc1] at HP1
 rw [hc2] at HP2
 have HC1:=yb hc1
 have HC2:=yb hc2
 clear hc1 hc2
 cases c1
 case true =>
  have hz:=(zdZ HC1.out).2
  have HS:=yb (show V=zbb (-1) (bl (s.extract 1 s.size)) by
   rw [HV.out,zaP,body_from (.inl (zdZ HC1.out).1) hz];unfold zc7;rw [yg (zdZ HC1.out).1])
  have hsz:(s.extract 1 s.size).size<=400000:=by rw [ByteArray.size_extract];omega
  go_enter Tryz.func198,Tryz.ntmps198
  go_wp2_with (go_at_call 143;refine (HP1.out _).mono ?_;rintro e w' ⟨rfl,rfl⟩)
  go_quiet (fail)
  generalize s.extract 1 s.size=b at *
  go_wp2_with fail
  refine (cut_any b _ (by omega)).mono ?_
  rintro e w' ⟨F,R,rfl,h1,h2,h3,h4,q,rfl⟩
  have HK2:=yb (show (((w.alloc (.cells #[.int .i64 0,.int .i64 0,.string ⟨#[]⟩,.slice none 0 0] 27)).drewN nq).drewN q).heap[w.heap.size]?=some (.cells #[.int .i64 0,.int .i64 0,.string ⟨#[]⟩,.slice none 0 0] 27 (0,0)) from HBX.out)
  have HB2:=yb (show Below w.heap.size w (((w.alloc (.cells #[.int .i64 0,.int .i64 0,.string ⟨#[]⟩,.slice none 0 0] 27)).drewN nq).drewN q) from zah (zah HB0.out nq) q)
  generalize (((w.alloc (.cells #[.int .i64 0,.int .i64 0,.string ⟨#[]⟩,.slice none 0 0] 27)).drewN nq).drewN q)=w2 at *
  have HF:=yb h1
  have HR:=yb h2
  obtain ⟨pt,hpt⟩:∃pt,zep (bl b)=pt:=⟨_,rfl⟩
  rw [hpt]
  have HPT:=yb hpt
  clear h1 h2 hpt
  have hw2:=HB2.out.size
  have HALF:=yb (fun W=>zer F W)
  have HALR:=yb (fun W=>zer R W)
  by_cases hz:F.size+R.size=0
  ·have HL:=yb (show V=(0,0,11) by
    rw [HS.out];unfold zbb;rw [yg (.inl (by rw [<-HF.out,<-HR.out,zaG,zaG];exact hz))])
   have hz0:(((F.size:Int)+(R.size:Int))==0)=true:=by rw [beq_iff_eq];omega
   obtain ⟨⟨k0,k1,k2,k3⟩,f0,f1,f2,f3⟩:=zaf HK2.out
   go_wp2
   refine yi (zaa rfl _ _ w.heap.size 27 _ (0,0) _ rfl (set4 HK2.out _ _ _ _) Tryz.underlying27 rfl zao _ rfl) rfl ⟨?_,zad HB2.out (yp _) _ _ _ _⟩
   rw [HL.out]
   rfl
  ·have hz0:(((F.size:Int)+(R.size:Int))==0)=false:=by rw [yf];omega
   obtain ⟨cF,hcF⟩:∃c,(bl F).all isDg=c:=⟨_,rfl⟩
   obtain ⟨cR,hcR⟩:∃c,(bl R).all isDg=c:=⟨_,rfl⟩
   rw [hcF] at HALF
   rw [hcR] at HALR
   have HCF:=yb hcF
   have HCR:=yb hcR
   clear hcF hcR
   cases cF
   case false =>
    have HL:=yb (show V=(0,0,11) by
     rw [HS.out];unfold zbb;rw [yg (.inr (.inl (by rw [<-HF.out];exact HCF.out)))])
    go_wp2_with fail
    refine (HALF.out _).mono ?_
    rintro e w3 ⟨rfl,hb3⟩
    have h3k:=zab hb3 HK2.out
    have HB3:=yb (HB2.out.trans (hb3.mono hw2))
    obtain ⟨⟨k0,k1,k2,k3⟩,f0,f1,f2,f3⟩:=zaf h3k
    have HK3:=yb h3k
    clear h3k hb3
    go_wp2
    refine yi (zaa rfl _ _ w.heap.size 27 _ (0,0) _ rfl (set4 HK3.out _ _ _ _) Tryz.underlying27 rfl zao _ rfl) rfl ⟨?_,zad HB3.out (yp _) _ _ _ _⟩
    rw [HL.out]
    rfl
   go_wp2_with fail
   refine (HALF.out _).mono ?_
   rintro e w3 ⟨rfl,hb3⟩
   have HK3:=yb (zab hb3 HK2.out)
   have HB3:=yb (HB2.out.trans (hb3.mono hw2))
   clear hb3
   go_wp2_with fail
   refine (HALR.out _).mono ?_
   rintro e w4 ⟨rfl,hb4⟩
   have HK4:=yb (zab hb4 HK3.out)
   have HB4:=yo HB3 hb4
   clear hb4
   cases cR
   case false =>
    have HL:=yb (show V=(0,0,11) by
     rw [HS.out];unfold zbb;rw [yg (.inr (.inr (by rw [<-HR.out];exact HCR.out)))])
    obtain ⟨⟨k0,k1,k2,k3⟩,f0,f1,f2,f3⟩:=zaf HK4.out
    go_wp2
    refine yi (zaa rfl _ _ w.heap.size 27 _ (0,0) _ rfl (set4 HK4.out _ _ _ _) Tryz.underlying27 rfl zao _ rfl) rfl ⟨?_,zad HB4.out (yp _) _ _ _ _⟩
    rw [HL.out]
    rfl
   have hd0:bl (⟨#[48]⟩++F:ByteArray)=48::bl F:=by rw [bl_app];rfl
   have hdig:=fun W=>zcy (⟨#[48]⟩++F) W
   rw [hd0,digits0 _ HCF.out] at hdig
   have HDIG:=yb hdig
   have HL:=yb (show V=if 2147483647<valD (bl F) then (0,0,5) else if pt=false then (2,(-1:Int)*(valD (bl F):Nat),0) else if 2147483647000000<valD (bl F)*1000000+mil (bl R) then (0,0,5) else (3,(-1:Int)*((valD (bl F)*1000000+mil (bl R):Nat):Int),0) by
    rw [HS.out];unfold zbb
    rw [yh (by
     rintro (h|h|h)
     ·rw [<-HF.out,<-HR.out,zaG,zaG] at h;exact hz h
     ·rw [<-HF.out,HCF.out] at h;cases h
     ·rw [<-HR.out,HCR.out] at h;cases h),HPT.out,<-HF.out,<-HR.out])
   have HMIL:=yb (fun W=>zcr R W (by omega) HCR.out)
   have hml:=zgg (bl R) HCR.out
   have hszF:(⟨#[48]⟩++F:ByteArray).size=F.size+1:=by rw [zeX,Nat.add_comm];rfl
   clear hdig hd0
   generalize valD (bl F)=n at *
   generalize mil (bl R)=m at *
   by_cases hov:2147483647<n
   ·rw [yg hov] at HDIG
    rw [yg hov] at HL
    clear hov
    go_wp2_with fail
    refine (HDIG.out _).mono ?_
    rintro e w5 ⟨rfl,hb5⟩
    have HK5:=yb (zab hb5 HK4.out)
    have HB5:=yo HB4 hb5
    obtain ⟨⟨k0,k1,k2,k3⟩,f0,f1,f2,f3⟩:=zaf HK5.out
    clear hb5
    go_wp2
    refine yi (zaa rfl _ _ w.heap.size 27 _ (0,0) _ rfl (set4 HK5.out _ _ _ _) Tryz.underlying27 rfl zao _ rfl) rfl ⟨?_,zad HB5.out (yp _) _ _ _ _⟩
    rw [HL.out]
    rfl
   rw [yh hov] at HDIG
   rw [yh hov] at HL
   have hn:(n:Int)<=2147483647:=by omega
   clear hov
   go_wp2_with fail
   refine (HDIG.out _).mono ?_
   rintro e w5 ⟨rfl,hb5⟩
   have HK5:=yb (zab hb5 HK4.out)
   have HB5:=yo HB4 hb5
   obtain ⟨⟨k0,k1,k2,k3⟩,f0,f1,f2,f3⟩:=zaf HK5.out
   clear hb5
   cases pt
   case false =>
    rw [yg rfl] at HL
    go_wp2
    refine yi (zaa rfl _ _ w.heap.size 27 _ (0,0) _ rfl (set4 HK5.out _ _ _ _) Tryz.underlying27 rfl zao _ rfl) rfl ⟨?_,zad HB5.out (yp _) _ _ _ _⟩
    rw [HL.out]
    simp [valC,zbe]
   rw [yh (by decide)] at HL
   clear k0 k1 k2 k3 f0 f1 f2 f3
   go_wp2_with fail
   refine (HMIL.out _).mono ?_
   rintro e w6 ⟨rfl,hb6⟩
   have HK6:=yb (zab hb6 HK5.out)
   have HB6:=yo HB5 hb6
   clear hb6
   have hw6:=(Array.getElem?_eq_some_iff.1 HK6.out).1
   have hck:zb9 3 (-((n:Int)*1000000+(m:Int))) (bareV ⟨#[]⟩ 0)=if 2147483647000000<n*1000000+m then 2 else 0:=by
    unfold zb9
    by_cases hb:2147483647000000<n*1000000+m
    ·rw [yg hb,yh];rintro ⟨-,h|h⟩<;>omega
    ·rw [yh hb,yg];exact ⟨rfl,.inr ⟨rfl,by omega,by omega⟩⟩
   have HCK:=yb (fun W=>zff 3 (-((n:Int)*1000000+(m:Int))) ⟨#[]⟩ none 0 0 W (by omega))
   rw [hck] at HCK
   clear hck
   go_wp2_with fail
   refine (HCK.out _).mono ?_
   rintro e w7 ⟨rfl,hb7⟩
   have HK7:=yb (zab hb7 (zak _ HK6.out))
   have hq7:=zab hb7 (zac _ rfl)
   have HB7:=yb ((HB6.out.alloc (Nat.le_of_lt hw6) (.cells #[.int .i64 3,.int .i64 (-((n:Int)*1000000+(m:Int))),.string ⟨#[]⟩,.slice none 0 0] 27)).trans (hb7.mono (by rw [zan];omega)))
   obtain ⟨⟨k0,k1,k2,k3⟩,f0,f1,f2,f3⟩:=zaf HK7.out
   obtain ⟨⟨g0,g1,g2,g3⟩,-⟩:=zaf hq7
   clear hb7 hq7
   by_cases hbig:2147483647000000<n*1000000+m
   ·rw [yg hbig] at HL |-
    clear hbig
    go_wp2
    refine yi (zaa rfl _ _ w.heap.size 27 _ (0,0) _ rfl (set4 HK7.out _ _ _ _) Tryz.underlying27 rfl zao _ rfl) rfl ⟨?_,zad HB7.out (yp _) _ _ _ _⟩
    rw [HL.out]
    rfl
   ·rw [yh hbig] at HL |-
    clear hbig
    go_wp2
    refine yi (zaa rfl _ _ w.heap.size 27 _ (0,0) _ rfl (set4 HK7.out _ _ _ _) Tryz.underlying27 rfl zao _ rfl) rfl ⟨?_,zad HB7.out (yp _) _ _ _ _⟩
    rw [HL.out]
    simp [valC,zbe]
 case false =>
 cases c2
 case true =>
  have hz:=(zdZ HC2.out).2
  have HS:=yb (show V=zbb 1 (bl (s.extract 1 s.size)) by
   rw [HV.out,zaP,body_from (.inr (zdZ HC2.out).1) hz];unfold zc7;rw [yh (zd6 HC1.out)])
  have hsz:(s.extract 1 s.size).size<=400000:=by rw [ByteArray.size_extract];omega
  go_enter Tryz.func198,Tryz.ntmps198
  go_wp2_with (go_at_call 143;first|(refine (HP1.out _).mono ?_;rintro e w' ⟨rfl,rfl⟩)|(refine (HP2.out _).mono ?_;rintro e w' ⟨rfl,rfl⟩))
  generalize s.extract 1 s.size=b at *
  go_wp2_with fail
  refine (cut_any b _ (by omega)).mono ?_
  rintro e w' ⟨F,R,rfl,h1,h2,h3,h4,q,rfl⟩
  have HK2:=yb (show ((w.alloc (.cells #[.int .i64 0,.int .i64 0,.string ⟨#[]⟩,.slice none 0 0] 27)).drewN q).heap[w.heap.size]?=some (.cells #[.int .i64 0,.int .i64 0,.string ⟨#[]⟩,.slice none 0 0] 27 (0,0)) from HBX.out)
  have HB2:=yb (show Below w.heap.size w ((w.alloc (.cells #[.int .i64 0,.int .i64 0,.string ⟨#[]⟩,.slice none 0 0] 27)).drewN q) from zah HB0.out q)
  generalize ((w.alloc (.cells #[.int .i64 0,.int .i64 0,.string ⟨#[]⟩,.slice none 0 0] 27)).drewN q)=w2 at *
  have HF:=yb h1
  have HR:=yb h2
  obtain ⟨pt,hpt⟩:∃pt,zep (bl b)=pt:=⟨_,rfl⟩
  rw [hpt]
  have HPT:=yb hpt
  clear h1 h2 hpt
  have hw2:=HB2.out.size
  have HALF:=yb (fun W=>zer F W)
  have HALR:=yb (fun W=>zer R W)
  by_cases hz:F.size+R.size=0
  ·have HL:=yb (show V=(0,0,11) by
    rw [HS.out];unfold zbb;rw [yg (.inl (by rw [<-HF.out,<-HR.out,zaG,zaG];exact hz))])
   have hz0:(((F.size:Int)+(R.size:Int))==0)=true:=by rw [beq_iff_eq];omega
   obtain ⟨⟨k0,k1,k2,k3⟩,f0,f1,f2,f3⟩:=zaf HK2.out
   go_wp2
   refine yi (zaa rfl _ _ w.heap.size 27 _ (0,0) _ rfl (set4 HK2.out _ _ _ _) Tryz.underlying27 rfl zao _ rfl) rfl ⟨?_,zad HB2.out (yp _) _ _ _ _⟩
   rw [HL.out]
   rfl
  ·have hz0:(((F.size:Int)+(R.size:Int))==0)=false:=by rw [yf];omega
   obtain ⟨cF,hcF⟩:∃c,(bl F).all isDg=c:=⟨_,rfl⟩
   obtain ⟨cR,hcR⟩:∃c,(bl R).all isDg=c:=⟨_,rfl⟩
   rw [hcF] at HALF
   rw [hcR] at HALR
   have HCF:=yb hcF
   have HCR:=yb hcR
   clear hcF hcR
   cases cF
   case false =>
    have HL:=yb (show V=(0,0,11) by
     rw [HS.out];unfold zbb;rw [yg (.inr (.inl (by rw [<-HF.out];exact HCF.out)))])
    go_wp2_with fail
    refine (HALF.out _).mono ?_
    rintro e w3 ⟨rfl,hb3⟩
    have h3k:=zab hb3 HK2.out
    have HB3:=yb (HB2.out.trans (hb3.mono hw2))
    obtain ⟨⟨k0,k1,k2,k3⟩,f0,f1,f2,f3⟩:=zaf h3k
    have HK3:=yb h3k
    clear h3k hb3
    go_wp2
    refine yi (zaa rfl _ _ w.heap.size 27 _ (0,0) _ rfl (set4 HK3.out _ _ _ _) Tryz.underlying27 rfl zao _ rfl) rfl ⟨?_,zad HB3.out (yp _) _ _ _ _⟩
    rw [HL.out]
    rfl
   go_wp2_with fail
   refine (HALF.out _).mono ?_
   rintro e w3 ⟨rfl,hb3⟩
   have HK3:=yb (zab hb3 HK2.out)
   have HB3:=yb (HB2.out.trans (hb3.mono hw2))
   clear hb3
   go_wp2_with fail
   refine (HALR.out _).mono ?_
   rintro e w4 ⟨rfl,hb4⟩
   have HK4:=yb (zab hb4 HK3.out)
   have HB4:=yo HB3 hb4
   clear hb4
   cases cR
   case false =>
    have HL:=yb (show V=(0,0,11) by
     rw [HS.out];unfold zbb;rw [yg (.inr (.inr (by rw [<-HR.out];exact HCR.out)))])
    obtain ⟨⟨k0,k1,k2,k3⟩,f0,f1,f2,f3⟩:=zaf HK4.out
    go_wp2
    refine yi (zaa rfl _ _ w.heap.size 27 _ (0,0) _ rfl (set4 HK4.out _ _ _ _) Tryz.underlying27 rfl zao _ rfl) rfl ⟨?_,zad HB4.out (yp _) _ _ _ _⟩
    rw [HL.out]
    rfl
   have hd0:bl (⟨#[48]⟩++F:ByteArray)=48::bl F:=by rw [bl_app];rfl
   have hdig:=fun W=>zcy (⟨#[48]⟩++F) W
   rw [hd0,digits0 _ HCF.out] at hdig
   have HDIG:=yb hdig
   have HL:=yb (show V=if 2147483647<valD (bl F) then (0,0,5) else if pt=false then (2,(1:Int)*(valD (bl F):Nat),0) else if 2147483647000000<valD (bl F)*1000000+mil (bl R) then (0,0,5) else (3,(1:Int)*((valD (bl F)*1000000+mil (bl R):Nat):Int),0) by
    rw [HS.out];unfold zbb
    rw [yh (by
     rintro (h|h|h)
     ·rw [<-HF.out,<-HR.out,zaG,zaG] at h;exact hz h
     ·rw [<-HF.out,HCF.out] at h;cases h
     ·rw [<-HR.out,HCR.out] at h;cases h),HPT.out,<-HF.out,<-HR.out])
   have HMIL:=yb (fun W=>zcr R W (by omega) HCR.out)
   have hml:=zgg (bl R) HCR.out
   have hszF:(⟨#[48]⟩++F:ByteArray).size=F.size+1:=by rw [zeX,Nat.add_comm];rfl
   clear hdig hd0
   generalize valD (bl F)=n at *
   generalize mil (bl R)=m at *
   by_cases hov:2147483647<n
   ·rw [yg hov] at HDIG
    rw [yg hov] at HL
    clear hov
    go_wp2_with fail
    refine (HDIG.out _).mono ?_
    rintro e w5 ⟨rfl,hb5⟩
    have HK5:=yb (zab hb5 HK4.out)
    have HB5:=yo HB4 hb5
    obtain ⟨⟨k0,k1,k2,k3⟩,f0,f1,f2,f3⟩:=zaf HK5.out
    clear hb5
    go_wp2
    refine yi (zaa rfl _ _ w.heap.size 27 _ (0,0) _ rfl (set4 HK5.out _ _ _ _) Tryz.underlying27 rfl zao _ rfl) rfl ⟨?_,zad HB5.out (yp _) _ _ _ _⟩
    rw [HL.out]
    rfl
   rw [yh hov] at HDIG
   rw [yh hov] at HL
   have hn:(n:Int)<=2147483647:=by omega
   clear hov
   go_wp2_with fail
   refine (HDIG.out _).mono ?_
   rintro e w5 ⟨rfl,hb5⟩
   have HK5:=yb (zab hb5 HK4.out)
   have HB5:=yo HB4 hb5
   obtain ⟨⟨k0,k1,k2,k3⟩,f0,f1,f2,f3⟩:=zaf HK5.out
   clear hb5
   cases pt
   case false =>
    rw [yg rfl] at HL
    go_wp2
    refine yi (zaa rfl _ _ w.heap.size 27 _ (0,0) _ rfl (set4 HK5.out _ _ _ _) Tryz.underlying27 rfl zao _ rfl) rfl ⟨?_,zad HB5.out (yp _) _ _ _ _⟩
    rw [HL.out]
    simp [valC,zbe]
   rw [yh (by decide)] at HL
   clear k0 k1 k2 k3 f0 f1 f2 f3
   go_wp2_with fail
   refine (HMIL.out _).mono ?_
   rintro e w6 ⟨rfl,hb6⟩
   have HK6:=yb (zab hb6 HK5.out)
   have HB6:=yo HB5 hb6
   clear hb6
   have hw6:=(Array.getElem?_eq_some_iff.1 HK6.out).1
   have hck:zb9 3 ((n:Int)*1000000+(m:Int)) (bareV ⟨#[]⟩ 0)=if 2147483647000000<n*1000000+m then 2 else 0:=by
    unfold zb9
    by_cases hb:2147483647000000<n*1000000+m
    ·rw [yg hb,yh];rintro ⟨-,h|h⟩<;>omega
    ·rw [yh hb,yg];exact ⟨rfl,.inr ⟨rfl,by omega,by omega⟩⟩
   have HCK:=yb (fun W=>zff 3 ((n:Int)*1000000+(m:Int)) ⟨#[]⟩ none 0 0 W (by omega))
   rw [hck] at HCK
   clear hck
   go_wp2_with fail
   refine (HCK.out _).mono ?_
   rintro e w7 ⟨rfl,hb7⟩
   have HK7:=yb (zab hb7 (zak _ HK6.out))
   have hq7:=zab hb7 (zac _ rfl)
   have HB7:=yb ((HB6.out.alloc (Nat.le_of_lt hw6) (.cells #[.int .i64 3,.int .i64 ((n:Int)*1000000+(m:Int)),.string ⟨#[]⟩,.slice none 0 0] 27)).trans (hb7.mono (by rw [zan];omega)))
   obtain ⟨⟨k0,k1,k2,k3⟩,f0,f1,f2,f3⟩:=zaf HK7.out
   obtain ⟨⟨g0,g1,g2,g3⟩,-⟩:=zaf hq7
   clear hb7 hq7
   by_cases hbig:2147483647000000<n*1000000+m
   ·rw [yg hbig] at HL |-
    clear hbig
    go_wp2
    refine yi (zaa rfl _ _ w.heap.size 27 _ (0,0) _ rfl (set4 HK7.out _ _ _ _) Tryz.underlying27 rfl zao _ rfl) rfl ⟨?_,zad HB7.out (yp _) _ _ _ _⟩
    rw [HL.out]
    rfl
   ·rw [yh hbig] at HL |-
    clear hbig
    go_wp2
    refine yi (zaa rfl _ _ w.heap.size 27 _ (0,0) _ rfl (set4 HK7.out _ _ _ _) Tryz.underlying27 rfl zao _ rfl) rfl ⟨?_,zad HB7.out (yp _) _ _ _ _⟩
    rw [HL.out]
    simp [valC,zbe]
 case false =>
  have HS:=yb (show V=zbb 1 (bl s) by
   rw [HV.out,zaP,show zc6 (bl s)=bl s from by unfold zc6;rw [yh (by rintro (h|h);exact zd6 HC1.out h;exact zd6 HC2.out h)]];unfold zc7;rw [yh (zd6 HC1.out)])
  have hsz:=hs
  obtain ⟨b,hb⟩:∃b,b=s:=⟨_,rfl⟩
  rw [<-hb] at HS
  go_enter Tryz.func198,Tryz.ntmps198
  go_wp2_with (go_at_call 143;first|(refine (HP1.out _).mono ?_;rintro e w' ⟨rfl,rfl⟩)|(refine (HP2.out _).mono ?_;rintro e w' ⟨rfl,rfl⟩))
  subst hb
  go_wp2_with fail
  refine (cut_any b _ (by omega)).mono ?_
  rintro e w' ⟨F,R,rfl,h1,h2,h3,h4,q,rfl⟩
  have HK2:=yb (show ((w.alloc (.cells #[.int .i64 0,.int .i64 0,.string ⟨#[]⟩,.slice none 0 0] 27)).drewN q).heap[w.heap.size]?=some (.cells #[.int .i64 0,.int .i64 0,.string ⟨#[]⟩,.slice none 0 0] 27 (0,0)) from HBX.out)
  have HB2:=yb (show Below w.heap.size w ((w.alloc (.cells #[.int .i64 0,.int .i64 0,.string ⟨#[]⟩,.slice none 0 0] 27)).drewN q) from zah HB0.out q)
  generalize ((w.alloc (.cells #[.int .i64 0,.int .i64 0,.string ⟨#[]⟩,.slice none 0 0] 27)).drewN q)=w2 at *
  have HF:=yb h1
  have HR:=yb h2
  obtain ⟨pt,hpt⟩:∃pt,zep (bl b)=pt:=⟨_,rfl⟩
  rw [hpt]
  have HPT:=yb hpt
  clear h1 h2 hpt
  have hw2:=HB2.out.size
  have HALF:=yb (fun W=>zer F W)
  have HALR:=yb (fun W=>zer R W)
  by_cases hz:F.size+R.size=0
  ·have HL:=yb (show V=(0,0,11) by
    rw [HS.out];unfold zbb;rw [yg (.inl (by rw [<-HF.out,<-HR.out,zaG,zaG];exact hz))])
   have hz0:(((F.size:Int)+(R.size:Int))==0)=true:=by rw [beq_iff_eq];omega
   obtain ⟨⟨k0,k1,k2,k3⟩,f0,f1,f2,f3⟩:=zaf HK2.out
   go_wp2
   refine yi (zaa rfl _ _ w.heap.size 27 _ (0,0) _ rfl (set4 HK2.out _ _ _ _) Tryz.underlying27 rfl zao _ rfl) rfl ⟨?_,zad HB2.out (yp _) _ _ _ _⟩
   rw [HL.out]
   rfl
  ·have hz0:(((F.size:Int)+(R.size:Int))==0)=false:=by rw [yf];omega
   obtain ⟨cF,hcF⟩:∃c,(bl F).all isDg=c:=⟨_,rfl⟩
   obtain ⟨cR,hcR⟩:∃c,(bl R).all isDg=c:=⟨_,rfl⟩
   rw [hcF] at HALF
   rw [hcR] at HALR
   have HCF:=yb hcF
   have HCR:=yb hcR
   clear hcF hcR
   cases cF
   case false =>
    have HL:=yb (show V=(0,0,11) by
     rw [HS.out];unfold zbb;rw [yg (.inr (.inl (by rw [<-HF.out];exact HCF.out)))])
    go_wp2_with fail
    refine (HALF.out _).mono ?_
    rintro e w3 ⟨rfl,hb3⟩
    have h3k:=zab hb3 HK2.out
    have HB3:=yb (HB2.out.trans (hb3.mono hw2))
    obtain ⟨⟨k0,k1,k2,k3⟩,f0,f1,f2,f3⟩:=zaf h3k
    have HK3:=yb h3k
    clear h3k hb3
    go_wp2
    refine yi (zaa rfl _ _ w.heap.size 27 _ (0,0) _ rfl (set4 HK3.out _ _ _ _) Tryz.underlying27 rfl zao _ rfl) rfl ⟨?_,zad HB3.out (yp _) _ _ _ _⟩
    rw [HL.out]
    rfl
   go_wp2_with fail
   refine (HALF.out _).mono ?_
   rintro e w3 ⟨rfl,hb3⟩
   have HK3:=yb (zab hb3 HK2.out)
   have HB3:=yb (HB2.out.trans (hb3.mono hw2))
   clear hb3
   go_wp2_with fail
   refine (HALR.out _).mono ?_
   rintro e w4 ⟨rfl,hb4⟩
   have HK4:=yb (zab hb4 HK3.out)
   have HB4:=yo HB3 hb4
   clear hb4
   cases cR
   case false =>
    have HL:=yb (show V=(0,0,11) by
     rw [HS.out];unfold zbb;rw [yg (.inr (.inr (by rw [<-HR.out];exact HCR.out)))])
    obtain ⟨⟨k0,k1,k2,k3⟩,f0,f1,f2,f3⟩:=zaf HK4.out
    go_wp2
    refine yi (zaa rfl _ _ w.heap.size 27 _ (0,0) _ rfl (set4 HK4.out _ _ _ _) Tryz.underlying27 rfl zao _ rfl) rfl ⟨?_,zad HB4.out (yp _) _ _ _ _⟩
    rw [HL.out]
    rfl
   have hd0:bl (⟨#[48]⟩++F:ByteArray)=48::bl F:=by rw [bl_app];rfl
   have hdig:=fun W=>zcy (⟨#[48]⟩++F) W
   rw [hd0,digits0 _ HCF.out] at hdig
   have HDIG:=yb hdig
   have HL:=yb (show V=if 2147483647<valD (bl F) then (0,0,5) else if pt=false then (2,(1:Int)*(valD (bl F):Nat),0) else if 2147483647000000<valD (bl F)*1000000+mil (bl R) then (0,0,5) else (3,(1:Int)*((valD (bl F)*1000000+mil (bl R):Nat):Int),0) by
    rw [HS.out];unfold zbb
    rw [yh (by
     rintro (h|h|h)
     ·rw [<-HF.out,<-HR.out,zaG,zaG] at h;exact hz h
     ·rw [<-HF.out,HCF.out] at h;cases h
     ·rw [<-HR.out,HCR.out] at h;cases h),HPT.out,<-HF.out,<-HR.out])
   have HMIL:=yb (fun W=>zcr R W (by omega) HCR.out)
   have hml:=zgg (bl R) HCR.out
   have hszF:(⟨#[48]⟩++F:ByteArray).size=F.size+1:=by rw [zeX,Nat.add_comm];rfl
   clear hdig hd0
   generalize valD (bl F)=n at *
   generalize mil (bl R)=m at *
   by_cases hov:2147483647<n
   ·rw [yg hov] at HDIG
    rw [yg hov] at HL
    clear hov
    go_wp2_with fail
    refine (HDIG.out _).mono ?_
    rintro e w5 ⟨rfl,hb5⟩
    have HK5:=yb (zab hb5 HK4.out)
    have HB5:=yo HB4 hb5
    obtain ⟨⟨k0,k1,k2,k3⟩,f0,f1,f2,f3⟩:=zaf HK5.out
    clear hb5
    go_wp2
    refine yi (zaa rfl _ _ w.heap.size 27 _ (0,0) _ rfl (set4 HK5.out _ _ _ _) Tryz.underlying27 rfl zao _ rfl) rfl ⟨?_,zad HB5.out (yp _) _ _ _ _⟩
    rw [HL.out]
    rfl
   rw [yh hov] at HDIG
   rw [yh hov] at HL
   have hn:(n:Int)<=2147483647:=by omega
   clear hov
   go_wp2_with fail
   refine (HDIG.out _).mono ?_
   rintro e w5 ⟨rfl,hb5⟩
   have HK5:=yb (zab hb5 HK4.out)
   have HB5:=yo HB4 hb5
   obtain ⟨⟨k0,k1,k2,k3⟩,f0,f1,f2,f3⟩:=zaf HK5.out
   clear hb5
   cases pt
   case false =>
    rw [yg rfl] at HL
    go_wp2
    refine yi (zaa rfl _ _ w.heap.size 27 _ (0,0) _ rfl (set4 HK5.out _ _ _ _) Tryz.underlying27 rfl zao _ rfl) rfl ⟨?_,zad HB5.out (yp _) _ _ _ _⟩
    rw [HL.out]
    simp [valC,zbe]
   rw [yh (by decide)] at HL
   clear k0 k1 k2 k3 f0 f1 f2 f3
   go_wp2_with fail
   refine (HMIL.out _).mono ?_
   rintro e w6 ⟨rfl,hb6⟩
   have HK6:=yb (zab hb6 HK5.out)
   have HB6:=yo HB5 hb6
   clear hb6
   have hw6:=(Array.getElem?_eq_some_iff.1 HK6.out).1
   have hck:zb9 3 ((n:Int)*1000000+(m:Int)) (bareV ⟨#[]⟩ 0)=if 2147483647000000<n*1000000+m then 2 else 0:=by
    unfold zb9
    by_cases hb:2147483647000000<n*1000000+m
    ·rw [yg hb,yh];rintro ⟨-,h|h⟩<;>omega
    ·rw [yh hb,yg];exact ⟨rfl,.inr ⟨rfl,by omega,by omega⟩⟩
   have HCK:=yb (fun W=>zff 3 ((n:Int)*1000000+(m:Int)) ⟨#[]⟩ none 0 0 W (by omega))
   rw [hck] at HCK
   clear hck
   go_wp2_with fail
   refine (HCK.out _).mono ?_
   rintro e w7 ⟨rfl,hb7⟩
   have HK7:=yb (zab hb7 (zak _ HK6.out))
   have hq7:=zab hb7 (zac _ rfl)
   have HB7:=yb ((HB6.out.alloc (Nat.le_of_lt hw6) (.cells #[.int .i64 3,.int .i64 ((n:Int)*1000000+(m:Int)),.string ⟨#[]⟩,.slice none 0 0] 27)).trans (hb7.mono (by rw [zan];omega)))
   obtain ⟨⟨k0,k1,k2,k3⟩,f0,f1,f2,f3⟩:=zaf HK7.out
   obtain ⟨⟨g0,g1,g2,g3⟩,-⟩:=zaf hq7
   clear hb7 hq7
   by_cases hbig:2147483647000000<n*1000000+m
   ·rw [yg hbig] at HL |-
    clear hbig
    go_wp2
    refine yi (zaa rfl _ _ w.heap.size 27 _ (0,0) _ rfl (set4 HK7.out _ _ _ _) Tryz.underlying27 rfl zao _ rfl) rfl ⟨?_,zad HB7.out (yp _) _ _ _ _⟩
    rw [HL.out]
    rfl
   ·rw [yh hbig] at HL |-
    clear hbig
    go_wp2
    refine yi (zaa rfl _ _ w.heap.size 27 _ (0,0) _ rfl (set4 HK7.out _ _ _ _) Tryz.underlying27 rfl zao _ rfl) rfl ⟨?_,zad HB7.out (yp _) _ _ _ _⟩
    rw [HL.out]
    simp [valC,zbe]
def TxtEnd (w:World) (S:Nat->Prop) (p:Nat) (X:Src) (V:Option (List UInt8×List UInt8)) (e:Ending) (w':World):Prop :=
 zai S w w'/\match V with
 | none=>e=.returned (.tuple #[.agg (valC 0 0 zbe),.int .i64 (za6 X.yq)])
 | some (x,t)=>e=.returned (.tuple #[.agg (valC 4 0 (mkB x)),.int .i64 0])/\t.length<=X.bs.length/\w'.cell? ⟨p,3,none⟩=some (.int .i64 ((X.bs.length-t.length:Nat):Int))
theorem textV_nil (yq:Bool) (D:Nat) (out:List UInt8):zbf yq D out []=none:=by rw [zbf]
theorem textV_esc (yq:Bool) (D:Nat) (out:List UInt8) (t:List UInt8):zbf yq D out (92::t)=match escV yq t with|none=>none|some (x,k)=>zbf yq D (out++x) (t.drop k):=by rw [zbf];rfl
theorem textV_nl (yq:Bool) (D:Nat) (out:List UInt8) (t:List UInt8):zbf yq D out (13::t)=match zdU yq t with|none=>none|some k=>zbf yq D (out++[10]) (t.drop k):=by rw [zbf];rfl
theorem textV_in (yq:Bool) (D:Nat) (out:List UInt8) (t:List UInt8):zbf yq D out (40::t)=zbf yq (D+1) (out++[40]) t:=by rw [zbf];rfl
theorem textV_out (yq:Bool) (D:Nat) (out:List UInt8) (t:List UInt8):zbf yq D out (41::t)=if D=1 then some (out,t) else zbf yq (D-1) (out++[41]) t:=by rw [zbf];rfl
theorem zfZ (yq:Bool) (D:Nat) (out:List UInt8) (c:UInt8) (t:List UInt8) (h1:c≠92) (h2:c≠13) (h3:c≠40) (h4:c≠41):zbf yq D out (c::t)=zbf yq D (out++[c]) t:=by
 rw [zbf,yh h1,yh h2,yh h3,yh h4]
structure TxtAt (W0:World) (S:Nat->Prop) (p:Nat) (X:Src) (V:Option (List UInt8×List UInt8)) (D k:Nat) (out:List UInt8) (w':World):Prop where
 d1:1<=D
 d2:D<=k
 o:out.length<k
 le:k<=X.bs.length
 sc:zap W0 S p X out k w'
 v:V=zbf X.yq D out (X.bs.drop k)
def TxtI (W0:World) (S:Nat->Prop) (p:Nat) (X:Src) (V:Option (List UInt8×List UInt8)) (r:Nat) (m:Nat) (a:Act) (w':World):Prop :=
 ∃(D k:Nat) (out:List UInt8) (u5 u6 u7 u8 u9 u10 u11 u12 u13 u14 u15 u16 u17 u18 u19 u20 u21 u22 u23 u24 u25 u26 u27 u28 u29 u30 u31 u32 u33 u34 u35 u36 u37 u38 u39 u40 u41 u42 u43 u44 u45 u46 u47 u48 u49 u50 u51 u52 u53 u54 u55 u56 u57 u58 u59 u60 u61:Value),m=X.bs.length-k/\Hid (TxtAt W0 S p X V D k out w')/\a={ tmps:=#[.pointer (some ⟨p,0,none⟩),undef,.pointer (some ⟨r,0,none⟩),.int .i64 0,.int .i64 D,u5,u6,u7,u8,u9,u10,u11,u12,u13,u14,u15,u16,u17,u18,u19,u20,u21,u22,u23,u24,u25,u26,u27,u28,u29,u30,u31,u32,u33,u34,u35,u36,u37,u38,u39,u40,u41,u42,u43,u44,u45,u46,u47,u48,u49,u50,u51,u52,u53,u54,u55,u56,u57,u58,u59,u60,u61],defers:=[] }
theorem zbl {S:Nat->Prop} {w W:World} (h:zai S w W) {r:Nat} (hr:w.heap.size<=r) (y0 y1 y2 y3:Value) :
  zai S w ((((W.setCell ⟨r,0,none⟩ y0).setCell ⟨r,1,none⟩ y1).setCell ⟨r,2,none⟩ y2).setCell ⟨r,3,none⟩ y3) :=
 (((h.setCell (.inr hr) _).setCell (.inr hr) _).setCell (.inr hr) _).setCell (.inr hr) _
theorem za4 {W:World} {b r:Nat} (hb:b≠r) (y0 y1 y2 y3:Value) :
  ((((W.setCell ⟨r,0,none⟩ y0).setCell ⟨r,1,none⟩ y1).setCell ⟨r,2,none⟩ y2).setCell ⟨r,3,none⟩ y3).heap[b]?=W.heap[b]?:=by
 rw [heap_setCell_other _ _ _ _ hb,heap_setCell_other _ _ _ _ hb,heap_setCell_other _ _ _ _ hb,heap_setCell_other _ _ _ _ hb]
theorem zhb {w w':World} {S:Nat->Prop} {p:Nat} {X:Src} {V:Option (List UInt8×List UInt8)} (hV:V=none) (hk:zai S w w'):TxtEnd w S p X V (.returned (.tuple #[.agg (valC 0 0 zbe),.int .i64 (za6 X.yq)])) w':=by
 subst hV;exact ⟨hk,rfl⟩
theorem txt_some {w w':World} {S:Nat->Prop} {p:Nat} {X:Src} {V:Option (List UInt8×List UInt8)} {x t:List UInt8} (hV:V=some (x,t)) (hk:zai S w w') (ht:t.length<=X.bs.length)
  (hc:w'.cell? ⟨p,3,none⟩=some (.int .i64 ((X.bs.length-t.length:Nat):Int))):TxtEnd w S p X V (.returned (.tuple #[.agg (valC 4 0 (mkB x)),.int .i64 0])) w':=by
 subst hV;exact ⟨hk,rfl,ht,hc⟩
theorem esc_len (X:Src) (out:List UInt8) (k:Nat) (o2:List UInt8) (k2:Nat) (h:zct X out k=some (o2,k2)):o2.length<=out.length+1/\k<k2:=by
 unfold zct at h
 rw [Option.map_eq_some_iff] at h
 obtain ⟨⟨x,j⟩,hx,he⟩:=h
 simp only [Prod.mk.injEq] at he
 obtain ⟨rfl,rfl⟩:=he
 have:x.length<=1/\1<=j:=by
  cases hd:X.bs.drop k with
  | nil=>rw [hd] at hx;simp [escV] at hx
  | cons c t =>
   rw [hd] at hx
   rcases esc_idx c with ⟨-,n1,n2,n3,n4,n5⟩|rfl|rfl|rfl|rfl|rfl
   ·rw [zeY _ _ _ n1 n2 n3 n4 n5] at hx
    split at hx
    ·rw [octV_go,Option.map_map,Option.map_eq_some_iff] at hx
     obtain ⟨y,-,hy⟩:=hx
     simp only [Function.comp,Prod.mk.injEq] at hy
     obtain ⟨rfl,rfl⟩:=hy
     exact ⟨by simp,by omega⟩
    ·split at hx
     ·simp at hx;obtain ⟨rfl,rfl⟩:=hx;simp
     ·split at hx
      ·rw [Option.map_eq_some_iff] at hx
       obtain ⟨y,-,hy⟩:=hx
       simp only [Prod.mk.injEq] at hy
       obtain ⟨rfl,rfl⟩:=hy
       exact ⟨by simp,by omega⟩
      ·simp at hx;obtain ⟨rfl,rfl⟩:=hx;simp
   all_goals (simp [escV] at hx;obtain ⟨rfl,rfl⟩:=hx;simp)
 refine ⟨by rw [List.length_append];omega,by omega⟩
set_option maxHeartbeats 16000000 in
theorem text_any {w:World} {S:Nat->Prop} {p:Nat} {X:Src} {k:Nat} (h:ScQ w S p X [] k) (hk:1<=k) :
  Calls Tryz.prog 181 #[.pointer (some ⟨p,0,none⟩)] w (TxtEnd w S p X (zbf X.yq 1 [] (X.bs.drop k))):=by
 obtain ⟨V,hV⟩:∃V,V=zbf X.yq 1 [] (X.bs.drop k):=⟨_,rfl⟩
 rw [<-hV]
 obtain ⟨r,hr⟩:∃r,r=w.heap.size:=⟨_,rfl⟩
 have hsm:X.bs.length<=400000:=by obtain ⟨_,_,h⟩:=h;exact h.small
 have hSr:¬S r:=by obtain ⟨_,_,h⟩:=h;intro e;have:=(h.lt r e).2;omega
 have hle:k<=X.bs.length:=by obtain ⟨_,_,h⟩:=h;exact h.le
 have HBX:=yb (show (w.alloc (.cells #[.int .i64 0,.int .i64 0,.string ⟨#[]⟩,.slice none 0 0] 27)).heap[r]?=some (.cells #[.int .i64 0,.int .i64 0,.string ⟨#[]⟩,.slice none 0 0] 27 (0,0)) from zac _ hr)
 have HK0:=yb (show zai S w (w.alloc (.cells #[.int .i64 0,.int .i64 0,.string ⟨#[]⟩,.slice none 0 0] 27)) from (zai.refl S w).alloc _)
 have hq0:=h.keep (zam w (.cells #[.int .i64 0,.int .i64 0,.string ⟨#[]⟩,.slice none 0 0] 27))
 have HAT:=yb (show TxtAt (w.alloc (.cells #[.int .i64 0,.int .i64 0,.string ⟨#[]⟩,.slice none 0 0] 27)) S p X V 1 k [] _ from ⟨by omega,hk,by simp;omega,hle,zap.refl hq0,hV⟩)
 have HR:=yb hr
 have HRS:=yb hSr
 have HSP:=yb (show S p from (let ⟨_,_,h⟩:=h;h.own))
 have HRG:=yb (show w.heap.size<=r by omega)
 clear hV hr hSr h hk hq0
 go_enter Tryz.func181,Tryz.ntmps181
 go_wp2
 rw [<-HR.out]
 generalize w.alloc (.cells #[.int .i64 0,.int .i64 0,.string ⟨#[]⟩,.slice none 0 0] 27)=W0 at *
 refine zcq 0 (TxtI W0 S p X V r) rfl ?first ?pass
 case first =>
  intro hpass
  have HPASS:=yb hpass
  clear hpass
  go_wp2
  refine wp_label ?_
  rename_i K hK
  exact hK _ _ (HPASS.out _ _ _ ⟨1,k,[],_,_,_,_,_,_,_,_,_,_,_,_,_,_,_,_,_,_,_,_,_,_,_,_,_,_,_,_,_,_,_,_,_,_,_,_,_,_,_,_,_,_,_,_,_,_,_,_,_,_,_,_,_,_,_,_,_,rfl,HAT,rfl⟩)
 case pass =>
  rintro m a w' ⟨D,k,out,u5,u6,u7,u8,u9,u10,u11,u12,u13,u14,u15,u16,u17,u18,u19,u20,u21,u22,u23,u24,u25,u26,u27,u28,u29,u30,u31,u32,u33,u34,u35,u36,u37,u38,u39,u40,u41,u42,u43,u44,u45,u46,u47,u48,u49,u50,u51,u52,u53,u54,u55,u56,u57,u58,u59,u60,u61,hm,HA,rfl⟩
  obtain ⟨S1,hq1,hk1,hs1⟩:=HA.out.sc
  have hd1:=HA.out.d1
  have hd2:=HA.out.d2
  have ho:=HA.out.o
  have hkl:=HA.out.le
  have HV:=yb HA.out.v
  have HQ1:=yb hq1
  have HK1:=yb hk1
  have HS1:=yb hs1
  have HB1:=yb (hk1.obj HBX.out HRS.out)
  have HM:=yb hm
  have hP:=zcJ hq1
  unfold zeS u8C at hP
  clear hk1 hs1 hm HAT HA
  by_cases hkn:k<X.bs.length
  case neg =>
   rw [yh hkn] at hP
   have HP:=yb hP
   have HNONE:=yb (show V=none by rw [HV.out,zbd hkn];exact textV_nil _ _ _)
   have HO:=yb (fun q=>zdE (hq1.drewN q))
   clear hP hq1 hkn
   go_wp2_with fail
   refine HP.out.mono ?_
   rintro e w1 ⟨rfl,q,rfl⟩
   go_wp2_with fail
   refine (HO.out q).mono ?_
   rintro e w2 ⟨rfl,rfl⟩
   have HB2:=yb (show (w'.drewN q).heap[r]?=_ from HB1.out)
   obtain ⟨⟨k0,k1,k2,k3⟩,f0,f1,f2,f3⟩:=zaf HB2.out
   have HK2:=yb (zai.trans HK0.out (zai.trans HK1.out ((zai.refl S1 w').drewN q) HS1.out) (fun _ h=>.inl h))
   generalize w'.drewN q=w2 at *
   have HB9:=HB2
   have HK9:=HK2
   obtain ⟨⟨k0,k1,k2,k3⟩,f0,f1,f2,f3⟩:=zaf HB9.out
   go_wp2
   simp only [Exit.jump]
   refine yi (zaa rfl _ _ r 27 _ (0,0) _ rfl (set4 HB9.out _ _ _ _) Tryz.underlying27 rfl zao _ rfl) rfl ?_
   exact zhb HNONE.out (zbl HK9.out HRG.out _ _ _ _)
  case pos =>
   rw [yg hkn] at hP
   have hv:=HV.out
   rw [zay hkn] at hv
   have HMV:=yb (fun q=>(let ⟨_,_,h1⟩:=hq1.drewN q;h1.move (k+1) (by omega) (by omega)))
   have HC3:=yb (fun q=>(let ⟨_,_,h1⟩:=hq1.drewN q;(And.intro h1.cells.2.2.2.1 (h1.free 3))))
   have HP:=yb hP
   obtain ⟨c,hc⟩:∃c,c=X.bs.getD k 0:=⟨_,rfl⟩
   rw [<-hc] at HP hv
   clear hP hc hq1
   by_cases h92:c=92
   ·subst h92
    rw [textV_esc] at hv
    have HVE:=yb hv
    clear hv
    go_wp2_with fail
    refine HP.out.mono ?_
    rintro e w1 ⟨rfl,q,rfl⟩
    obtain ⟨c3,f3⟩:=HC3.out q
    obtain ⟨S2,q2,k2,s2⟩:=HMV.out q
    have HQ2:=yb q2
    have HK2:=yb (zai.trans HK1.out (zai.trans ((zai.refl S1 w').drewN q) k2 (fun _ h=>.inl h)) HS1.out)
    have HS2:=yb (fun b (hb:S2 b)=>(s2 b hb).elim (HS1.out b) (fun h=>Or.inr (Nat.le_trans HK1.out.size h)))
    clear q2 k2 s2
    go_wp2_with fail
    rw [show ((k:Int)+1)=((k+1:Nat):Int) from rfl]
    generalize (w'.drewN q).setCell ⟨p,3,none⟩ (.int .i64 ((k+1:Nat):Int))=w2 at *
    clear c3 f3
    have HO:=yb (escape_any HQ2.out (by omega))
    go_wp2_with fail
    refine HO.out.mono ?_
    rintro e w3 hstep
    have HST:=yb hstep
    clear hstep
    cases hES:zct X out (k+1) with
    | none =>
     rw [hES] at HST
     obtain ⟨rfl,o2,k2,hn⟩:=HST.out
     have HN9:=yb (zap.trans HK2.out HS2.out hn)
     have HNONE:=yb (show V=none by
      unfold zct at hES
      rw [Option.map_eq_none_iff] at hES
      rw [HVE.out,hES])
     clear HST hn hES
     obtain ⟨S9,hq9,hk9,hs9⟩:=HN9.out
     have HQ9:=yb hq9
     have HB9:=yb (hk9.obj HBX.out HRS.out)
     have HK9:=yb (zai.trans HK0.out hk9 (fun _ h=>.inl h))
     have HOP:=yb (zdE hq9)
     clear hq9 hk9 hs9
     go_wp2_with fail
     refine (HOP.out).mono ?_
     rintro e w9 ⟨rfl,rfl⟩
     obtain ⟨⟨k0,k1,k2,k3⟩,f0,f1,f2,f3⟩:=zaf HB9.out
     go_wp2
     simp only [Exit.jump]
     refine yi (zaa rfl _ _ r 27 _ (0,0) _ rfl (set4 HB9.out _ _ _ _) Tryz.underlying27 rfl zao _ rfl) rfl ?_
     exact zhb HNONE.out (zbl HK9.out HRG.out _ _ _ _)
    | some ok =>
     obtain ⟨o2,k2⟩:=ok
     rw [hES] at HST
     obtain ⟨rfl,hn⟩:=HST.out
     have hel:=esc_len X out (k+1) o2 k2 hES
     have HN8:=yb (zap.trans HK2.out HS2.out hn)
     have hkl2:k2<=X.bs.length:=by obtain ⟨_,⟨_,_,h⟩,_⟩:=hn;exact h.le
     have HVV:=yb (show V=zbf X.yq D o2 (X.bs.drop k2) by
      unfold zct at hES
      rw [Option.map_eq_some_iff] at hES
      obtain ⟨⟨x,j⟩,e1,e2⟩:=hES
      simp only [Prod.mk.injEq] at e2
      obtain ⟨rfl,rfl⟩:=e2
      rw [HVE.out,e1]
      simp only
      rw [List.drop_drop])
     clear HST hn hES
     go_wp2
     go_step3
     exact ⟨rfl,X.bs.length-k2,by have:=HM.out;omega,D,k2,o2,_,_,_,_,_,_,_,_,_,_,_,_,_,_,_,_,_,_,_,_,_,_,_,_,_,_,_,_,_,_,_,_,_,_,_,_,_,_,_,_,_,_,_,_,_,_,_,_,_,_,_,_,_,_,_,_,_,rfl,yb ⟨by omega,by omega,by omega,hkl2,HN8.out,HVV.out⟩,rfl⟩
   have h92d:((c.toNat:Int)==92)=false:=by rw [yf];intro e;exact h92 (UInt8.toNat_inj.1 (Int.ofNat_inj.1 e))
   by_cases h13:c=13
   ·subst h13
    rw [textV_nl] at hv
    have HVE:=yb hv
    clear hv h92 h92d
    go_wp2_with fail
    refine HP.out.mono ?_
    rintro e w1 ⟨rfl,q,rfl⟩
    obtain ⟨c3,f3⟩:=HC3.out q
    obtain ⟨S2,q2,k2,s2⟩:=HMV.out q
    have HQ2:=yb q2
    have HK2:=yb (zai.trans HK1.out (zai.trans ((zai.refl S1 w').drewN q) k2 (fun _ h=>.inl h)) HS1.out)
    have HS2:=yb (fun b (hb:S2 b)=>(s2 b hb).elim (HS1.out b) (fun h=>Or.inr (Nat.le_trans HK1.out.size h)))
    clear q2 k2 s2
    go_wp2_with fail
    rw [show ((k:Int)+1)=((k+1:Nat):Int) from rfl]
    generalize (w'.drewN q).setCell ⟨p,3,none⟩ (.int .i64 ((k+1:Nat):Int))=w2 at *
    clear c3 f3
    have HO:=yb (line_any HQ2.out)
    go_wp2_with fail
    refine HO.out.mono ?_
    rintro e w3 hstep
    have HST:=yb hstep
    clear hstep
    cases hES:zdU X.yq (X.bs.drop (k+1)) with
    | none =>
     rw [hES] at HST
     obtain ⟨rfl,o2,k2,hn⟩:=HST.out
     have HN9:=yb (zap.trans HK2.out HS2.out hn)
     have HNONE:=yb (show V=none by rw [HVE.out,hES])
     clear HST hn hES
     obtain ⟨S9,hq9,hk9,hs9⟩:=HN9.out
     have HQ9:=yb hq9
     have HB9:=yb (hk9.obj HBX.out HRS.out)
     have HK9:=yb (zai.trans HK0.out hk9 (fun _ h=>.inl h))
     have HOP:=yb (zdE hq9)
     clear hq9 hk9 hs9
     go_wp2_with fail
     refine (HOP.out).mono ?_
     rintro e w9 ⟨rfl,rfl⟩
     obtain ⟨⟨k0,k1,k2,k3⟩,f0,f1,f2,f3⟩:=zaf HB9.out
     go_wp2
     simp only [Exit.jump]
     refine yi (zaa rfl _ _ r 27 _ (0,0) _ rfl (set4 HB9.out _ _ _ _) Tryz.underlying27 rfl zao _ rfl) rfl ?_
     exact zhb HNONE.out (zbl HK9.out HRG.out _ _ _ _)
    | some j =>
     rw [hES] at HST
     obtain ⟨rfl,hn⟩:=HST.out
     have HN9:=yb (zap.trans HK2.out HS2.out hn)
     have hkl2:k+1+j<=X.bs.length:=by obtain ⟨_,⟨_,_,h⟩,_⟩:=hn;exact h.le
     have HVV:=yb (show V=zbf X.yq D (out++[10]) (X.bs.drop (k+1+j)) by
      rw [HVE.out,hES]
      simp only
      rw [List.drop_drop])
     have hD0:((D:Int)==0)=false:=by rw [yf];omega
     clear HST hn hES
     obtain ⟨S9,hq9,hk9,hs9⟩:=HN9.out
     have HK9:=yb hk9
     have HS9:=yb hs9
     have HWB:=yb (zaY hq9 10 10 rfl (by omega))
     clear hq9 hk9 hs9
     go_wp2_with fail
     refine HWB.out.mono ?_
     rintro e w8 ⟨rfl,hn8⟩
     have HN8:=yb (zap.trans HK9.out HS9.out hn8)
     clear hn8
     go_wp2
     go_step3
     exact ⟨rfl,X.bs.length-(k+1+j),by have:=HM.out;omega,D,(k+1+j),(out++[10]),_,_,_,_,_,_,_,_,_,_,_,_,_,_,_,_,_,_,_,_,_,_,_,_,_,_,_,_,_,_,_,_,_,_,_,_,_,_,_,_,_,_,_,_,_,_,_,_,_,_,_,_,_,_,_,_,_,rfl,yb ⟨by omega,by omega,by simp;omega,by omega,HN8.out,HVV.out⟩,rfl⟩
   have h13d:((c.toNat:Int)==13)=false:=by rw [yf];intro e;exact h13 (UInt8.toNat_inj.1 (Int.ofNat_inj.1 e))
   by_cases h40:c=40
   ·subst h40
    rw [textV_in] at hv
    have HVV:=yb hv
    have hD0:((D:Int)+1==0)=false:=by rw [yf];omega
    clear hv h92 h92d h13 h13d
    go_wp2_with fail
    refine HP.out.mono ?_
    rintro e w1 ⟨rfl,q,rfl⟩
    obtain ⟨c3,f3⟩:=HC3.out q
    obtain ⟨S2,q2,k2,s2⟩:=HMV.out q
    have HQ2:=yb q2
    have HK2:=yb (zai.trans HK1.out (zai.trans ((zai.refl S1 w').drewN q) k2 (fun _ h=>.inl h)) HS1.out)
    have HS2:=yb (fun b (hb:S2 b)=>(s2 b hb).elim (HS1.out b) (fun h=>Or.inr (Nat.le_trans HK1.out.size h)))
    clear q2 k2 s2
    go_wp2_with fail
    rw [show ((k:Int)+1)=((k+1:Nat):Int) from rfl]
    generalize (w'.drewN q).setCell ⟨p,3,none⟩ (.int .i64 ((k+1:Nat):Int))=w2 at *
    clear c3 f3
    have HN9:=yb (zap.trans HK2.out HS2.out (zap.refl HQ2.out))
    obtain ⟨S9,hq9,hk9,hs9⟩:=HN9.out
    have HK9:=yb hk9
    have HS9:=yb hs9
    have HWB:=yb (zaY hq9 40 40 rfl (by omega))
    clear hq9 hk9 hs9
    go_wp2_with fail
    refine HWB.out.mono ?_
    rintro e w8 ⟨rfl,hn8⟩
    have HN8:=yb (zap.trans HK9.out HS9.out hn8)
    clear hn8
    go_wp2
    go_step3
    exact ⟨rfl,X.bs.length-(k+1),by have:=HM.out;omega,(D+1),(k+1),(out++[40]),_,_,_,_,_,_,_,_,_,_,_,_,_,_,_,_,_,_,_,_,_,_,_,_,_,_,_,_,_,_,_,_,_,_,_,_,_,_,_,_,_,_,_,_,_,_,_,_,_,_,_,_,_,_,_,_,_,rfl,yb ⟨by omega,by omega,by simp;omega,by omega,HN8.out,HVV.out⟩,rfl⟩
   have h40d:((c.toNat:Int)==40)=false:=by rw [yf];intro e;exact h40 (UInt8.toNat_inj.1 (Int.ofNat_inj.1 e))
   by_cases h41:c=41
   ·subst h41
    rw [textV_out] at hv
    clear h92 h92d h13 h13d h40 h40d
    by_cases hD:D=1
    ·subst hD
     rw [yg rfl] at hv
     have HVV:=yb hv
     clear hv
     go_wp2_with fail
     refine HP.out.mono ?_
     rintro e w1 ⟨rfl,q,rfl⟩
     obtain ⟨c3,f3⟩:=HC3.out q
     obtain ⟨S2,q2,k2,s2⟩:=HMV.out q
     have HQ2:=yb q2
     have HK2:=yb (zai.trans HK1.out (zai.trans ((zai.refl S1 w').drewN q) k2 (fun _ h=>.inl h)) HS1.out)
     have HS2:=yb (fun b (hb:S2 b)=>(s2 b hb).elim (HS1.out b) (fun h=>Or.inr (Nat.le_trans HK1.out.size h)))
     clear q2 k2 s2
     go_wp2_with fail
     rw [show ((k:Int)+1)=((k+1:Nat):Int) from rfl]
     generalize (w'.drewN q).setCell ⟨p,3,none⟩ (.int .i64 ((k+1:Nat):Int))=w2 at *
     clear c3 f3
     have HO:=yb (zeC HQ2.out)
     have HB2:=yb (HK2.out.obj HBX.out HRS.out)
     go_wp2_with fail
     refine HO.out.mono ?_
     rintro e w3 ⟨rfl,hk3,hp3⟩
     have HRS2:=yb (show ¬S2 r from fun e=>(HS2.out r e).elim HRS.out (fun h=>by have:=(Array.getElem?_eq_some_iff.1 HBX.out).1;omega))
     have HB9:=yb (hk3.obj HB2.out HRS2.out)
     have HK9:=yb (zai.trans HK0.out (zai.trans HK2.out hk3 HS2.out) (fun _ h=>.inl h))
     have HP3:=yb hp3
     clear hk3 hp3
     obtain ⟨⟨k0,k1,k2,k3⟩,f0,f1,f2,f3⟩:=zaf HB9.out
     go_wp2
     simp only [Exit.jump]
     refine yi (zaa rfl _ _ r 27 _ (0,0) _ rfl (set4 HB9.out _ _ _ _) Tryz.underlying27 rfl zao _ rfl) rfl ?_
     obtain ⟨ad9,v9,hsc⟩:=HQ2.out
     have hpr:p≠r:=fun e=>HRS.out (e▸HSP.out)
     refine txt_some HVV.out (zbl HK9.out HRG.out _ _ _ _) (by rw [ym];omega) ?_
     rw [cell_of_row _ p 3 (scV X ad9 v9 (k+1)) 240 (0,0) ((za4 hpr _ _ _ _).trans (HP3.out.trans hsc.blk)),ym,show X.bs.length-(X.bs.length-(k+1))=k+1 from by omega]
     rfl
    ·rw [yh hD] at hv
     have HVV:=yb hv
     obtain ⟨E,rfl⟩:∃E,D=E+1:=⟨D-1,by omega⟩
     have hD0:((E:Int)==0)=false:=by rw [yf];omega
     have hE1:1<=E:=by omega
     clear hv hD
     go_wp2_with fail
     refine HP.out.mono ?_
     rintro e w1 ⟨rfl,q,rfl⟩
     obtain ⟨c3,f3⟩:=HC3.out q
     obtain ⟨S2,q2,k2,s2⟩:=HMV.out q
     have HQ2:=yb q2
     have HK2:=yb (zai.trans HK1.out (zai.trans ((zai.refl S1 w').drewN q) k2 (fun _ h=>.inl h)) HS1.out)
     have HS2:=yb (fun b (hb:S2 b)=>(s2 b hb).elim (HS1.out b) (fun h=>Or.inr (Nat.le_trans HK1.out.size h)))
     clear q2 k2 s2
     go_wp2_with fail
     rw [show ((k:Int)+1)=((k+1:Nat):Int) from rfl]
     generalize (w'.drewN q).setCell ⟨p,3,none⟩ (.int .i64 ((k+1:Nat):Int))=w2 at *
     clear c3 f3
     have HN9:=yb (zap.trans HK2.out HS2.out (zap.refl HQ2.out))
     obtain ⟨S9,hq9,hk9,hs9⟩:=HN9.out
     have HK9:=yb hk9
     have HS9:=yb hs9
     have HWB:=yb (zaY hq9 41 41 rfl (by omega))
     clear hq9 hk9 hs9
     go_wp2_with fail
     refine HWB.out.mono ?_
     rintro e w8 ⟨rfl,hn8⟩
     have HN8:=yb (zap.trans HK9.out HS9.out hn8)
     clear hn8
     go_wp2
     go_step3
     exact ⟨rfl,X.bs.length-(k+1),by have:=HM.out;omega,E,(k+1),(out++[41]),_,_,_,_,_,_,_,_,_,_,_,_,_,_,_,_,_,_,_,_,_,_,_,_,_,_,_,_,_,_,_,_,_,_,_,_,_,_,_,_,_,_,_,_,_,_,_,_,_,_,_,_,_,_,_,_,_,rfl,yb ⟨by omega,by omega,by simp;omega,by omega,HN8.out,HVV.out⟩,rfl⟩
   have h41d:((c.toNat:Int)==41)=false:=by rw [yf];intro e;exact h41 (UInt8.toNat_inj.1 (Int.ofNat_inj.1 e))
   rw [zfZ _ _ _ _ _ h92 h13 h40 h41] at hv
   have HVV:=yb hv
   have hD0:((D:Int)==0)=false:=by rw [yf];omega
   clear hv h92 h13 h40 h41
   go_wp2_with fail
   refine HP.out.mono ?_
   rintro e w1 ⟨rfl,q,rfl⟩
   obtain ⟨c3,f3⟩:=HC3.out q
   obtain ⟨S2,q2,k2,s2⟩:=HMV.out q
   have HQ2:=yb q2
   have HK2:=yb (zai.trans HK1.out (zai.trans ((zai.refl S1 w').drewN q) k2 (fun _ h=>.inl h)) HS1.out)
   have HS2:=yb (fun b (hb:S2 b)=>(s2 b hb).elim (HS1.out b) (fun h=>Or.inr (Nat.le_trans HK1.out.size h)))
   clear q2 k2 s2
   go_wp2_with fail
   rw [show ((k:Int)+1)=((k+1:Nat):Int) from rfl]
   generalize (w'.drewN q).setCell ⟨p,3,none⟩ (.int .i64 ((k+1:Nat):Int))=w2 at *
   clear c3 f3
   have HN9:=yb (zap.trans HK2.out HS2.out (zap.refl HQ2.out))
   obtain ⟨S9,hq9,hk9,hs9⟩:=HN9.out
   have HK9:=yb hk9
   have HS9:=yb hs9
   have HWB:=yb (zaY hq9 c _ rfl (by omega))
   clear hq9 hk9 hs9
   go_wp2_with fail
   refine HWB.out.mono ?_
   rintro e w8 ⟨rfl,hn8⟩
   have HN8:=yb (zap.trans HK9.out HS9.out hn8)
   clear hn8
   go_wp2
   go_step3
   exact ⟨rfl,X.bs.length-(k+1),by have:=HM.out;omega,D,(k+1),(out++[c]),_,_,_,_,_,_,_,_,_,_,_,_,_,_,_,_,_,_,_,_,_,_,_,_,_,_,_,_,_,_,_,_,_,_,_,_,_,_,_,_,_,_,_,_,_,_,_,_,_,_,_,_,_,_,_,_,_,rfl,yb ⟨by omega,by omega,by simp;omega,by omega,HN8.out,HVV.out⟩,rfl⟩
def HexEnd (w:World) (S:Nat->Prop) (p:Nat) (X:Src) (V:Int×List UInt8×List UInt8) (e:Ending) (w':World):Prop :=
 zai S w w'/\((V.1=1/\e=.returned (.tuple #[.agg (valC 0 0 zbe),.int .i64 (za6 X.yq)]))\/(V.1=11/\e=.returned (.tuple #[.agg (valC 0 0 zbe),.int .i64 11])) \/
  (V.1=0/\e=.returned (.tuple #[.agg (valC 4 0 (mkB V.2.1)),.int .i64 0])/\V.2.2.length<=X.bs.length/\w'.cell? ⟨p,3,none⟩=some (.int .i64 ((X.bs.length-V.2.2.length:Nat):Int))))
theorem hex_some {w w':World} {S:Nat->Prop} {p:Nat} {X:Src} {V:Int×List UInt8×List UInt8} {x t:List UInt8} (hV:V=(0,x,t)) (hk:zai S w w') (ht:t.length<=X.bs.length)
  (hc:w'.cell? ⟨p,3,none⟩=some (.int .i64 ((X.bs.length-t.length:Nat):Int))):HexEnd w S p X V (.returned (.tuple #[.agg (valC 4 0 (mkB x)),.int .i64 0])) w':=by
 subst hV;exact ⟨hk,.inr (.inr ⟨rfl,rfl,ht,hc⟩)⟩
theorem hex_open {w w':World} {S:Nat->Prop} {p:Nat} {X:Src} {V:Int×List UInt8×List UInt8} (hV:V=(1,[],[])) (hk:zai S w w'):HexEnd w S p X V (.returned (.tuple #[.agg (valC 0 0 zbe),.int .i64 (za6 X.yq)])) w':=by
 subst hV;exact ⟨hk,.inl ⟨rfl,rfl⟩⟩
theorem hex_form {w w':World} {S:Nat->Prop} {p:Nat} {X:Src} {V:Int×List UInt8×List UInt8} (hV:V=(11,[],[])) (hk:zai S w w'):HexEnd w S p X V (.returned (.tuple #[.agg (valC 0 0 zbe),.int .i64 11])) w':=by
 subst hV;exact ⟨hk,.inr (.inl ⟨rfl,rfl⟩)⟩
structure HexAt (W0:World) (S:Nat->Prop) (p:Nat) (X:Src) (V:Int×List UInt8×List UInt8) (hf:Int) (k:Nat) (out:List UInt8) (w':World):Prop where
 h1:-1<=hf/\hf<=15
 o:out.length<k
 le:k<=X.bs.length
 sc:zap W0 S p X out k w'
 v:V=hexV out hf (X.bs.drop k)
def HexI (W0:World) (S:Nat->Prop) (p:Nat) (X:Src) (V:Int×List UInt8×List UInt8) (r:Nat) (m:Nat) (a:Act) (w':World):Prop :=
 ∃(hf:Int) (k:Nat) (out:List UInt8) (u5 u6 u7 u8 u9 u10 u11 u12 u13 u14 u15 u16 u17 u18 u19 u20 u21 u22 u23 u24 u25 u26 u27 u28 u29 u30 u31 u32 u33 u34 u35 u36 u37 u38 u39 u40 u41 u42 u43 u44 u45 u46 u47 u48 u49 u50 u51 u52 u53 u54 u55 u56 u57 u58 u59 u60 u61 u62 u63 u64 u65 u66 u67 u68 u69 u70 u71 u72 u73:Value),m=X.bs.length-k/\Hid (HexAt W0 S p X V hf k out w')/\a={ tmps:=#[.pointer (some ⟨p,0,none⟩),undef,.pointer (some ⟨r,0,none⟩),.int .i64 0,.int .i64 hf,u5,u6,u7,u8,u9,u10,u11,u12,u13,u14,u15,u16,u17,u18,u19,u20,u21,u22,u23,u24,u25,u26,u27,u28,u29,u30,u31,u32,u33,u34,u35,u36,u37,u38,u39,u40,u41,u42,u43,u44,u45,u46,u47,u48,u49,u50,u51,u52,u53,u54,u55,u56,u57,u58,u59,u60,u61,u62,u63,u64,u65,u66,u67,u68,u69,u70,u71,u72,u73],defers:=[] }
theorem byte_of (x:Int) (h0:0<=x) (h1:x<=255):x=((UInt8.ofNat x.toNat).toNat:Int):=by rw [UInt8.toNat_ofNat'];omega
set_option maxHeartbeats 16000000 in
theorem hexes_any {w:World} {S:Nat->Prop} {p:Nat} {X:Src} {k:Nat} (h:ScQ w S p X [] k) (hk:1<=k) :
  Calls Tryz.prog 201 #[.pointer (some ⟨p,0,none⟩)] w (HexEnd w S p X (hexV [] (-1) (X.bs.drop k))):=by
 obtain ⟨V,hV⟩:∃V,V=hexV [] (-1) (X.bs.drop k):=⟨_,rfl⟩
 rw [<-hV]
 obtain ⟨r,hr⟩:∃r,r=w.heap.size:=⟨_,rfl⟩
 have hsm:X.bs.length<=400000:=by obtain ⟨_,_,h⟩:=h;exact h.small
 have hSr:¬S r:=by obtain ⟨_,_,h⟩:=h;intro e;have:=(h.lt r e).2;omega
 have hle:k<=X.bs.length:=by obtain ⟨_,_,h⟩:=h;exact h.le
 have HBX:=yb (show (w.alloc (.cells #[.int .i64 0,.int .i64 0,.string ⟨#[]⟩,.slice none 0 0] 27)).heap[r]?=some (.cells #[.int .i64 0,.int .i64 0,.string ⟨#[]⟩,.slice none 0 0] 27 (0,0)) from zac _ hr)
 have HK0:=yb (show zai S w (w.alloc (.cells #[.int .i64 0,.int .i64 0,.string ⟨#[]⟩,.slice none 0 0] 27)) from (zai.refl S w).alloc _)
 have hq0:=h.keep (zam w (.cells #[.int .i64 0,.int .i64 0,.string ⟨#[]⟩,.slice none 0 0] 27))
 have HAT:=yb (show HexAt (w.alloc (.cells #[.int .i64 0,.int .i64 0,.string ⟨#[]⟩,.slice none 0 0] 27)) S p X V (-1) k [] _ from ⟨by omega,by simp;omega,hle,zap.refl hq0,hV⟩)
 have HR:=yb hr
 have HRS:=yb hSr
 have HSP:=yb (show S p from (let ⟨_,_,h⟩:=h;h.own))
 have HRG:=yb (show w.heap.size<=r by omega)
 clear hV hr hSr h hk hq0
 go_enter Tryz.func201,Tryz.ntmps201
 go_wp2
 rw [<-HR.out]
 generalize w.alloc (.cells #[.int .i64 0,.int .i64 0,.string ⟨#[]⟩,.slice none 0 0] 27)=W0 at *
 refine zcq 0 (HexI W0 S p X V r) rfl ?first ?pass
 case first =>
  intro hpass
  have HPASS:=yb hpass
  clear hpass
  go_wp2
  refine wp_label ?_
  rename_i K hK
  exact hK _ _ (HPASS.out _ _ _ ⟨-1,k,[],_,_,_,_,_,_,_,_,_,_,_,_,_,_,_,_,_,_,_,_,_,_,_,_,_,_,_,_,_,_,_,_,_,_,_,_,_,_,_,_,_,_,_,_,_,_,_,_,_,_,_,_,_,_,_,_,_,_,_,_,_,_,_,_,_,_,_,_,_,rfl,HAT,rfl⟩)
 case pass =>
  rintro m a w' ⟨hf,k,out,u5,u6,u7,u8,u9,u10,u11,u12,u13,u14,u15,u16,u17,u18,u19,u20,u21,u22,u23,u24,u25,u26,u27,u28,u29,u30,u31,u32,u33,u34,u35,u36,u37,u38,u39,u40,u41,u42,u43,u44,u45,u46,u47,u48,u49,u50,u51,u52,u53,u54,u55,u56,u57,u58,u59,u60,u61,u62,u63,u64,u65,u66,u67,u68,u69,u70,u71,u72,u73,hm,HA,rfl⟩
  obtain ⟨S1,hq1,hk1,hs1⟩:=HA.out.sc
  obtain ⟨hf0,hf1⟩:=HA.out.h1
  have ho:=HA.out.o
  have hkl:=HA.out.le
  have HV:=yb HA.out.v
  have HQ1:=yb hq1
  have HK1:=yb hk1
  have HS1:=yb hs1
  have HB1:=yb (hk1.obj HBX.out HRS.out)
  have HM:=yb hm
  have hP:=zcJ hq1
  unfold zeS u8C at hP
  clear hk1 hs1 hm HAT HA
  by_cases hkn:k<X.bs.length
  case neg =>
   rw [yh hkn] at hP
   have HP:=yb hP
   have HNONE:=yb (show V=(1,[],[]) by rw [HV.out,zbd hkn];rfl)
   have HO:=yb (fun q=>zdE (hq1.drewN q))
   clear hP hq1 hkn
   go_wp2_with fail
   refine HP.out.mono ?_
   rintro e w1 ⟨rfl,q,rfl⟩
   go_wp2_with fail
   refine (HO.out q).mono ?_
   rintro e w2 ⟨rfl,rfl⟩
   have HB9:=yb (show (w'.drewN q).heap[r]?=_ from HB1.out)
   have HK9:=yb (zai.trans HK0.out (zai.trans HK1.out ((zai.refl S1 w').drewN q) HS1.out) (fun _ h=>.inl h))
   generalize w'.drewN q=w2 at *
   obtain ⟨⟨k0,k1,k2,k3⟩,f0,f1,f2,f3⟩:=zaf HB9.out
   go_wp2
   simp only [Exit.jump]
   refine yi (zaa rfl _ _ r 27 _ (0,0) _ rfl (set4 HB9.out _ _ _ _) Tryz.underlying27 rfl zao _ rfl) rfl ?_
   exact hex_open HNONE.out (zbl HK9.out HRG.out _ _ _ _)
  case pos =>
   rw [yg hkn] at hP
   have hv:=HV.out
   rw [zay hkn,hexV] at hv
   have HMV:=yb (fun q=>(let ⟨_,_,h1⟩:=hq1.drewN q;h1.move (k+1) (by omega) (by omega)))
   have HC3:=yb (fun q=>(let ⟨_,_,h1⟩:=hq1.drewN q;(And.intro h1.cells.2.2.2.1 (h1.free 3))))
   have HP:=yb hP
   obtain ⟨c,hc⟩:∃c,c=X.bs.getD k 0:=⟨_,rfl⟩
   rw [<-hc] at HP hv
   have HHX:=yb (fun W=>hex_any c W)
   have hsp:=fun W=>zdW c.toNat W
   rw [<-zeI] at hsp
   have hdb:=zgW c
   clear hP hc hq1
   by_cases h62:c=62
   ·subst h62
    rw [yg rfl] at hv
    rw [show hexD 62=-1 from rfl] at HHX
    clear hsp hdb
    by_cases hh:0<=hf
    ·rw [yg hh] at hv
     have HVV:=yb hv
     have HBY:=yb (byte_of (16*hf) (by omega) (by omega))
     clear hv
     go_wp2_with fail
     refine HP.out.mono ?_
     rintro e w1 ⟨rfl,q,rfl⟩
     obtain ⟨c3,f3⟩:=HC3.out q
     obtain ⟨S2,q2,k2,s2⟩:=HMV.out q
     have HQ2:=yb q2
     have HK2:=yb (zai.trans HK1.out (zai.trans ((zai.refl S1 w').drewN q) k2 (fun _ h=>.inl h)) HS1.out)
     have HS2:=yb (fun b (hb:S2 b)=>(s2 b hb).elim (HS1.out b) (fun h=>Or.inr (Nat.le_trans HK1.out.size h)))
     have HB2:=yb (HK2.out.obj HBX.out HRS.out)
     clear q2 k2 s2
     go_wp2_with fail
     rw [show ((k:Int)+1)=((k+1:Nat):Int) from rfl]
     generalize (w'.drewN q).setCell ⟨p,3,none⟩ (.int .i64 ((k+1:Nat):Int))=w2 at *
     clear c3 f3
     refine (HHX.out _).mono ?_
     rintro e w3 ⟨rfl,rfl⟩
     have HWB:=yb (zaY HQ2.out (UInt8.ofNat (16*hf).toNat) (16*hf) HBY.out (by omega))
     go_wp2_with fail
     refine HWB.out.mono ?_
     rintro e w4 ⟨rfl,hn8⟩
     obtain ⟨S4,q4,k4,s4⟩:=hn8
     have HQ4:=yb q4
     have HK4:=yb (zai.trans HK2.out k4 HS2.out)
     have HS4:=yb (fun b (hb:S4 b)=>(s4 b hb).elim (HS2.out b) (fun h=>Or.inr (Nat.le_trans HK2.out.size h)))
     have HB4:=yb (HK4.out.obj HBX.out HRS.out)
     clear q4 k4 s4
     have HO:=yb (zeC HQ4.out)
     go_wp2_with fail
     refine HO.out.mono ?_
     rintro e w5 ⟨rfl,hk3,hp3⟩
     have HRS2:=yb (show ¬S4 r from fun e=>(HS4.out r e).elim HRS.out (fun h=>by have:=(Array.getElem?_eq_some_iff.1 HBX.out).1;omega))
     have HB9:=yb (hk3.obj HB4.out HRS2.out)
     have HK9:=yb (zai.trans HK0.out (zai.trans HK4.out hk3 HS4.out) (fun _ h=>.inl h))
     have HP3:=yb hp3
     clear hk3 hp3
     obtain ⟨⟨k0,k1,k2,k3⟩,f0,f1,f2,f3⟩:=zaf HB9.out
     go_wp2
     simp only [Exit.jump]
     refine yi (zaa rfl _ _ r 27 _ (0,0) _ rfl (set4 HB9.out _ _ _ _) Tryz.underlying27 rfl zao _ rfl) rfl ?_
     obtain ⟨ad9,v9,hsc⟩:=HQ4.out
     have hpr:p≠r:=fun e=>HRS.out (e▸HSP.out)
     refine hex_some HVV.out (zbl HK9.out HRG.out _ _ _ _) (by rw [ym];omega) ?_
     rw [cell_of_row _ p 3 (scV X ad9 v9 (k+1)) 240 (0,0) ((za4 hpr _ _ _ _).trans (HP3.out.trans hsc.blk)),ym,show X.bs.length-(X.bs.length-(k+1))=k+1 from by omega]
     rfl
    ·rw [yh hh] at hv
     have HVV:=yb hv
     have hhd:decide (0<=hf)=false:=by simpa using hh
     clear hv hh
     go_wp2_with fail
     refine HP.out.mono ?_
     rintro e w1 ⟨rfl,q,rfl⟩
     obtain ⟨c3,f3⟩:=HC3.out q
     obtain ⟨S2,q2,k2,s2⟩:=HMV.out q
     have HQ2:=yb q2
     have HK2:=yb (zai.trans HK1.out (zai.trans ((zai.refl S1 w').drewN q) k2 (fun _ h=>.inl h)) HS1.out)
     have HS2:=yb (fun b (hb:S2 b)=>(s2 b hb).elim (HS1.out b) (fun h=>Or.inr (Nat.le_trans HK1.out.size h)))
     have HB2:=yb (HK2.out.obj HBX.out HRS.out)
     clear q2 k2 s2
     go_wp2_with fail
     rw [show ((k:Int)+1)=((k+1:Nat):Int) from rfl]
     generalize (w'.drewN q).setCell ⟨p,3,none⟩ (.int .i64 ((k+1:Nat):Int))=w2 at *
     clear c3 f3
     refine (HHX.out _).mono ?_
     rintro e w3 ⟨rfl,rfl⟩
     have HO:=yb (zeC HQ2.out)
     go_wp2_with fail
     refine HO.out.mono ?_
     rintro e w5 ⟨rfl,hk3,hp3⟩
     have HRS2:=yb (show ¬S2 r from fun e=>(HS2.out r e).elim HRS.out (fun h=>by have:=(Array.getElem?_eq_some_iff.1 HBX.out).1;omega))
     have HB9:=yb (hk3.obj HB2.out HRS2.out)
     have HK9:=yb (zai.trans HK0.out (zai.trans HK2.out hk3 HS2.out) (fun _ h=>.inl h))
     have HP3:=yb hp3
     clear hk3 hp3
     obtain ⟨⟨k0,k1,k2,k3⟩,f0,f1,f2,f3⟩:=zaf HB9.out
     go_wp2
     simp only [Exit.jump]
     refine yi (zaa rfl _ _ r 27 _ (0,0) _ rfl (set4 HB9.out _ _ _ _) Tryz.underlying27 rfl zao _ rfl) rfl ?_
     obtain ⟨ad9,v9,hsc⟩:=HQ2.out
     have hpr:p≠r:=fun e=>HRS.out (e▸HSP.out)
     refine hex_some HVV.out (zbl HK9.out HRG.out _ _ _ _) (by rw [ym];omega) ?_
     rw [cell_of_row _ p 3 (scV X ad9 v9 (k+1)) 240 (0,0) ((za4 hpr _ _ _ _).trans (HP3.out.trans hsc.blk)),ym,show X.bs.length-(X.bs.length-(k+1))=k+1 from by omega]
     rfl
   have h62d:((c.toNat:Int)==62)=false:=by rw [yf];intro e;exact h62 (UInt8.toNat_inj.1 (Int.ofNat_inj.1 e))
   rw [yh h62] at hv
   clear h62
   obtain ⟨sp,hsp2⟩:∃sp,isSp c=sp:=⟨_,rfl⟩
   rw [hsp2] at hv hsp
   have HSP2:=yb hsp
   clear hsp hsp2
   generalize hexD c=d at *
   cases sp
   case true =>
    rw [yg rfl] at hv
    have HVV:=yb hv
    clear hv
    go_wp2_with fail
    refine HP.out.mono ?_
    rintro e w1 ⟨rfl,q,rfl⟩
    obtain ⟨c3,f3⟩:=HC3.out q
    obtain ⟨S2,q2,k2,s2⟩:=HMV.out q
    have HQ2:=yb q2
    have HK2:=yb (zai.trans HK1.out (zai.trans ((zai.refl S1 w').drewN q) k2 (fun _ h=>.inl h)) HS1.out)
    have HS2:=yb (fun b (hb:S2 b)=>(s2 b hb).elim (HS1.out b) (fun h=>Or.inr (Nat.le_trans HK1.out.size h)))
    have HB2:=yb (HK2.out.obj HBX.out HRS.out)
    clear q2 k2 s2
    go_wp2_with fail
    rw [show ((k:Int)+1)=((k+1:Nat):Int) from rfl]
    generalize (w'.drewN q).setCell ⟨p,3,none⟩ (.int .i64 ((k+1:Nat):Int))=w2 at *
    clear c3 f3
    refine (HHX.out _).mono ?_
    rintro e w3 ⟨rfl,rfl⟩
    have HN:=yb (show zap W0 S p X out (k+1) w2 from zap.trans HK2.out HS2.out (zap.refl HQ2.out))
    go_wp2_with fail
    refine (HSP2.out _).mono ?_
    rintro e w3 ⟨rfl,rfl⟩
    go_wp2
    go_step3
    exact ⟨rfl,X.bs.length-(k+1),by have:=HM.out;omega,hf,k+1,out,_,_,_,_,_,_,_,_,_,_,_,_,_,_,_,_,_,_,_,_,_,_,_,_,_,_,_,_,_,_,_,_,_,_,_,_,_,_,_,_,_,_,_,_,_,_,_,_,_,_,_,_,_,_,_,_,_,_,_,_,_,_,_,_,_,_,_,_,_,rfl,yb ⟨⟨hf0,hf1⟩,by first|omega|(simp;omega),by omega,HN.out,HVV.out⟩,rfl⟩
   rw [yh (by decide)] at hv
   by_cases hd0:d<0
   ·rw [yg hd0] at hv
    have HNONE:=yb hv
    clear hv
    go_wp2_with fail
    refine HP.out.mono ?_
    rintro e w1 ⟨rfl,q,rfl⟩
    obtain ⟨c3,f3⟩:=HC3.out q
    obtain ⟨S2,q2,k2,s2⟩:=HMV.out q
    have HQ2:=yb q2
    have HK2:=yb (zai.trans HK1.out (zai.trans ((zai.refl S1 w').drewN q) k2 (fun _ h=>.inl h)) HS1.out)
    have HS2:=yb (fun b (hb:S2 b)=>(s2 b hb).elim (HS1.out b) (fun h=>Or.inr (Nat.le_trans HK1.out.size h)))
    have HB2:=yb (HK2.out.obj HBX.out HRS.out)
    clear q2 k2 s2
    go_wp2_with fail
    rw [show ((k:Int)+1)=((k+1:Nat):Int) from rfl]
    generalize (w'.drewN q).setCell ⟨p,3,none⟩ (.int .i64 ((k+1:Nat):Int))=w2 at *
    clear c3 f3
    refine (HHX.out _).mono ?_
    rintro e w3 ⟨rfl,rfl⟩
    go_wp2_with fail
    refine (HSP2.out _).mono ?_
    rintro e w3 ⟨rfl,rfl⟩
    have HB9:=HB2
    have HK9:=yb (zai.trans HK0.out HK2.out (fun _ h=>.inl h))
    obtain ⟨⟨k0,k1,k2,k3⟩,f0,f1,f2,f3⟩:=zaf HB9.out
    go_wp2
    simp only [Exit.jump]
    refine yi (zaa rfl _ _ r 27 _ (0,0) _ rfl (set4 HB9.out _ _ _ _) Tryz.underlying27 rfl zao _ rfl) rfl ?_
    exact hex_form HNONE.out (zbl HK9.out HRG.out _ _ _ _)
   rw [yh hd0] at hv
   have hd0d:decide (d<0)=false:=by simpa using hd0
   have hd1:0<=d:=by omega
   clear hd0
   by_cases hh:hf<0
   ·rw [yg hh] at hv
    have HVV:=yb hv
    clear hv
    go_wp2_with fail
    refine HP.out.mono ?_
    rintro e w1 ⟨rfl,q,rfl⟩
    obtain ⟨c3,f3⟩:=HC3.out q
    obtain ⟨S2,q2,k2,s2⟩:=HMV.out q
    have HQ2:=yb q2
    have HK2:=yb (zai.trans HK1.out (zai.trans ((zai.refl S1 w').drewN q) k2 (fun _ h=>.inl h)) HS1.out)
    have HS2:=yb (fun b (hb:S2 b)=>(s2 b hb).elim (HS1.out b) (fun h=>Or.inr (Nat.le_trans HK1.out.size h)))
    have HB2:=yb (HK2.out.obj HBX.out HRS.out)
    clear q2 k2 s2
    go_wp2_with fail
    rw [show ((k:Int)+1)=((k+1:Nat):Int) from rfl]
    generalize (w'.drewN q).setCell ⟨p,3,none⟩ (.int .i64 ((k+1:Nat):Int))=w2 at *
    clear c3 f3
    refine (HHX.out _).mono ?_
    rintro e w3 ⟨rfl,rfl⟩
    have HN:=yb (show zap W0 S p X out (k+1) w2 from zap.trans HK2.out HS2.out (zap.refl HQ2.out))
    go_wp2_with fail
    refine (HSP2.out _).mono ?_
    rintro e w3 ⟨rfl,rfl⟩
    go_wp2
    go_step3
    exact ⟨rfl,X.bs.length-(k+1),by have:=HM.out;omega,d,k+1,out,_,_,_,_,_,_,_,_,_,_,_,_,_,_,_,_,_,_,_,_,_,_,_,_,_,_,_,_,_,_,_,_,_,_,_,_,_,_,_,_,_,_,_,_,_,_,_,_,_,_,_,_,_,_,_,_,_,_,_,_,_,_,_,_,_,_,_,_,_,rfl,yb ⟨⟨by omega,hdb.2⟩,by first|omega|(simp;omega),by omega,HN.out,HVV.out⟩,rfl⟩
   ·rw [yh hh] at hv
    have HVV:=yb hv
    have hhd:decide (hf<0)=false:=by simpa using hh
    have hh1:0<=hf:=by omega
    have hdb2:=hdb.2
    have HBY:=yb (byte_of (16*hf+d) (by omega) (by omega))
    clear hv hh hdb
    go_wp2_with fail
    refine HP.out.mono ?_
    rintro e w1 ⟨rfl,q,rfl⟩
    obtain ⟨c3,f3⟩:=HC3.out q
    obtain ⟨S2,q2,k2,s2⟩:=HMV.out q
    have HQ2:=yb q2
    have HK2:=yb (zai.trans HK1.out (zai.trans ((zai.refl S1 w').drewN q) k2 (fun _ h=>.inl h)) HS1.out)
    have HS2:=yb (fun b (hb:S2 b)=>(s2 b hb).elim (HS1.out b) (fun h=>Or.inr (Nat.le_trans HK1.out.size h)))
    have HB2:=yb (HK2.out.obj HBX.out HRS.out)
    clear q2 k2 s2
    go_wp2_with fail
    rw [show ((k:Int)+1)=((k+1:Nat):Int) from rfl]
    generalize (w'.drewN q).setCell ⟨p,3,none⟩ (.int .i64 ((k+1:Nat):Int))=w2 at *
    clear c3 f3
    refine (HHX.out _).mono ?_
    rintro e w3 ⟨rfl,rfl⟩
    go_wp2_with fail
    refine (HSP2.out _).mono ?_
    rintro e w3 ⟨rfl,rfl⟩
    have HWB:=yb (zaY HQ2.out (UInt8.ofNat (16*hf+d).toNat) (16*hf+d) HBY.out (by omega))
    go_wp2_with fail
    refine HWB.out.mono ?_
    rintro e w4 ⟨rfl,hn8⟩
    obtain ⟨S4,q4,k4,s4⟩:=hn8
    have HQ4:=yb q4
    have HK4:=yb (zai.trans HK2.out k4 HS2.out)
    have HS4:=yb (fun b (hb:S4 b)=>(s4 b hb).elim (HS2.out b) (fun h=>Or.inr (Nat.le_trans HK2.out.size h)))
    have HB4:=yb (HK4.out.obj HBX.out HRS.out)
    clear q4 k4 s4
    have HN:=yb (show zap W0 S p X _ (k+1) w4 from zap.trans HK4.out HS4.out (zap.refl HQ4.out))
    go_wp2
    go_step3
    exact ⟨rfl,X.bs.length-(k+1),by have:=HM.out;omega,-1,k+1,_,_,_,_,_,_,_,_,_,_,_,_,_,_,_,_,_,_,_,_,_,_,_,_,_,_,_,_,_,_,_,_,_,_,_,_,_,_,_,_,_,_,_,_,_,_,_,_,_,_,_,_,_,_,_,_,_,_,_,_,_,_,_,_,_,_,_,_,_,_,rfl,yb ⟨by omega,by first|omega|(simp;omega),by omega,HN.out,HVV.out⟩,rfl⟩
def regs (l:List UInt8):List UInt8:=l.takeWhile isRg
def runN (l:List UInt8):Nat:=(regs l).length
theorem zbn (l:List UInt8):runN l<=l.length:=by unfold runN regs;exact List.Sublist.length_le (List.takeWhile_sublist _)
theorem ze2 {c:UInt8} (l:List UInt8) (h:isRg c=true):runN (c::l)=1+runN l:=by unfold runN regs;rw [List.takeWhile_cons_of_pos h];simp;omega
theorem runN_no {c:UInt8} (l:List UInt8) (h:isRg c=false):runN (c::l)=0:=by unfold runN regs;rw [List.takeWhile_cons_of_neg (by simp [h])];rfl
theorem zbc (l:List UInt8):regs l=l.take (runN l):=by
 unfold runN regs
 induction l with
 | nil=>rfl
 | cons c l ih =>
  by_cases h:isRg c=true
  ·rw [List.takeWhile_cons_of_pos h,List.length_cons,List.take_succ_cons,<-ih]
  ·rw [List.takeWhile_cons_of_neg h];rfl
theorem regs_drop (l:List UInt8):l.dropWhile isRg=l.drop (runN l):=by
 unfold runN regs
 induction l with
 | nil=>rfl
 | cons c l ih =>
  by_cases h:isRg c=true
  ·rw [List.takeWhile_cons_of_pos h,List.length_cons,List.drop_succ_cons,<-ih,List.dropWhile_cons_of_pos h]
  ·rw [List.takeWhile_cons_of_neg h,List.dropWhile_cons_of_neg h];rfl
def zhh (w:World) (S:Nat->Prop) (p:Nat) (X:Src) (out:List UInt8) (k:Nat) (e:Ending) (w':World):Prop :=
 e=.returned (.tuple #[.string (mkB (regs (X.bs.drop k))),.bool (decide (k+runN (X.bs.drop k)<X.bs.length)||X.yq)])/\zap w S p X out (k+runN (X.bs.drop k)) w'
theorem zaW {w:World} {b off cap:Nat} {X:Src} (hc:∀j,j<X.bs.length->w.cell? ⟨b,off+j,none⟩=some (u8C (X.bs.getD j 0))) (k m:Nat) (hm:k+m<=X.bs.length) (W:World) (hW:Below w.heap.size w W) :
  (convert 22 9 (.slice (some ⟨b,off+k,none⟩) m cap)).run Tryz.prog W=.ok (.string (mkB ((X.bs.drop k).take m))) W:=by
 have hl:((X.bs.drop k).take m).length=m:=by rw [List.length_take,ym];omega
 have h:=run_convert_bytes_back (P:=Tryz.prog) W 22 9 5 ⟨b,off+k,none⟩ cap ((X.bs.drop k).take m) Tryz.underlying22 Tryz.underlying5 Tryz.underlying9 (fun j hj=>by
  rw [hl] at hj
  rw [Addr.add_lit,Nat.add_assoc]
  refine cell?_keep hW ((hc (k+j) (by omega)).trans ?_)
  congr 1
  unfold u8C
  simp [List.getD,show k+j<X.bs.length from by omega])
 rw [hl] at h
 exact h
theorem word_any {w:World} {S:Nat->Prop} {p:Nat} {X:Src} {out:List UInt8} {k:Nat} (h:ScQ w S p X out k) (hne:0<X.bs.length) :
  Calls Tryz.prog 182 #[.pointer (some ⟨p,0,none⟩)] w (zhh w S p X out k):=by
 have hsm:X.bs.length<=400000:=by obtain ⟨_,_,h⟩:=h;exact h.small
 have hle:k<=X.bs.length:=by obtain ⟨_,_,h⟩:=h;exact h.le
 have hcap:X.bs.length<=X.cap/\X.cap<=maxLen:=by obtain ⟨_,_,h⟩:=h;exact ⟨h.src.2.1,h.src.2.2.1⟩
 have hc3:w.cell? ⟨p,3,none⟩=some (.int .i64 k):=by obtain ⟨_,_,h⟩:=h;exact h.cells.2.2.2.1
 have HN:=yb (zap.refl h)
 obtain ⟨m,hm⟩:∃m,m=runN (X.bs.drop k):=⟨_,rfl⟩
 have hml:=zbn (X.bs.drop k)
 rw [ym,<-hm] at hml
 have HM:=yb hm
 unfold zhh
 rw [zbc,<-hm]
 obtain ⟨l,hl⟩:∃l,X.yq=l:=⟨_,rfl⟩
 rw [hl]
 have HLL:=yb hl
 obtain ⟨hc1,hc2⟩:=hcap
 have hc2':X.cap<=9223372036854775807:=by unfold maxLen at hc2;omega
 clear h hm hc2 hl
 go_enter Tryz.func182,Tryz.ntmps182
 go_wp2
 clear hc3
 go_loopg [] (X.bs.length-k) (fun g wr=>∃j:Nat,g=X.bs.length-j/\k<=j/\j<=k+m/\Hid (zap w S p X out j wr)/\Hid (k+m=j+runN (X.bs.drop j)))
 case atStart=>exact ⟨k,rfl,yp _,by omega,HN,yb (by rw [HM.out])⟩
 case round =>
  obtain ⟨j,hg,hkj,hjm,HS,HJ⟩:=hrel
  have HG:=yb hg
  obtain ⟨S1,hq1,hk1,hs1⟩:=HS.out
  obtain ⟨ad,v,h1⟩:=hq1
  obtain ⟨-,-,c2,c3,c4⟩:=h1.cells
  have f3:=h1.free 3
  obtain ⟨b,off,ha,_,hcc⟩:=h1.src.at 0 0 hne
  have hcc2:∀i,i<X.bs.length->wr.cell? ⟨b,off+i,none⟩=some (u8C (X.bs.getD i 0)):=hcc
  rw [ha] at c2
  have HCC:=yb hcc2
  have HK1:=yb hk1
  have HS1:=yb hs1
  have H1:=yb h1
  clear hk1 hs1 hg hcc hcc2 h1
  by_cases hj:j<X.bs.length
  ·have hcj:=HCC.out j hj
   have hv:=HJ.out
   rw [zay hj] at hv
   have hjd:decide ((j:Int)<X.bs.length)=true:=by simp;omega
   have HMV:=yb (fun q=>(let h:=H1.out.keep (zah (Below.refl wr.heap.size wr) q);h.move (j+1) (by omega) (by omega)))
   have hrg:=fun W=>ze8 (X.bs.getD j 0) W
   rw [<-rgI_eq] at hrg
   unfold u8C at hcj
   obtain ⟨c,hc⟩:∃c,c=X.bs.getD j 0:=⟨_,rfl⟩
   rw [<-hc] at hrg hcj hv
   obtain ⟨rg,hrg2⟩:∃rg,isRg c=rg:=⟨_,rfl⟩
   rw [hrg2] at hrg
   have HRG:=yb hrg
   have HR2:=yb hrg2
   have HV:=yb hv
   clear hrg hrg2 hv hc
   cases rg
   ·have hje:j=k+m:=by have:=HV.out;rw [runN_no _ HR2.out] at this;omega
    have HJE:=yb hje
    clear hje
    have hcv:∀nq,(convert 22 9 (.slice (some ⟨b,off+k,none⟩) (j-k) (X.cap-k))).run Tryz.prog (wr.drewN nq)=.ok (.string (mkB ((X.bs.drop k).take (j-k)))) (wr.drewN nq):=fun nq=>zaW HCC.out k (j-k) (by omega) _ (zah (Below.refl _ _) nq)
    have hcv0:∀nq,(convert 22 9 (.slice (some ⟨b,off,none⟩) 0 0)).run Tryz.prog (wr.drewN nq)=.ok (.string (mkB [])) (wr.drewN nq):=fun nq=>zaW HCC.out 0 0 (by omega) _ (zah (Below.refl _ _) nq)
    have HEND:=yb (fun q=>zap.trans HK1.out HS1.out (zap.drew q (zap.refl (⟨ad,v,H1.out.keep (zah (Below.refl _ _) q)⟩:ScQ (wr.drewN q) S1 p X out j))))
    rw [HLL.out] at c4
    go_wp2
    go_quiet ((go_at_call 177;exact (HRG.out _).mono fun _ _ ⟨he,hm⟩=>⟨he,_,hm.symm⟩))
    go_wp2
    have HDD:=yb (show decide (j<X.bs.length)=true from yd hj)
    have hck:¬X.cap=k:=by omega
    go_quiet (fail)
    go_wp2
    go_ret2
    exact ⟨by rw [show m=j-k from by have:=HJE.out;omega,show k+(j-k)=j from by omega,HDD.out];rfl,by rw [<-HJE.out];simpa using HEND.out _⟩
   ·go_wp2
    go_quiet ((go_at_call 177;exact (HRG.out _).mono fun _ _ ⟨he,hm⟩=>⟨he,_,hm.symm⟩))
    go_wp2
    go_roundg (X.bs.length-(j+1))
    case rel =>
     refine ⟨j+1,rfl,by omega,?_,yb (zap.trans HK1.out HS1.out (zap.drew _ (HMV.out _))),yb ?_⟩
     ·have:=HV.out;rw [ze2 _ HR2.out] at this;omega
     ·have:=HV.out;rw [ze2 _ HR2.out] at this;omega
    case measure=>have:=HG.out;omega
  ·have hje:j=X.bs.length:=by omega
   have HJE:=yb (show j=k+m by omega)
   have hjd:decide ((j:Int)<X.bs.length)=false:=ye (by omega)
   have hjd2:decide (j<X.bs.length)=false:=ye (by omega)
   have hcv:∀nq,(convert 22 9 (.slice (some ⟨b,off+k,none⟩) (j-k) (X.cap-k))).run Tryz.prog (wr.drewN nq)=.ok (.string (mkB ((X.bs.drop k).take (j-k)))) (wr.drewN nq):=fun nq=>zaW HCC.out k (j-k) (by omega) _ (zah (Below.refl _ _) nq)
   have hcv0:∀nq,(convert 22 9 (.slice (some ⟨b,off,none⟩) 0 0)).run Tryz.prog (wr.drewN nq)=.ok (.string (mkB [])) (wr.drewN nq):=fun nq=>zaW HCC.out 0 0 (by omega) _ (zah (Below.refl _ _) nq)
   have HEND:=yb (fun q=>zap.trans HK1.out HS1.out (zap.drew q (zap.refl (⟨ad,v,H1.out.keep (zah (Below.refl _ _) q)⟩:ScQ (wr.drewN q) S1 p X out j))))
   have HDD:=yb (show decide (j<X.bs.length)=false from ye (by omega))
   rw [HLL.out] at c4
   clear hje hj
   cases l
   all_goals
    go_wp2
    go_quiet (fail)
    go_wp2
    by_cases hck:X.cap=k
    ·have hjk:j=k:=by omega
     have HZ:=yb (show (X.bs.drop k).take m=[] by rw [show m=0 from by have:=HJE.out;omega];rfl)
     have hkd2:decide (k<X.bs.length)=false:=ye (by omega)
     go_quiet (fail)
     go_wp2
     go_ret2
     exact ⟨by rw [HZ.out,<-HJE.out,HDD.out];rfl,by rw [<-HJE.out];simpa using HEND.out _⟩
    ·go_quiet (fail)
     go_wp2
     go_ret2
     exact ⟨by rw [show m=j-k from by have:=HJE.out;omega,show k+(j-k)=j from by omega,HDD.out];rfl,by rw [<-HJE.out];simpa using HEND.out _⟩
theorem bytesOf_map (o:List UInt8):Lib.bytesOf (o.map fun b=>(b.toNat:Int))=o:=by
 unfold Lib.bytesOf
 rw [List.map_map]
 have:((fun n:Int=>UInt8.ofNat n.toNat) ∘ fun b:UInt8=>(b.toNat:Int))=id:=by funext b;simp
 rw [this,List.map_id]
set_option maxRecDepth 100000 in
theorem bidx_any {w:World} {base:Nat} {v:Value} {o:List UInt8} (hr:w.ownsRow base 5 1 v o.length (o.map u8C)) (cv:Int) :
  Calls Tryz.prog 206 #[v,.int .u8 cv] w fun e w'=>e=.returned (.int .i64 (Lib.indexByte o cv.toNat.toUInt8))/\w=w':=by
 have hX:(Extern.BytealgIndexByte.indexByte #[v,.int .u8 cv]).run Tryz.prog w=.ok (.int .i64 (Lib.indexByte o cv.toNat.toUInt8)) w:=by
  rcases hr.2 with ⟨rfl,h0⟩|⟨g,cap,cur,rfl,_⟩
  ·have ho:o=[]:=List.eq_nil_of_length_eq_zero h0
   subst ho
   exact Lib.run_indexByteNil _ _ _ cv
  ·have:=Lib.run_indexByteSlice (P:=Tryz.prog) (w:=w) g 0 o.length cap (o.map fun b=>(b.toNat:Int)) (by simp) (fun i hi=>by
    have:=hr.cells (g:=g) rfl i (u8C (o.getD i 0)) (by simp [List.getD,hi])
    rw [Addr.add_lit] at this
    rw [this];unfold u8C
    simp [List.getD,hi]) cv
   rw [bytesOf_map] at this
   exact this
 obtain ⟨a,cap,hv,-⟩:=Row.of_owns hr
 subst hv
 clear hr
 go_enter Tryz.func206,Tryz.ntmps206
 go_wp2
 rw [run_callFunc_extern Tryz.func228 (by kernel_rfl) (by kernel_rfl) (by kernel_rfl) (e:=Extern.BytealgIndexByte.indexByte) (by kernel_rfl),hX]
 simp only [Result.andThen]
 rw [Oper.upon_value]
 go_wp2
 go_ret
 exact ⟨rfl,rfl⟩
def finN:Option (List UInt8)->Option (List UInt8)
 | none=>none
 | some o=>if 127<o.length\/(0:UInt8)∈o then none else some o
theorem nameV_fin (l:List UInt8):zdz l=finN (zch [] l):=by unfold zdz finN;cases zch [] l<;>rfl
theorem zfJ (o:List UInt8) (c:UInt8) (t:List UInt8) (h:c≠35):zch o (c::t)=zch (o++[c]) t:=by rw [zch.eq_def];simp only;rw [yh h]
theorem zeO (o:List UInt8) (t:List UInt8) (h:t.length<2):zch o (35::t)=none:=by
 rw [zch.eq_def]
 simp only
 rw [yg trivial]
 match t,h with
 | [],_=>rfl
 | [_],_=>rfl
theorem zgw (o:List UInt8) (x y:UInt8) (u:List UInt8):zch o (35::x::y::u)=if hexD x<0\/hexD y<0 then none else zch (o++[UInt8.ofNat (16*hexD x+hexD y).toNat]) u:=by rw [zch.eq_def];simp only;rw [yg trivial]
theorem hexI_bd (x:Int):-1<=hexI x/\hexI x<=15:=by
 unfold hexI
 repeat' split
 all_goals omega
theorem zeW (x:Int) (h0:0<=x) (h1:x<=255):x=((UInt8.ofNat x.toNat).toNat:Int):=by rw [UInt8.toNat_ofNat'];omega
theorem idx_mem (o:List UInt8) (c:UInt8):decide (0<=Lib.indexByte o c)=decide (c∈o):=by
 have hg:=Lib.indexByte_ge o c
 by_cases h:Lib.indexByte o c=-1
 ·rw [h,ye (zd3 _ _ h)];rfl
 ·obtain ⟨i,hi⟩:=Int.eq_ofNat_of_zero_le (show 0<=Lib.indexByte o c by omega)
  obtain ⟨a,t,e,-,-⟩:=zdV _ _ _ hi
  rw [hi,yd (by omega),yd (by rw [e];simp)]
def zdA (w:World) (V:Option (List UInt8)) (e:Ending) (w':World):Prop :=
 Below w.heap.size w w'/\match V with
 | none=>e=.returned (.tuple #[.agg (valC 0 0 zbe),.int .i64 17])
 | some o=>e=.returned (.tuple #[.agg (valC 5 0 (mkB o)),.int .i64 0])
theorem zbA {w w':World} {V:Option (List UInt8)} (hV:V=none) (hb:Below w.heap.size w w'):zdA w V (.returned (.tuple #[.agg (valC 0 0 zbe),.int .i64 17])) w':=by subst hV;exact ⟨hb,rfl⟩
theorem name_some {w w':World} {V:Option (List UInt8)} {o:List UInt8} (hV:V=some o) (hb:Below w.heap.size w w'):zdA w V (.returned (.tuple #[.agg (valC 5 0 (mkB o)),.int .i64 0])) w':=by subst hV;exact ⟨hb,rfl⟩
theorem zdK {w:World} {base:Nat} {v:Value} {o:List UInt8} (hr:w.ownsRow base 5 1 v o.length (o.map u8C)):(convert 22 9 v).run Tryz.prog w=.ok (.string (mkB o)) w:=by
 rcases hr.2 with ⟨rfl,h0⟩|⟨g,cap,cur,rfl,_⟩
 ·have ho:o=[]:=List.eq_nil_of_length_eq_zero h0
  subst ho
  rw [run_convert_bytes_string w 22 9 5 none 0 0 Tryz.underlying22 Tryz.underlying5 Tryz.underlying9]
  rfl
 ·refine run_convert_bytes_back (P:=Tryz.prog) w 22 9 5 ⟨g,0,none⟩ cap o Tryz.underlying22 Tryz.underlying5 Tryz.underlying9 (fun j hj=>?_)
  exact hr.cells (g:=g) rfl j (u8C o[j]) (by simp [hj])
theorem name_any (s:ByteArray) (w:World) (hs:s.size<=400000) :
  Calls Tryz.prog 183 #[.string s] w (zdA w (zdz (bl s))):=by
 obtain ⟨V,hV⟩:∃V,V=zdz (bl s):=⟨_,rfl⟩
 rw [<-hV]
 rw [nameV_fin] at hV
 have HV:=yb hV
 obtain ⟨r,hr⟩:∃r,r=w.heap.size:=⟨_,rfl⟩
 have HBX:=yb (show (w.alloc (.cells #[.int .i64 0,.int .i64 0,.string ⟨#[]⟩,.slice none 0 0] 27)).heap[r]?=some (.cells #[.int .i64 0,.int .i64 0,.string ⟨#[]⟩,.slice none 0 0] 27 (0,0)) from zac _ hr)
 have HB0:=yb (zam w (.cells #[.int .i64 0,.int .i64 0,.string ⟨#[]⟩,.slice none 0 0] 27))
 have HRR:=yb hr
 have hgb:=PlainAid.get_bt s
 have HOK:=yb (show ∀i (h:i<s.size),(bl s).drop i=s[i]::(bl s).drop (i+1) from fun i h=>zez s i h)
 clear hV hr
 go_enter Tryz.func183,Tryz.ntmps183
 go_wp2
 rw [<-HRR.out]
 generalize w.alloc (.cells #[.int .i64 0,.int .i64 0,.string ⟨#[]⟩,.slice none 0 0] 27)=W0 at *
 have hr0:=(Array.getElem?_eq_some_iff.1 HBX.out).1
 go_loopw [4,5] (fun v i wr=>∃(k:Nat) (o:List UInt8),k<=s.size/\i=.int .i64 k/\o.length<=k/\Hid (wr.ownsRow W0.heap.size 5 1 v o.length (o.map u8C))/\Hid (Below W0.heap.size W0 wr)/\Hid (V=finN (zch o ((bl s).drop k)))) (fun _ i _=>s.size-(intOf i).toNat)
 case atStart=>exact ⟨0,[],by omega,rfl,by simp,yb (World.ownsRow_nil _ _ _ _),yb (Below.refl _ _),HV⟩
 case round =>
  obtain ⟨k,o,hk,rfl,hok,HO,HB,HG⟩:=hrel
  have HBR:=yb (zab HB.out HBX.out)
  have HBW:=yb (HB0.out.trans (HB.out.mono HB0.out.size))
  have hsz:=HB.out.size
  by_cases hlt:k<s.size
  ·have hx:(s[k].toNat:Int)=PlainAid.bt s k:=hgb k hlt
   have hg:=HG.out
   rw [HOK.out k hlt] at hg
   have HX:=yb hx
   clear hx
   by_cases h35:PlainAid.bt s k=35
   ·have h35d:(PlainAid.bt s k==35)=true:=by rw [beq_iff_eq];exact h35
    rw [show s[k]=35 from UInt8.toNat_inj.1 (Int.ofNat_inj.1 (HX.out.trans h35))] at hg
    clear h35
    by_cases h2:s.size<=k+2
    ·have HNONE:=yb (show V=none by rw [hg,zeO _ _ (by rw [ym,zaG];omega)];rfl)
     have h2d:decide ((s.size:Int)<=(k:Int)+2)=true:=by simp;omega
     clear hg
     obtain ⟨⟨k0,k1,k2,k3⟩,f0,f1,f2,f3⟩:=zaf HBR.out
     go_wp2
     refine yi (zaa rfl _ _ r 27 _ (0,0) _ rfl (set4 HBR.out _ _ _ _) Tryz.underlying27 rfl zao _ rfl) rfl ?_
     exact zbA HNONE.out (zad HBW.out (by have:=HRR.out;omega) _ _ _ _)
    ·have h2d:decide ((s.size:Int)<=(k:Int)+2)=false:=by simp;omega
     have h1':k+1<s.size:=by omega
     have h2':k+2<s.size:=by omega
     rw [HOK.out (k+1) h1',HOK.out (k+1+1) h2',zgw,zg9,zg9,hgb (k+1) h1',show ((s[k+1+1].toNat:Nat):Int)=PlainAid.bt s (k+2) from hgb (k+2) h2'] at hg
     have hA:=hexI_bd (PlainAid.bt s (k+1))
     have hB:=hexI_bd (PlainAid.bt s (k+2))
     have HCA:=yb (fun W=>hx_205 (PlainAid.bt s (k+1)) W (PlainAid.bt_nonneg _ _) (PlainAid.bt_le _ _))
     have HCB:=yb (fun W=>hx_205 (PlainAid.bt s (k+2)) W (PlainAid.bt_nonneg _ _) (PlainAid.bt_le _ _))
     generalize hexI (PlainAid.bt s (k+1))=A at *
     generalize hexI (PlainAid.bt s (k+2))=B at *
     by_cases hAn:A<0
     ·have HNONE:=yb (show V=none by rw [hg,yg (.inl hAn)];rfl)
      clear hg
      obtain ⟨⟨k0,k1,k2,k3⟩,f0,f1,f2,f3⟩:=zaf HBR.out
      go_wp2_with fail
      refine (HCA.out _).mono ?_
      rintro e w9 ⟨rfl,rfl⟩
      go_wp2
      refine yi (zaa rfl _ _ r 27 _ (0,0) _ rfl (set4 HBR.out _ _ _ _) Tryz.underlying27 rfl zao _ rfl) rfl ?_
      exact zbA HNONE.out (zad HBW.out (by have:=HRR.out;omega) _ _ _ _)
     ·have hAd:decide (A<0)=false:=by simpa using hAn
      by_cases hBn:B<0
      ·have HNONE:=yb (show V=none by rw [hg,yg (.inr hBn)];rfl)
       clear hg hAn
       obtain ⟨⟨k0,k1,k2,k3⟩,f0,f1,f2,f3⟩:=zaf HBR.out
       go_wp2_with fail
       refine (HCA.out _).mono ?_
       rintro e w9 ⟨rfl,rfl⟩
       go_wp2_with fail
       refine (HCB.out _).mono ?_
       rintro e w9 ⟨rfl,rfl⟩
       go_wp2
       refine yi (zaa rfl _ _ r 27 _ (0,0) _ rfl (set4 HBR.out _ _ _ _) Tryz.underlying27 rfl zao _ rfl) rfl ?_
       exact zbA HNONE.out (zad HBW.out (by have:=HRR.out;omega) _ _ _ _)
      ·have hBd:decide (B<0)=false:=by simpa using hBn
       rw [yh (by rintro (h|h)<;>contradiction)] at hg
       have HG2:=yb hg
       have HBY:=yb (zeW (16*A+B) (by omega) (by omega))
       have hA0:0<=A:=by omega
       have hB0:0<=B:=by omega
       obtain ⟨hA1,hA2⟩:=hA
       obtain ⟨hB1,hB2⟩:=hB
       clear hg hAn hBn
       go_wp2_with fail
       refine (HCA.out _).mono ?_
       rintro e w9 ⟨rfl,rfl⟩
       go_wp2_with fail
       refine (HCB.out _).mono ?_
       rintro e w9 ⟨rfl,rfl⟩
       go_wp2
       go_quiet ((first|(go_at_call 205;with_reducible exact (HCA.out _).mono fun _ _ ⟨he,hm⟩=>⟨he,_,hm.symm⟩)|(go_at_call 205;with_reducible exact (HCB.out _).mono fun _ _ ⟨he,hm⟩=>⟨he,_,hm.symm⟩)))
       have HO9:=yb (zaO HO.out (zah (Below.refl _ _) nq))
       have HB9:=yb (zah HB.out nq)
       have hsz9:=HB9.out.size
       generalize wr.drewN nq=w3 at *
       go_wp2_with (at_builtin;refine zav zcB rfl (.tmp 55) (.tmp 57) rfl W0.heap.size _ o.length _ rfl (HO9.out.alloc _) _ 1 _ _ rfl (zbs _ _ _) (zbK rfl) (by unfold maxLen;omega) (by omega) (by rw [zan];omega) ?_;intro v' w5 hO5 hg5 hnil5;have HO5:=yb hO5;have HG5:=yb hg5;clear hO5 hg5 hnil5)
       go_roundw
       case rel =>
        refine ⟨k+3,o++[UInt8.ofNat (16*A+B).toNat],by omega,by go_num,by simp;omega,yb ?_,yb ?_,yb HG2.out⟩
        ·have:=HO5.out
         rw [HBY.out] at this
         simpa [u8C] using this
        ·exact (HB9.out.alloc hsz9 _).grown HG5.out (by rw [zan];omega) (fun q hq=>(HO9.out.lt q hq).1)
       case measure=>simp [intOf];omega
   ·have h35d:(PlainAid.bt s k==35)=false:=by rw [yf];exact h35
    rw [zfJ _ _ _ (fun e=>h35 (by rw [<-HX.out,e];rfl))] at hg
    have HG2:=yb hg
    clear hg h35
    go_wp2_with (at_builtin;refine zav zcB rfl (.tmp 55) (.tmp 57) rfl W0.heap.size _ o.length _ rfl (HO.out.alloc _) _ 1 _ _ rfl (zbs _ _ _) (zbK rfl) (by unfold maxLen;omega) (by omega) (by rw [zan];omega) ?_;intro v' w5 hO5 hg5 hnil5;have HO5:=yb hO5;have HG5:=yb hg5;clear hO5 hg5 hnil5)
    go_roundw
    case rel =>
     refine ⟨k+1,o++[s[k]],by omega,by go_num,by simp;omega,yb ?_,yb ?_,HG2⟩
     ·have:=HO5.out
      rw [<-HX.out] at this
      simpa [u8C] using this
     ·exact (HB.out.alloc (by omega) _).grown HG5.out (by rw [zan];omega) (fun q hq=>(HO.out.lt q hq).1)
    case measure=>simp [intOf];omega
  ·obtain rfl:k=s.size:=by omega
   have hg:=HG.out
   rw [show (bl s).drop s.size=[] from by rw [<-zaG];exact List.drop_length] at hg
   have hg2:V=if 127<o.length\/(0:UInt8)∈o then none else some o:=hg
   have HCV:=yb (zdK HO.out)
   have HIX:=yb (bidx_any HO.out 0)
   have hix:decide (0<=Lib.indexByte o 0)=decide ((0:UInt8)∈o):=idx_mem o 0
   obtain ⟨a1,cap1,hv1,hrow,-⟩:=Row.of_owns HO.out
   have hlen:=hrow.len1
   subst hv1
   rw [show (0:Int).toNat.toUInt8=0 from rfl] at HIX
   clear hg hrow
   by_cases h127:127<o.length
   ·have HNONE:=yb (show V=none by rw [hg2,yg (.inl h127)])
    have h127d:decide ((127:Int)<o.length)=true:=by simp;omega
    clear hg2 hix
    obtain ⟨⟨k0,k1,k2,k3⟩,f0,f1,f2,f3⟩:=zaf HBR.out
    go_wp2
    refine yi (zaa rfl _ _ r 27 _ (0,0) _ rfl (set4 HBR.out _ _ _ _) Tryz.underlying27 rfl zao _ rfl) rfl ?_
    exact zbA HNONE.out (zad HBW.out (by have:=HRR.out;omega) _ _ _ _)
   ·have h127d:decide ((127:Int)<o.length)=false:=by simp;omega
    have h127e:decide (127<o.length)=false:=ye h127
    obtain ⟨b,hb⟩:∃b,decide ((0:UInt8)∈o)=b:=⟨_,rfl⟩
    rw [hb] at hix
    have HBB:=yb hb
    generalize Lib.indexByte o 0=ix at *
    clear hb
    cases b
    ·have hn0:¬(0:UInt8)∈o:=of_decide_eq_false HBB.out
     have HS:=yb (show V=some o by rw [hg2,yh (by rintro (h|h)<;>contradiction)])
     clear hg2 h127 hn0
     go_wp2_with fail
     refine HIX.out.mono ?_
     rintro e w9 ⟨rfl,rfl⟩
     have hcv:=HCV.out
     obtain ⟨⟨k0,k1,k2,k3⟩,f0,f1,f2,f3⟩:=zaf HBR.out
     go_wp2
     refine yi (zaa rfl _ _ r 27 _ (0,0) _ rfl (set4 HBR.out _ _ _ _) Tryz.underlying27 rfl zao _ rfl) rfl ?_
     exact name_some HS.out (zad HBW.out (by have:=HRR.out;omega) _ _ _ _)
    ·have HNONE:=yb (show V=none by rw [hg2,yg (.inr (of_decide_eq_true HBB.out))])
     clear hg2 h127
     obtain ⟨⟨k0,k1,k2,k3⟩,f0,f1,f2,f3⟩:=zaf HBR.out
     go_wp2_with fail
     refine HIX.out.mono ?_
     rintro e w9 ⟨rfl,rfl⟩
     go_wp2
     refine yi (zaa rfl _ _ r 27 _ (0,0) _ rfl (set4 HBR.out _ _ _ _) Tryz.underlying27 rfl zao _ rfl) rfl ?_
     exact zbA HNONE.out (zad HBW.out (by have:=HRR.out;omega) _ _ _ _)
def tokC (kind f t vk vn:Int) (vs s:ByteArray):Array Value:=#[.int .i64 kind,.int .i64 f,.int .i64 t,.int .i64 vk,.int .i64 vn,.string vs,.slice none 0 0,.string s]
theorem zaL:(Tryz.prog.info? 150).map (·.size)=some 8:=by kernel_rfl
def zcp (w:World) (S:Nat->Prop) (p:Nat) (X:Src) (V:Int×Tk×List UInt8) (e:Ending) (w':World):Prop :=
 zai S w w'/\∃(k vk vn:Int) (vs s:ByteArray),e=.returned (.tuple #[.agg (tokC k 0 0 vk vn vs s),.int .i64 V.1]) /\
  (V.1=0->k=V.2.1.kind/\vk=V.2.1.vk/\vn=V.2.1.vn/\vs=mkB V.2.1.vs/\s=mkB V.2.1.s/\V.2.2.length<=X.bs.length/\w'.cell? ⟨p,3,none⟩=some (.int .i64 ((X.bs.length-V.2.2.length:Nat):Int)))
theorem set8 {w:World} {b:Nat} {x0 x1 x2 x3 x4 x5 x6 x7:Value} {t:TypeId} (h:w.heap[b]?=some (.cells #[x0,x1,x2,x3,x4,x5,x6,x7] t (0,0))) (y0 y1 y2 y3 y4 y5 y6 y7:Value) :
  ((((((((w.setCell ⟨b,0,none⟩ y0).setCell ⟨b,1,none⟩ y1).setCell ⟨b,2,none⟩ y2).setCell ⟨b,3,none⟩ y3).setCell ⟨b,4,none⟩ y4).setCell ⟨b,5,none⟩ y5).setCell ⟨b,6,none⟩ y6).setCell ⟨b,7,none⟩ y7).heap[b]?=some (.cells #[y0,y1,y2,y3,y4,y5,y6,y7] t (0,0)):=by
 have h0:(w.setCell ⟨b,0,none⟩ y0).heap[b]?=some (.cells #[y0,x1,x2,x3,x4,x5,x6,x7] t (0,0)):=heap_setCell_same w _ 0 _ _ _ h
 generalize w.setCell ⟨b,0,none⟩ y0=w0 at *
 have h1:(w0.setCell ⟨b,1,none⟩ y1).heap[b]?=some (.cells #[y0,y1,x2,x3,x4,x5,x6,x7] t (0,0)):=heap_setCell_same w0 _ 1 _ _ _ h0
 generalize w0.setCell ⟨b,1,none⟩ y1=w1 at *
 have h2:(w1.setCell ⟨b,2,none⟩ y2).heap[b]?=some (.cells #[y0,y1,y2,x3,x4,x5,x6,x7] t (0,0)):=heap_setCell_same w1 _ 2 _ _ _ h1
 generalize w1.setCell ⟨b,2,none⟩ y2=w2 at *
 have h3:(w2.setCell ⟨b,3,none⟩ y3).heap[b]?=some (.cells #[y0,y1,y2,y3,x4,x5,x6,x7] t (0,0)):=heap_setCell_same w2 _ 3 _ _ _ h2
 generalize w2.setCell ⟨b,3,none⟩ y3=w3 at *
 have h4:(w3.setCell ⟨b,4,none⟩ y4).heap[b]?=some (.cells #[y0,y1,y2,y3,y4,x5,x6,x7] t (0,0)):=heap_setCell_same w3 _ 4 _ _ _ h3
 generalize w3.setCell ⟨b,4,none⟩ y4=w4 at *
 have h5:(w4.setCell ⟨b,5,none⟩ y5).heap[b]?=some (.cells #[y0,y1,y2,y3,y4,y5,x6,x7] t (0,0)):=heap_setCell_same w4 _ 5 _ _ _ h4
 generalize w4.setCell ⟨b,5,none⟩ y5=w5 at *
 have h6:(w5.setCell ⟨b,6,none⟩ y6).heap[b]?=some (.cells #[y0,y1,y2,y3,y4,y5,y6,x7] t (0,0)):=heap_setCell_same w5 _ 6 _ _ _ h5
 generalize w5.setCell ⟨b,6,none⟩ y6=w6 at *
 exact heap_setCell_same w6 _ 7 _ _ _ h6
theorem zbo {S:Nat->Prop} {w W:World} (h:zai S w W) {r:Nat} (hr:w.heap.size<=r) (y0 y1 y2 y3 y4 y5 y6 y7:Value) :
  zai S w ((((((((W.setCell ⟨r,0,none⟩ y0).setCell ⟨r,1,none⟩ y1).setCell ⟨r,2,none⟩ y2).setCell ⟨r,3,none⟩ y3).setCell ⟨r,4,none⟩ y4).setCell ⟨r,5,none⟩ y5).setCell ⟨r,6,none⟩ y6).setCell ⟨r,7,none⟩ y7) :=
 (((((((h.setCell (.inr hr) _).setCell (.inr hr) _).setCell (.inr hr) _).setCell (.inr hr) _).setCell (.inr hr) _).setCell (.inr hr) _).setCell (.inr hr) _).setCell (.inr hr) _
theorem zgl {W:World} {b r:Nat} (hb:b≠r) (y0 y1 y2 y3 y4 y5 y6 y7:Value) :
  ((((((((W.setCell ⟨r,0,none⟩ y0).setCell ⟨r,1,none⟩ y1).setCell ⟨r,2,none⟩ y2).setCell ⟨r,3,none⟩ y3).setCell ⟨r,4,none⟩ y4).setCell ⟨r,5,none⟩ y5).setCell ⟨r,6,none⟩ y6).setCell ⟨r,7,none⟩ y7).heap[b]?=W.heap[b]?:=by
 rw [heap_setCell_other _ _ _ _ hb,heap_setCell_other _ _ _ _ hb,heap_setCell_other _ _ _ _ hb,heap_setCell_other _ _ _ _ hb,heap_setCell_other _ _ _ _ hb,heap_setCell_other _ _ _ _ hb,heap_setCell_other _ _ _ _ hb,heap_setCell_other _ _ _ _ hb]
theorem zcw {W:World} {b r:Nat} (hb:b≠r) (i:Nat) (y0 y1 y2 y3 y4 y5 y6 y7:Value) :
  ((((((((W.setCell ⟨r,0,none⟩ y0).setCell ⟨r,1,none⟩ y1).setCell ⟨r,2,none⟩ y2).setCell ⟨r,3,none⟩ y3).setCell ⟨r,4,none⟩ y4).setCell ⟨r,5,none⟩ y5).setCell ⟨r,6,none⟩ y6).setCell ⟨r,7,none⟩ y7).cell? ⟨b,i,none⟩=W.cell? ⟨b,i,none⟩:=by
 simp only [World.cell?]
 rw [zgl hb]
theorem zag {w:World} {b:Nat} {x0 x1 x2 x3 x4 x5 x6 x7:Value} {t:TypeId} (h:w.heap[b]?=some (.cells #[x0,x1,x2,x3,x4,x5,x6,x7] t (0,0))) :
  (w.cell? ⟨b,0,none⟩=some x0/\w.cell? ⟨b,1,none⟩=some x1/\w.cell? ⟨b,2,none⟩=some x2/\w.cell? ⟨b,3,none⟩=some x3/\w.cell? ⟨b,4,none⟩=some x4/\w.cell? ⟨b,5,none⟩=some x5/\w.cell? ⟨b,6,none⟩=some x6/\w.cell? ⟨b,7,none⟩=some x7) /\
  (w.frozen? ⟨b,0,none⟩=false/\w.frozen? ⟨b,1,none⟩=false/\w.frozen? ⟨b,2,none⟩=false/\w.frozen? ⟨b,3,none⟩=false/\w.frozen? ⟨b,4,none⟩=false/\w.frozen? ⟨b,5,none⟩=false/\w.frozen? ⟨b,6,none⟩=false/\w.frozen? ⟨b,7,none⟩=false):=by
 refine ⟨⟨?_,?_,?_,?_,?_,?_,?_,?_⟩,frozen_of_row w b 0 _ _ h,frozen_of_row w b 1 _ _ h,frozen_of_row w b 2 _ _ h,frozen_of_row w b 3 _ _ h,frozen_of_row w b 4 _ _ h,frozen_of_row w b 5 _ _ h,frozen_of_row w b 6 _ _ h,frozen_of_row w b 7 _ _ h⟩
 ·rw [cell_of_row w b 0 _ _ _ h];rfl
 ·rw [cell_of_row w b 1 _ _ _ h];rfl
 ·rw [cell_of_row w b 2 _ _ _ h];rfl
 ·rw [cell_of_row w b 3 _ _ _ h];rfl
 ·rw [cell_of_row w b 4 _ _ _ h];rfl
 ·rw [cell_of_row w b 5 _ _ _ h];rfl
 ·rw [cell_of_row w b 6 _ _ _ h];rfl
 ·rw [cell_of_row w b 7 _ _ _ h];rfl
theorem tok_err {w w':World} {S:Nat->Prop} {p:Nat} {X:Src} {V:Int×Tk×List UInt8} {er:Int} (hV:V.1=er) (hn:er≠0) (hk:zai S w w') (k vk vn:Int) (vs s:ByteArray) :
  zcp w S p X V (.returned (.tuple #[.agg (tokC k 0 0 vk vn vs s),.int .i64 er])) w' :=
 ⟨hk,k,vk,vn,vs,s,by rw [hV],fun h=>absurd (hV.symm.trans h) hn⟩
theorem tok_ok {w w':World} {S:Nat->Prop} {p:Nat} {X:Src} {V:Int×Tk×List UInt8} {x:Tk} {t:List UInt8} (hV:V=(0,x,t)) (hk:zai S w w') (ht:t.length<=X.bs.length) (hc:w'.cell? ⟨p,3,none⟩=some (.int .i64 ((X.bs.length-t.length:Nat):Int))) :
  zcp w S p X V (.returned (.tuple #[.agg (tokC x.kind 0 0 x.vk x.vn (mkB x.vs) (mkB x.s)),.int .i64 0])) w':=by
 subst hV;exact ⟨hk,_,_,_,_,_,rfl,fun _=>⟨rfl,rfl,rfl,rfl,rfl,ht,hc⟩⟩
def clV (X:Src) (k:Nat):Int×Tk×List UInt8:=match X.bs.drop k with
 | []=>(if X.yq then 11 else 6,{ kind:=0 },[])
 | d::u=>if d=62 then (0,{ kind:=5 },u) else (11,{ kind:=0 },[])
theorem clV_in {X:Src} {k:Nat} (hk:k<X.bs.length):clV X k=if X.bs.getD k 0=62 then (0,{ kind:=5 },X.bs.drop (k+1)) else (11,{ kind:=0 },[]):=by
 unfold clV;rw [zay hk]
theorem clV_out {X:Src} {k:Nat} (hk:¬k<X.bs.length):clV X k=(if X.yq then 11 else 6,{ kind:=0 },[]):=by
 unfold clV;rw [zbd (by omega)]
theorem ScQ.facts {w:World} {S:Nat->Prop} {p:Nat} {X:Src} {out:List UInt8} {k:Nat} (h:ScQ w S p X out k):(∀b,S b->b<w.heap.size)/\S p/\k<=X.bs.length/\X.bs.length<=400000/\w.cell? ⟨p,3,none⟩=some (.int .i64 k)/\w.cell? ⟨p,4,none⟩=some (.bool X.yq)/\(∀j,w.frozen? ⟨p,j,none⟩=false):=by
 obtain ⟨_,_,h⟩:=h
 exact ⟨fun b hb=>(h.lt b hb).2,h.own,h.le,h.small,h.cells.2.2.2.1,h.cells.2.2.2.2,h.free⟩
theorem ScQ.step {w:World} {S:Nat->Prop} {p:Nat} {X:Src} {out:List UInt8} {k:Nat} (h:ScQ w S p X out k) (hk:k<X.bs.length):zap w S p X out (k+1) (w.setCell ⟨p,3,none⟩ (.int .i64 ((k:Int)+1))):=by
 obtain ⟨_,_,h⟩:=h
 exact h.move (k+1) hk (by omega)
structure Tm (w:World) (S:Nat->Prop) (p r:Nat) (X:Src) (k:Nat) (W:World):Prop where
 sc:ScQ W S p X [] k
 blk:W.heap[r]?=some (.cells #[.int .i64 0,.int .i64 0,.int .i64 0,.int .i64 0,.int .i64 0,.string ⟨#[]⟩,.slice none 0 0,.string ⟨#[]⟩] 150 (0,0))
 keeps:zai S w W
 pr:p≠r
 wr:w.heap.size<=r
 sr:¬S r
theorem Tm.start {w:World} {S:Nat->Prop} {p:Nat} {X:Src} {k:Nat} (h:ScQ w S p X [] k):Tm w S p w.heap.size X k (w.alloc (.cells #[.int .i64 0,.int .i64 0,.int .i64 0,.int .i64 0,.int .i64 0,.string ⟨#[]⟩,.slice none 0 0,.string ⟨#[]⟩] 150)) :=
 ⟨h.keep (zam w _),zac _ rfl,(zai.refl S w).alloc _,by have:=h.facts.1 p h.facts.2.1;omega,yp _,fun hS=>by have:=h.facts.1 _ hS;omega⟩
theorem Tm.drewN {w W:World} {S:Nat->Prop} {p r:Nat} {X:Src} {k:Nat} (h:Tm w S p r X k W) (q:Nat):Tm w S p r X k (W.drewN q) :=
 ⟨h.sc.drewN q,h.blk,h.keeps.drewN q,h.pr,h.wr,h.sr⟩
theorem ScQ.next {w:World} {S:Nat->Prop} {p:Nat} {X:Src} {k:Nat} (h:ScQ w S p X [] k) (hk:k<X.bs.length):ScQ (w.setCell ⟨p,3,none⟩ (.int .i64 ((k:Int)+1))) S p X [] (k+1):=by
 obtain ⟨ad,v,h⟩:=h
 have hb:=h.blk
 refine ⟨ad,v,⟨?_,h.ad_,?_,h.at_,h.own,fun b hS=>by have:=h.lt b hS;simpa using this,?_,h.srcb,hk,h.small,by simp,h.nil_⟩⟩
 ·rw [heap_setCell_same _ _ 3 _ _ _ hb];rfl
 ·exact ownsRow_setCell_other h.row (a:=⟨p,3,none⟩) (fun e=>by have:=(h.row.lt p e).1;omega) _
 ·exact h.src.keeps (S:=fun b=>b=p) ((zai.refl (fun b=>b=p) w).setCell (a:=⟨p,3,none⟩) (.inl rfl) _) (fun x hx e=>by have:=h.srcb x hx;omega)
theorem Tm.next {w W:World} {S:Nat->Prop} {p r:Nat} {X:Src} {k:Nat} (h:Tm w S p r X k W) (hk:k<X.bs.length):Tm w S p r X (k+1) (W.setCell ⟨p,3,none⟩ (.int .i64 ((k:Int)+1))) :=
 ⟨h.sc.next hk,by rw [heap_setCell_other _ _ _ _ (Ne.symm h.pr)];exact h.blk,h.keeps.setCell (.inl h.sc.facts.2.1) _,h.pr,h.wr,h.sr⟩
theorem Tm.ok {w W:World} {S:Nat->Prop} {p r:Nat} {X:Src} {k:Nat} {V:Int×Tk×List UInt8} {x:Tk} (h:Tm w S p r X k W) (hV:V=(0,x,X.bs.drop k)) (y0 y1 y2 y3 y4 y5 y6 y7:Value) :
  zcp w S p X V (.returned (.tuple #[.agg (tokC x.kind 0 0 x.vk x.vn (mkB x.vs) (mkB x.s)),.int .i64 0]))
   ((((((((W.setCell ⟨r,0,none⟩ y0).setCell ⟨r,1,none⟩ y1).setCell ⟨r,2,none⟩ y2).setCell ⟨r,3,none⟩ y3).setCell ⟨r,4,none⟩ y4).setCell ⟨r,5,none⟩ y5).setCell ⟨r,6,none⟩ y6).setCell ⟨r,7,none⟩ y7) :=
 tok_ok hV (zbo h.keeps h.wr _ _ _ _ _ _ _ _) (by simp) (by
  rw [zcw h.pr,h.sc.facts.2.2.2.2.1,ym]
  have:=h.sc.facts.2.2.1
  congr 2;omega)
theorem Tm.err {w W:World} {S:Nat->Prop} {p r:Nat} {X:Src} {k:Nat} {V:Int×Tk×List UInt8} {er:Int} (h:Tm w S p r X k W) (hV:V.1=er) (hn:er≠0) (y0 y1 y2 y3 y4 y5 y6 y7:Value) (a b c:Int) (vs s:ByteArray) :
  zcp w S p X V (.returned (.tuple #[.agg (tokC a 0 0 b c vs s),.int .i64 er]))
   ((((((((W.setCell ⟨r,0,none⟩ y0).setCell ⟨r,1,none⟩ y1).setCell ⟨r,2,none⟩ y2).setCell ⟨r,3,none⟩ y3).setCell ⟨r,4,none⟩ y4).setCell ⟨r,5,none⟩ y5).setCell ⟨r,6,none⟩ y6).setCell ⟨r,7,none⟩ y7) :=
 tok_err hV hn (zbo h.keeps h.wr _ _ _ _ _ _ _ _) a b c vs s
structure Tn (w:World) (S:Nat->Prop) (p r:Nat) (W:World):Prop where
 blk:W.heap[r]?=some (.cells #[.int .i64 0,.int .i64 0,.int .i64 0,.int .i64 0,.int .i64 0,.string ⟨#[]⟩,.slice none 0 0,.string ⟨#[]⟩] 150 (0,0))
 keeps:zai S w W
 pr:p≠r
 wr:w.heap.size<=r
 sp:S p
theorem Tn.of {w W W':World} {S:Nat->Prop} {p r:Nat} {X:Src} {k:Nat} (h:Tm w S p r X k W) (hk:zai S W W'):Tn w S p r W' :=
 ⟨hk.obj h.blk h.sr,h.keeps.trans hk (fun _ hS=>.inl hS),h.pr,h.wr,h.sc.facts.2.1⟩
theorem Tn.on {w W W':World} {S:Nat->Prop} {p r:Nat} (h:Tn w S p r W) (hb:Below W.heap.size W W'):Tn w S p r W' :=
 ⟨zab hb h.blk,h.keeps.trans (zai.of_below (S:=fun b=>W.heap.size<=b) hb (fun _ h=>h)) (fun _ hS=>.inr (Nat.le_trans h.keeps.size hS)),h.pr,h.wr,h.sp⟩
theorem Tn.alloc {w W:World} {S:Nat->Prop} {p r:Nat} (h:Tn w S p r W) (o:Obj):Tn w S p r (W.alloc o):=h.on (zam W o)
theorem Tn.ok {w W:World} {S:Nat->Prop} {p r:Nat} {X:Src} {V:Int×Tk×List UInt8} {x:Tk} {t:List UInt8} (h:Tn w S p r W) (hV:V=(0,x,t)) (ht:t.length<=X.bs.length) (hc:W.cell? ⟨p,3,none⟩=some (.int .i64 ((X.bs.length-t.length:Nat):Int))) (y0 y1 y2 y3 y4 y5 y6 y7:Value) :
  zcp w S p X V (.returned (.tuple #[.agg (tokC x.kind 0 0 x.vk x.vn (mkB x.vs) (mkB x.s)),.int .i64 0]))
   ((((((((W.setCell ⟨r,0,none⟩ y0).setCell ⟨r,1,none⟩ y1).setCell ⟨r,2,none⟩ y2).setCell ⟨r,3,none⟩ y3).setCell ⟨r,4,none⟩ y4).setCell ⟨r,5,none⟩ y5).setCell ⟨r,6,none⟩ y6).setCell ⟨r,7,none⟩ y7) :=
 tok_ok hV (zbo h.keeps h.wr _ _ _ _ _ _ _ _) ht (by rw [zcw h.pr];exact hc)
theorem Tn.err {w W:World} {S:Nat->Prop} {p r:Nat} {X:Src} {V:Int×Tk×List UInt8} {er:Int} (h:Tn w S p r W) (hV:V.1=er) (hn:er≠0) (y0 y1 y2 y3 y4 y5 y6 y7:Value) (a b c:Int) (vs s:ByteArray) :
  zcp w S p X V (.returned (.tuple #[.agg (tokC a 0 0 b c vs s),.int .i64 er]))
   ((((((((W.setCell ⟨r,0,none⟩ y0).setCell ⟨r,1,none⟩ y1).setCell ⟨r,2,none⟩ y2).setCell ⟨r,3,none⟩ y3).setCell ⟨r,4,none⟩ y4).setCell ⟨r,5,none⟩ y5).setCell ⟨r,6,none⟩ y6).setCell ⟨r,7,none⟩ y7) :=
 tok_err hV hn (zbo h.keeps h.wr _ _ _ _ _ _ _ _) a b c vs s
theorem Tn.any {w W:World} {S:Nat->Prop} {p r:Nat} {X:Src} {V:Int×Tk×List UInt8} {x:Tk} {t:List UInt8} {er:Int} (h:Tn w S p r W) (hV:V=(er,x,t)) (ht:t.length<=X.bs.length) (hc:W.cell? ⟨p,3,none⟩=some (.int .i64 ((X.bs.length-t.length:Nat):Int))) (y0 y1 y2 y3 y4 y5 y6 y7:Value) :
  zcp w S p X V (.returned (.tuple #[.agg (tokC x.kind 0 0 x.vk x.vn (mkB x.vs) (mkB x.s)),.int .i64 er]))
   ((((((((W.setCell ⟨r,0,none⟩ y0).setCell ⟨r,1,none⟩ y1).setCell ⟨r,2,none⟩ y2).setCell ⟨r,3,none⟩ y3).setCell ⟨r,4,none⟩ y4).setCell ⟨r,5,none⟩ y5).setCell ⟨r,6,none⟩ y6).setCell ⟨r,7,none⟩ y7):=by
 by_cases he:er=0
 ·subst he;exact h.ok hV ht hc _ _ _ _ _ _ _ _
 ·exact h.err (by rw [hV]) he _ _ _ _ _ _ _ _ _ _ _ _ _
theorem zbg {w:World} {b o:Nat} {v:Value} (x:Obj) (h:w.cell? ⟨b,o,none⟩=some v):(w.alloc x).cell? ⟨b,o,none⟩=some v:=cell?_keep (zam w x) h
theorem closing_any {w:World} {S:Nat->Prop} {p:Nat} {X:Src} {k:Nat} (h:ScQ w S p X [] k) :
  Calls Tryz.prog 180 #[.pointer (some ⟨p,0,none⟩)] w (zcp w S p X (clV X k)):=by
 obtain ⟨V,hV⟩:∃V,V=clV X k:=⟨_,rfl⟩
 rw [<-hV]
 have hT:=Tm.start h
 obtain ⟨r,hr⟩:∃r,r=w.heap.size:=⟨_,rfl⟩
 rw [<-hr] at hT
 have HT0:=yb hT
 have HR:=yb hr
 have hP:=zcJ hT.sc
 have hsm:=h.facts.2.2.2.1
 clear hT hr h
 by_cases hk:k<X.bs.length
 ·have hv:=hV.trans (clV_in hk)
  unfold zeS u8C at hP
  rw [yg hk] at hP
  have HK:=yb hk
  have hkb:k<=399999:=by omega
  clear hsm
  generalize X.bs.getD k 0=c at *
  have HP:=yb hP
  clear hP hV hk
  by_cases hc:c=62
  ·rw [yg hc] at hv
   have HV:=yb hv
   have hc2:c.toNat=62:=by rw [hc];rfl
   rw [hc2] at HP
   clear hv hc hc2
   go_enter Tryz.func180,Tryz.ntmps180
   go_wp2_with fail
   refine HP.out.mono ?_
   rintro e w1 ⟨rfl,q,rfl⟩
   have HT1:=yb (HT0.out.drewN q)
   have HT2:=yb (HT1.out.next HK.out)
   obtain ⟨-,-,-,-,c3,c4,fr⟩:=HT1.out.sc.facts
   have f3:=fr 3
   rw [<-HR.out]
   clear fr HT0
   generalize (w.alloc _).drewN q=W1 at *
   obtain ⟨⟨k0,k1,k2,k3,k4,k5,k6,k7⟩,f0,f1,f2,f3',f4,f5,f6,f7⟩:=zag HT2.out.blk
   go_wp2
   refine yi (zaa rfl _ _ _ 150 _ (0,0) _ rfl (set8 HT2.out.blk _ _ _ _ _ _ _ _) Tryz.underlying150 rfl zaL _ rfl) rfl ?_
   exact HT2.out.ok HV.out _ _ _ _ _ _ _ _
  ·rw [yh hc] at hv
   have HV:=yb hv
   have hc2:¬c.toNat=62:=fun h=>hc (UInt8.toNat_inj.1 h)
   have hc3:((c.toNat:Int)==62)=false:=by rw [yf];omega
   generalize c.toNat=x at *
   clear hv hc
   go_enter Tryz.func180,Tryz.ntmps180
   go_wp2_with fail
   refine HP.out.mono ?_
   rintro e w1 ⟨rfl,q,rfl⟩
   have HT1:=yb (HT0.out.drewN q)
   rw [<-HR.out]
   clear HT0
   generalize (w.alloc _).drewN q=W1 at *
   obtain ⟨⟨k0,k1,k2,k3,k4,k5,k6,k7⟩,f0,f1,f2,f3,f4,f5,f6,f7⟩:=zag HT1.out.blk
   go_wp2
   refine yi (zaa rfl _ _ _ 150 _ (0,0) _ rfl (set8 HT1.out.blk _ _ _ _ _ _ _ _) Tryz.underlying150 rfl zaL _ rfl) rfl ?_
   exact HT1.out.err (by rw [HV.out]) (by decide) _ _ _ _ _ _ _ _ _ _ _ _ _
 ·have hv:=hV.trans (clV_out hk)
  unfold zeS at hP
  rw [yh hk] at hP
  have HP:=yb hP
  obtain ⟨l,hl⟩:∃l,X.yq=l:=⟨_,rfl⟩
  rw [hl] at hv
  have HV:=yb hv
  have HL:=yb hl
  clear hv hV hk hP hsm hl
  cases l
  all_goals
   go_enter Tryz.func180,Tryz.ntmps180
   go_wp2_with fail
   refine HP.out.mono ?_
   rintro e w1 ⟨rfl,q,rfl⟩
   have HT1:=yb (HT0.out.drewN q)
   obtain ⟨-,-,-,-,-,c4,-⟩:=HT1.out.sc.facts
   rw [HL.out] at c4
   rw [<-HR.out]
   clear HT0
   generalize (w.alloc _).drewN q=W1 at *
   obtain ⟨⟨k0,k1,k2,k3,k4,k5,k6,k7⟩,f0,f1,f2,f3,f4,f5,f6,f7⟩:=zag HT1.out.blk
   go_wp2
   refine yi (zaa rfl _ _ _ 150 _ (0,0) _ rfl (set8 HT1.out.blk _ _ _ _ _ _ _ _) Tryz.underlying150 rfl zaL _ rfl) rfl ?_
   exact HT1.out.err (by rw [HV.out];rfl) (by decide) _ _ _ _ _ _ _ _ _ _ _ _ _
theorem zcI (l:Bool):za6 l≠0:=by cases l<;>decide
def hexK (yq:Bool) (H:Int×List UInt8×List UInt8):Int×Tk×List UInt8:=if H.1=0 then (0,{ kind:=1,vk:=4,vs:=H.2.1 },H.2.2) else if H.1=1 then (za6 yq,{ kind:=0 },[]) else (11,{ kind:=0 },[])
def opV (X:Src) (k:Nat):Int×Tk×List UInt8:=match X.bs.drop k with
 | []=>(za6 X.yq,{ kind:=0 },[])
 | d::u=>if d=60 then (0,{ kind:=4 },u) else hexK X.yq (hexV [] (-1) (d::u))
theorem opV_in {X:Src} {k:Nat} (hk:k<X.bs.length):opV X k=if X.bs.getD k 0=60 then (0,{ kind:=4 },X.bs.drop (k+1)) else hexK X.yq (hexV [] (-1) (X.bs.drop k)):=by
 unfold opV;rw [zay hk]
theorem opV_out {X:Src} {k:Nat} (hk:¬k<X.bs.length):opV X k=(za6 X.yq,{ kind:=0 },[]):=by
 unfold opV;rw [zbd (by omega)]
theorem opening_any {w:World} {S:Nat->Prop} {p:Nat} {X:Src} {k:Nat} (h:ScQ w S p X [] k) (h1k:1<=k) :
  Calls Tryz.prog 179 #[.pointer (some ⟨p,0,none⟩)] w (zcp w S p X (opV X k)):=by
 obtain ⟨V,hV⟩:∃V,V=opV X k:=⟨_,rfl⟩
 rw [<-hV]
 have hT:=Tm.start h
 obtain ⟨r,hr⟩:∃r,r=w.heap.size:=⟨_,rfl⟩
 rw [<-hr] at hT
 have HT0:=yb hT
 have HR:=yb hr
 have hP:=zcJ hT.sc
 have hsm:=h.facts.2.2.2.1
 clear hT hr h
 by_cases hk:k<X.bs.length
 ·have hv:=hV.trans (opV_in hk)
  unfold zeS u8C at hP
  rw [yg hk] at hP
  have HK:=yb hk
  have H1K:=yb h1k
  have hkb:k<=399999:=by omega
  clear hsm
  generalize X.bs.getD k 0=c at *
  have HP:=yb hP
  clear hP hV hk
  by_cases hc:c=60
  ·rw [yg hc] at hv
   have HV:=yb hv
   have hc2:c.toNat=60:=by rw [hc];rfl
   rw [hc2] at HP
   clear hv hc hc2
   go_enter Tryz.func179,Tryz.ntmps179
   go_wp2_with fail
   refine HP.out.mono ?_
   rintro e w1 ⟨rfl,q,rfl⟩
   have HT1:=yb (HT0.out.drewN q)
   have HT2:=yb (HT1.out.next HK.out)
   obtain ⟨-,-,-,-,c3,c4,fr⟩:=HT1.out.sc.facts
   have f3:=fr 3
   rw [<-HR.out]
   clear fr HT0
   generalize (w.alloc _).drewN q=W1 at *
   obtain ⟨⟨k0,k1,k2,k3,k4,k5,k6,k7⟩,f0,f1,f2,f3',f4,f5,f6,f7⟩:=zag HT2.out.blk
   go_wp2
   refine yi (zaa rfl _ _ _ 150 _ (0,0) _ rfl (set8 HT2.out.blk _ _ _ _ _ _ _ _) Tryz.underlying150 rfl zaL _ rfl) rfl ?_
   exact HT2.out.ok HV.out _ _ _ _ _ _ _ _
  ·rw [yh hc] at hv
   have HV:=yb hv
   have hc2:¬c.toNat=60:=fun h=>hc (UInt8.toNat_inj.1 h)
   have hc3:((c.toNat:Int)==60)=false:=by rw [yf];omega
   generalize c.toNat=x at *
   clear hv hc
   go_enter Tryz.func179,Tryz.ntmps179
   go_wp2_with fail
   refine HP.out.mono ?_
   rintro e w1 ⟨rfl,q,rfl⟩
   have HT1:=yb (HT0.out.drewN q)
   rw [<-HR.out]
   clear HT0
   generalize (w.alloc _).drewN q=W1 at *
   go_wp2_with fail
   refine (hexes_any HT1.out.sc H1K.out).mono ?_
   rintro e w2 ⟨hk2,hh⟩
   have HT2:=yb (Tn.of HT1.out hk2)
   generalize hexV [] (-1) (X.bs.drop k)=H at *
   rcases hh with ⟨h1,rfl⟩|⟨h1,rfl⟩|⟨h1,rfl,h2,h3⟩
   ·have HL:=yb (show V.1=za6 X.yq by rw [HV.out,hexK,h1];rfl)
    have HN:=yb (zcI X.yq)
    generalize za6 X.yq=er at *
    clear h1
    have HT3:=yb (HT2.out.alloc (.cells (valC 0 0 zbe) 27))
    obtain ⟨⟨k0,k1,k2,k3,k4,k5,k6,k7⟩,f0,f1,f2,f3,f4,f5,f6,f7⟩:=zag HT3.out.blk
    unfold valC zbe at *
    go_wp2
    refine yi (zaa rfl _ _ _ 150 _ (0,0) _ rfl (set8 HT3.out.blk _ _ _ _ _ _ _ _) Tryz.underlying150 rfl zaL _ rfl) rfl ?_
    exact HT3.out.err HL.out HN.out _ _ _ _ _ _ _ _ _ _ _ _ _
   ·have HL:=yb (show V.1=11 by rw [HV.out,hexK,h1];rfl)
    clear h1
    have HT3:=yb (HT2.out.alloc (.cells (valC 0 0 zbe) 27))
    obtain ⟨⟨k0,k1,k2,k3,k4,k5,k6,k7⟩,f0,f1,f2,f3,f4,f5,f6,f7⟩:=zag HT3.out.blk
    unfold valC zbe at *
    go_wp2
    refine yi (zaa rfl _ _ _ 150 _ (0,0) _ rfl (set8 HT3.out.blk _ _ _ _ _ _ _ _) Tryz.underlying150 rfl zaL _ rfl) rfl ?_
    exact HT3.out.err HL.out (by decide) _ _ _ _ _ _ _ _ _ _ _ _ _
   ·have HL:=yb (show V=(0,{ kind:=1,vk:=4,vs:=H.2.1 },H.2.2) by rw [HV.out,hexK,yg h1])
    have HA:=yb (fun x=>zbg x h3)
    have HB:=yb h2
    obtain ⟨B,hB⟩:∃B,mkB H.2.1=B:=⟨_,rfl⟩
    rw [hB]
    have HBB:=yb hB
    have HT3:=yb (HT2.out.alloc (.cells (valC 4 0 B) 27))
    obtain ⟨⟨k0,k1,k2,k3,k4,k5,k6,k7⟩,f0,f1,f2,f3,f4,f5,f6,f7⟩:=zag HT3.out.blk
    unfold valC at *
    clear h1 h2 h3 hB
    go_wp2
    refine yi (zaa rfl _ _ _ 150 _ (0,0) _ rfl (set8 HT3.out.blk _ _ _ _ _ _ _ _) Tryz.underlying150 rfl zaL _ rfl) rfl ?_
    have hbb:=HBB.out
    subst hbb
    exact HT3.out.ok (x:={ kind:=1,vk:=4,vs:=H.2.1 }) HL.out HB.out (HA.out _) _ _ _ _ _ _ _ _
 ·have HV:=yb (hV.trans (opV_out hk))
  unfold zeS at hP
  rw [yh hk] at hP
  have HP:=yb hP
  clear hV hk hP hsm
  go_enter Tryz.func179,Tryz.ntmps179
  go_wp2_with fail
  refine HP.out.mono ?_
  rintro e w1 ⟨rfl,q,rfl⟩
  have HT1:=yb (HT0.out.drewN q)
  rw [<-HR.out]
  clear HT0
  generalize (w.alloc _).drewN q=W1 at *
  obtain ⟨⟨k0,k1,k2,k3,k4,k5,k6,k7⟩,f0,f1,f2,f3,f4,f5,f6,f7⟩:=zag HT1.out.blk
  go_wp2_with fail
  refine (zdE HT1.out.sc).mono ?_
  rintro e w2 ⟨rfl,rfl⟩
  have HN:=yb (zcI X.yq)
  go_wp2
  refine yi (zaa rfl _ _ _ 150 _ (0,0) _ rfl (set8 HT1.out.blk _ _ _ _ _ _ _ _) Tryz.underlying150 rfl zaL _ rfl) rfl ?_
  exact HT1.out.err (by rw [HV.out]) HN.out _ _ _ _ _ _ _ _ _ _ _ _ _
end Go.Proofs.YtfafdeemfeaedaaGreat
