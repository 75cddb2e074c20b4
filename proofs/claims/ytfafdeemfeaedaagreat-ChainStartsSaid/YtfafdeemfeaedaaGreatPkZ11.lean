/-
  Our texts Xf1 to Ck1, in one.
-/
import Derived.Test.YtfafdeemfeaedaaGreatPkZ10
import Derived.PlainAid
import Derived.Test.YtfafdeemfeaedaaGreatProg
import Derived.Lib.Bytealg
import Derived.Deep.RegionHeld3
import Derived.WalkKit
import Derived.Lib.SlBytesConst
import Derived.Maps.OwnOps
import Derived.Maps.OwnSet
import Derived.Maps.Views
import Derived.Deep.RegionLaw
import Derived.Deep.AppendLies
import Derived.Lib.LastIndexLaws
import Derived.Lib.SlBytesRow
import Derived.Deep.LoopGhost
import Derived.Deep.CutBlock
import Derived.BigQuiet
import Derived.Deep.QuietTactic
set_option maxRecDepth 8000
set_option maxHeartbeats 8000000
namespace Go.Proofs.YtfafdeemfeaedaaGreat
open Go.RowKit
theorem find_go {gs:List Grp} {c:Nat} {g:Grp} {n:Int} (hg:gs[c]?=some g) (h:¬(g.first≤n∧n-g.first<(g.es.length:Int))):zcE (gs.drop c) n=zcE (gs.drop (c+1)) n:=by
 obtain ⟨hc,rfl⟩:=List.getElem?_eq_some_iff.1 hg
 rw [List.drop_eq_getElem_cons hc,zcE,if_neg h]
theorem find_hit {gs:List Grp} {c:Nat} {g:Grp} {n:Int} (hg:gs[c]?=some g) (h:g.first≤n∧n-g.first<(g.es.length:Int)):zcE (gs.drop c) n=some (g.es.getD (n-g.first).toNat {}):=by
 obtain ⟨hc,rfl⟩:=List.getElem?_eq_some_iff.1 hg
 rw [List.drop_eq_getElem_cons hc,zcE,if_pos h]
def smallG (gs:List Grp):Prop:=∀g∈gs,-2000000000000000000≤g.first∧g.first≤2000000000000000000
theorem xfind_any {w:World} {F:Nat→Prop} {s:Sec} {gv sl:Value} (h:zbY w F s gv sl) (n:Int) (hs:smallG s.gs) (hn0:-2000000000000000000≤n) (hn1:n≤2000000000000000000) :
   Calls Tryz.prog 16 #[secA s gv sl,.int .i64 n] w fun e w'=>e=.returned (.tuple #[entA (findP (zcE s.gs n)).1,.bool (findP (zcE s.gs n)).2])∧Below w.heap.size w w':=by
 obtain ⟨gs,x⟩:=s
 simp only at hs ⊢
 obtain ⟨ga,gc,rfl,hgc,hgm,-⟩:=h.1.len
 simp only at hgc
 obtain ⟨V,hV⟩:∃V,V=zcE gs n:=⟨_,rfl⟩
 rw [←hV]
 have HV:=Lib.hid hV
 have HS:=Lib.hid hs
 have HGA:=Lib.hid (fun (W:World) (hb:Below w.heap.size w W)=>(h.1.below hb))
 simp only at HGA
 clear hV hs
 unfold secA
 simp only
 obtain ⟨sa,sc,rfl,-,-,-⟩:=h.2.len
 simp only at h ⊢
 clear h
 have hg63:(gs.length:Int)≤9223372036854775807:=by unfold maxLen at hgm;omega
 generalize x.kind=xk at *
 generalize x.n=xn at *
 generalize mkB x.s=xb at *
 generalize x.l.length=xl at *
 obtain ⟨B,hB⟩:∃B,B=w.heap.size:=⟨_,rfl⟩
 have HB1:=Lib.hid (zbD w (.cells #[.slice ga gs.length gc,.int .i64 xk,.int .i64 xn,.string xb,.slice sa xl sc] 29) (.cells #[.int .i64 0,.int .i64 0,.bool false] 44))
 have HX1:=Lib.hid (zal (w:=w.alloc (.cells #[.slice ga gs.length gc,.int .i64 xk,.int .i64 xn,.string xb,.slice sa xl sc] 29)) (.cells #[.int .i64 0,.int .i64 0,.bool false] 44) (zac (w:=w) (b:=B) (.cells #[.slice ga gs.length gc,.int .i64 xk,.int .i64 xn,.string xb,.slice sa xl sc] 29) hB))
 have HZ1:=Lib.hid (zac (w:=w.alloc (.cells #[.slice ga gs.length gc,.int .i64 xk,.int .i64 xn,.string xb,.slice sa xl sc] 29)) (b:=B+1) (.cells #[.int .i64 0,.int .i64 0,.bool false] 44) (by rw [zap,hB]))
 have HRW:=Lib.hid (show w.heap.size≤B+1 by omega)
 go_enter Tryz.func16,Tryz.ntmps16
 go_upto_region 1 with fail
 try rw [←hB]
 generalize World.alloc _ _=W1 at *
 clear hB
 generalize B+1=r at *
 obtain ⟨⟨x0,x1,x2,x3,x4⟩,-⟩:=zcX HX1.out
 go_wp2_with fail
 clear x0 x1 x2 x3 x4 HX1
 go_loopw [11] (fun v wr=>∃c:Nat,v=.int .i64 c∧c≤gs.length∧Hid (Below w.heap.size w wr)∧Hid (wr.heap[r]?=some (.cells #[.int .i64 0,.int .i64 0,.bool false] 44 (0,0)))∧Hid (V=zcE (gs.drop c) n)) (fun v _=>gs.length-(intOf v).toNat)
 case atStart=>exact ⟨0,rfl,Nat.zero_le _,HB1,HZ1,HV⟩
 case round =>
   obtain ⟨c,rfl,hc,HB,HZ,HQ⟩:=hrel
   by_cases hlt:c<gs.length
   · have hcd:decide ((c:Int)<(gs.length:Int))=true:=by simp;omega
     have hcd2:decide (c<gs.length)=true:=by simp;omega
     obtain ⟨-,-,-,b,off,ha,-,-,hat⟩:=(HGA.out wr HB.out).at (by omega)
     subst ha
     obtain ⟨g,hg⟩:∃g,gs[c]?=some g:=⟨_,List.getElem?_eq_getElem hlt⟩
     obtain ⟨v,hv,g0,g1⟩:=hat c g hg
     obtain ⟨ea,ec,rfl,hel,hec,-⟩:=hv.len
     obtain ⟨hs1,hs2⟩:=HS.out g (List.mem_of_getElem? hg)
     have HIE:=Lib.hid hv
     have HGO:=Lib.hid (fun h=>HQ.out.trans (find_go hg h))
     have HHT:=Lib.hid (fun h=>HQ.out.trans (find_hit hg h))
     have he63:(g.es.length:Int)≤9223372036854775807:=by unfold maxLen at hec;omega
     clear hat hv hg HQ
     obtain ⟨gf,ge⟩:=g
     simp only at *
     have HBA:=Lib.hid (HB.out.alloc HB.out.size (.cells #[.int .i64 gf,.slice ea ge.length ec] 42))
     have HZA:=Lib.hid (zal (.cells #[.int .i64 gf,.slice ea ge.length ec] 42) HZ.out)
     by_cases h1:gf≤n
     case neg =>
       have HQ2:=Lib.hid (HGO.out (fun h=>h1 h.1))
       have hd:decide (gf≤n)=false:=decide_eq_false h1
       go_wp2
       go_roundw
       case rel=>exact ⟨c+1,by go_num,by omega,HBA,HZA,HQ2⟩
       case measure=>simp [intOf];omega
     obtain ⟨m,hm⟩:∃m:Nat,n-gf=(m:Int):=⟨(n-gf).toNat,by omega⟩
     have hd:decide (gf≤n)=true:=decide_eq_true h1
     by_cases h2:m<ge.length
     case neg =>
       have HQ2:=Lib.hid (HGO.out (fun h=>h2 (by omega)))
       have hd2:decide (m<ge.length)=false:=decide_eq_false h2
       have hd3:decide ((m:Int)<(ge.length:Int))=false:=decide_eq_false (by omega)
       go_wp2
       go_roundw
       case rel=>exact ⟨c+1,by go_num,by omega,HBA,HZA,HQ2⟩
       case measure=>simp [intOf];omega
     have HQ2:=Lib.hid (HHT.out ⟨h1,by omega⟩)
     rw [hm,Int.toNat_natCast] at HQ2
     obtain ⟨-,-,-,be,oe,hae,hbe,-,hae2⟩:=HIE.out.at (by omega)
     subst hae
     obtain ⟨ee,hee⟩:∃ee,ge[m]?=some ee:=⟨_,List.getElem?_eq_getElem h2⟩
     obtain ⟨e0,e1,e2⟩:=hae2 m ee hee
     have HEE:=Lib.hid (show ge.getD m {}=ee by rw [List.getD_eq_getElem?_getD,hee];rfl)
     rw [HEE.out] at HQ2
     have hd2:decide (m<ge.length)=true:=decide_eq_true h2
     have hd3:decide ((m:Int)<(ge.length:Int))=true:=decide_eq_true (by omega)
     clear hae2 hee HEE HIE HGO HHT
     have e0:=za7 (.cells #[.int .i64 gf,.slice (some ⟨be,oe,none⟩) ge.length ec] 42) e0
     have e1:=za7 (.cells #[.int .i64 gf,.slice (some ⟨be,oe,none⟩) ge.length ec] 42) e1
     have e2:=za7 (.cells #[.int .i64 gf,.slice (some ⟨be,oe,none⟩) ge.length ec] 42) e2
     obtain ⟨⟨z0,z1,z2⟩,y0,y1,y2⟩:=ze2 HZA.out
     go_wp2
     refine bodyPost_ret (zaa rfl _ _ r 44 _ (0,0) _ rfl (by exact set3a HZA.out _ _ _) Tryz.underlying44 rfl (by exact zfa) _ rfl) rfl ?_
     rw [HQ2.out]
     exact ⟨rfl,((HBA.out.setCell HRW.out _).setCell HRW.out _).setCell HRW.out _⟩
   · have hce:c=gs.length:=by omega
     have hcd:decide ((c:Int)<(gs.length:Int))=false:=decide_eq_false (by omega)
     have hcd2:decide (c<gs.length)=false:=decide_eq_false (by omega)
     have HQ2:=Lib.hid (HQ.out.trans (show zcE (gs.drop c) n=none by rw [hce,List.drop_length];rfl))
     obtain ⟨⟨z0,z1,z2⟩,y0,y1,y2⟩:=ze2 HZ.out
     clear hce
     go_wp2
     refine bodyPost_ret (zaa rfl _ _ r 44 _ (0,0) _ rfl (by exact set3a HZ.out _ _ _) Tryz.underlying44 rfl (by exact zfa) _ rfl) rfl ?_
     rw [HQ2.out]
     exact ⟨rfl,((HB.out.setCell HRW.out _).setCell HRW.out _).setCell HRW.out _⟩
structure SmM (w W:World) (B1 B2:Nat) (c1 c2:Array Value):Prop where
 bel:Below w.heap.size w W
 one:W.heap[B1]?=some (.cells c1 33 (0,0))
 two:W.heap[B2]?=some (.cells c2 33 (0,0))
theorem SmM.on {w W W':World} {B1 B2:Nat} {c1 c2:Array Value} (h:SmM w W B1 B2 c1 c2) (hb:Below W.heap.size W W'):SmM w W' B1 B2 c1 c2 :=
 ⟨h.bel.trans (hb.mono h.bel.size),zab hb h.one,zab hb h.two⟩
structure GgM (W W':World) (b1 b2:Nat) (c1 c2:Array Value):Prop where
 bel:Below W.heap.size W W'
 one:W'.heap[b1]?=some (.cells c1 42 (0,0))
 two:W'.heap[b2]?=some (.cells c2 42 (0,0))
theorem GgM.on {w W W':World} {B1 B2:Nat} {c1 c2:Array Value} (h:GgM w W B1 B2 c1 c2) (hb:Below W.heap.size W W'):GgM w W' B1 B2 c1 c2 :=
 ⟨h.bel.trans (hb.mono h.bel.size),zab hb h.one,zab hb h.two⟩
theorem row_bsX {w:World} (bs:List UInt8) (t:TypeId) (hb:bs.length≤200):Row (w.alloc (.cells (bs.map u8C).toArray t (bs.length,bs.length+1))) 1 (some ⟨w.heap.size,0,none⟩) bs.length bs.length (bs.map u8C):=by
 refine ⟨by simp,Nat.le_refl _,by unfold maxLen;omega,fun h=>(by cases h),fun _=>⟨_,_,rfl,(by rw [zap];omega),fun j u hj=>?_⟩⟩
 rw [cell_of_row _ _ _ _ _ _ (zac _ rfl)]
 simpa using hj
theorem zfL.split {w w':World} {s:Sec} {n e:Int} {en:Ending} (h:zfL w (s,n,e) en w'):∃ga gc sa sc,en=.returned (.tuple #[.agg #[.slice ga s.gs.length gc,.int .i64 s.tr.kind,.int .i64 s.tr.n,.string (mkB s.tr.s),.slice sa s.tr.l.length sc],.int .i64 n,.int .i64 e]) ∧
   zbY w' anyF s (.slice ga s.gs.length gc) (.slice sa s.tr.l.length sc)∧Below w.heap.size w w':=by
 obtain ⟨gv,sl,rfl,hs,hb⟩:=h
 obtain ⟨ga,gc,rfl,-,-,-⟩:=hs.1.len
 obtain ⟨sa,sc,rfl,-,-,-⟩:=hs.2.len
 exact ⟨ga,gc,sa,sc,rfl,hs.keep (zaL.refl _ _) (fun _ _=>trivial),hb⟩
def PlEndX (w:World) (e:Ending) (w':World):Prop:=e=.returned (.bool true)∧Below w.heap.size w w'
structure SrcI (w:World) (p:Nat) (bs:List UInt8) (kn:List Bool):Prop where
 len:kn.length=bs.length
 total:∀W,Below w.heap.size w W→Calls Tryz.prog 54 #[.pointer (some ⟨p,0,none⟩)] W fun e w'=>e=.returned (.int .i64 (bs.length:Nat))∧W=w'
 first:∀W,Below w.heap.size w W→∀a:Nat,a≤bs.length→Calls Tryz.prog 38 #[.pointer (some ⟨p,0,none⟩),.int .i64 a] W fun e w'=>e=.returned (.int .i64 (zaR kn a:Nat))∧Below W.heap.size W w'
 read:∀W,Below w.heap.size w W→∀(a:Nat) (most:Int),a≤bs.length→(bs.length:Int)-a≤most→most≤9223372036854775807 →
   Calls Tryz.prog 55 #[.pointer (some ⟨p,0,none⟩),.int .i64 a,.int .i64 most] W (FromEnd W bs kn a)
theorem SrcI.mono {w w':World} {p:Nat} {bs:List UInt8} {kn:List Bool} (h:SrcI w p bs kn) (hb:Below w.heap.size w w'):SrcI w' p bs kn :=
 ⟨h.len,fun W hW=>h.total W (hb.trans (hW.mono hb.size)),fun W hW=>h.first W (hb.trans (hW.mono hb.size)),fun W hW=>h.read W (hb.trans (hW.mono hb.size))⟩
def sctV (bs:List UInt8) (kn:List Bool) (a:Nat):Sec×Int×Int :=
 if (zc3 bs kn a).2.2=0 then ((zc3 bs kn a).1,0,0) else if (zc3 bs kn a).2.2=6 then (Sec.none,(zaR kn a:Nat),6) else (Sec.none,0,20)
theorem section_any {w:World} {p:Nat} {bs:List UInt8} {kn:List Bool} (h:SrcI w p bs kn) (hl:bs.length≤390000) {a:Nat} (ha:a<bs.length) :
   Calls Tryz.prog 62 #[.pointer (some ⟨p,0,none⟩),.int .i64 a] w (zfL w (sctV bs kn a)):=by
 have HT:=Lib.hid h.total
 have HF:=Lib.hid (fun W hb=>h.first W hb a (Nat.le_of_lt ha))
 have HR:=Lib.hid (fun W hb=>h.read W hb a (bs.length:Nat) (Nat.le_of_lt ha) (by omega) (by omega))
 have HSC:=Lib.hid (show zc3 bs kn a=secV ((bs.drop a).take (zaR kn a-a)) (zaR kn a==bs.length) 0 from rfl)
 have HBL:=Lib.hid (show ((bs.drop a).take (zaR kn a-a)).length≤390000 by rw [List.length_take,List.length_drop];omega)
 obtain ⟨V,hV⟩:∃V,V=sctV bs kn a:=⟨_,rfl⟩
 rw [←hV]
 unfold sctV at hV
 rw [HSC.out] at hV
 have HV:=Lib.hid hV
 unfold FromEnd at HR
 generalize zaR kn a=n at *
 generalize (bs.drop a).take (n-a)=cs at *
 generalize (n==bs.length)=lst at *
 clear h hV HSC
 obtain ⟨r,hr⟩:∃r,r=w.heap.size:=⟨_,rfl⟩
 have HZ1:=Lib.hid (zac (w:=w) (b:=r) (.cells #[.slice none 0 0,.int .i64 0,.int .i64 0,.string ⟨#[]⟩,.slice none 0 0] 29) hr)
 have HB1:=Lib.hid (zak w (.cells #[.slice none 0 0,.int .i64 0,.int .i64 0,.string ⟨#[]⟩,.slice none 0 0] 29))
 have HRW:=Lib.hid (Nat.le_of_eq hr.symm)
 go_enter Tryz.func62,Tryz.ntmps62
 go_upto_region 1 with fail
 try rw [←hr]
 clear hr
 generalize w.alloc _=W1 at *
 have HT1:=Lib.hid (HT.out _ HB1.out)
 have HR1:=Lib.hid (HR.out _ HB1.out)
 clear HT HR
 go_wp2_with fail
 refine HT1.out.mono ?_
 rintro e w2 ⟨rfl,rfl⟩
 go_wp2_with fail
 refine HR1.out.mono ?_
 rintro e w2 ⟨ba,bc,rfl,hrow,hb2⟩
 have HZ2:=Lib.hid (zab hb2 HZ1.out)
 have HB2:=Lib.hid (HB1.out.trans (hb2.mono HB1.out.size))
 have HP:=Lib.hid (xparse_any hrow HBL.out 0 lst)
 clear hb2 hrow HZ1 HB1 HT1 HR1
 go_wp2_with fail
 generalize secV cs lst 0=S at *
 obtain ⟨s,o,er⟩:=S
 refine HP.out.mono ?_
 rintro e w3 ⟨gv,sl,rfl,hs,hb3⟩
 obtain ⟨ga,gc,rfl,-,-,-⟩:=hs.1.len
 obtain ⟨sa,sc,rfl,-,-,-⟩:=hs.2.len
 simp only [secA] at hs ⊢
 simp only at HV
 have hb3a:=hb3.alloc hb3.size (.cells #[.slice ga s.gs.length gc,.int .i64 s.tr.kind,.int .i64 s.tr.n,.string (mkB s.tr.s),.slice sa s.tr.l.length sc] 29)
 have HT3:=Lib.hid (zac (w:=w3) (b:=w3.heap.size) (.cells #[.slice ga s.gs.length gc,.int .i64 s.tr.kind,.int .i64 s.tr.n,.string (mkB s.tr.s),.slice sa s.tr.l.length sc] 29) rfl)
 have HS3:=Lib.hid (hs.below (zak w3 (.cells #[.slice ga s.gs.length gc,.int .i64 s.tr.kind,.int .i64 s.tr.n,.string (mkB s.tr.s),.slice sa s.tr.l.length sc] 29)))
 have HZ3:=Lib.hid (zab hb3a HZ2.out)
 have HB3:=Lib.hid (HB2.out.trans (hb3a.mono HB2.out.size))
 have HRL:=Lib.hid (zai HZ2.out)
 have HWL:=Lib.hid HB2.out.size
 clear hb3 hb3a hs HZ2 HB2 HP
 go_upto_region 3 with fail
 generalize w3.heap.size=T at *
 generalize World.alloc _ _=W3 at *
 obtain ⟨⟨t0,t1,t2,t3,t4⟩,-⟩:=zcX HT3.out
 obtain ⟨⟨z0,z1,z2,z3,z4⟩,y0,y1,y2,y3,y4⟩:=zcX HZ3.out
 by_cases he:er=0
 · subst he
   have HV2:=Lib.hid (HV.out.trans (if_pos rfl))
   have HS2:=Lib.hid (fun y0 y1 y2 y3 y4=>sec_set5 HS3.out HRL.out y0 y1 y2 y3 y4)
   have HPA:=Lib.hid (show secA s (.slice ga s.gs.length gc) (.slice sa s.tr.l.length sc)=.agg #[.slice ga s.gs.length gc,.int .i64 s.tr.kind,.int .i64 s.tr.n,.string (mkB s.tr.s),.slice sa s.tr.l.length sc] from rfl)
   clear HV HF
   generalize s.tr.kind=xk at *
   generalize s.tr.n=xn at *
   generalize mkB s.tr.s=xb at *
   go_wp2
   refine bodyPost_ret (zau rfl _ _ r 29 _ (0,0) _ rfl (by exact set5 HZ3.out _ _ _ _ _) Tryz.underlying29 rfl (by exact zcJ) _ _ rfl rfl) rfl ?_
   rw [HV2.out]
   refine ⟨.slice ga s.gs.length gc,.slice sa s.tr.l.length sc,by rw [HPA.out];rfl,?_,zcn HB3.out HRW.out _ _ _ _ _⟩
   exact (HS2.out _ _ _ _ _).keep (zaL.refl _ _) (fun b hb=>Nat.le_trans HWL.out hb)
 have HV2:=Lib.hid (HV.out.trans (if_neg he))
 have e0:(er==0)=false:=by rw [beq_eq_false_iff_ne];exact he
 clear HV he HS3
 by_cases h6:er=6
 · subst h6
   have HV3:=Lib.hid (HV2.out.trans (if_pos rfl))
   have HF2:=Lib.hid (HF.out _ HB3.out)
   clear HV2 HF
   go_wp2_with fail
   refine HF2.out.mono ?_
   rintro e w4 ⟨rfl,hb4⟩
   have HZ4:=Lib.hid (zab hb4 HZ3.out)
   have HB4:=Lib.hid (HB3.out.trans (hb4.mono HB3.out.size))
   clear hb4 HZ3 HB3 HT3 t0 t1 t2 t3 t4 z0 z1 z2 z3 z4 y0 y1 y2 y3 y4
   obtain ⟨⟨z0,z1,z2,z3,z4⟩,y0,y1,y2,y3,y4⟩:=zcX HZ4.out
   go_wp2
   refine bodyPost_ret (zau rfl _ _ r 29 _ (0,0) _ rfl (by exact set5 HZ4.out _ _ _ _ _) Tryz.underlying29 rfl (by exact zcJ) _ _ rfl rfl) rfl ?_
   rw [HV3.out]
   exact ⟨_,_,rfl,zdI _ _,zcn HB4.out HRW.out _ _ _ _ _⟩
 · have e6:(er==6)=false:=by rw [beq_eq_false_iff_ne];exact h6
   have HV3:=Lib.hid (HV2.out.trans (if_neg h6))
   clear HV2 HF h6
   go_wp2
   refine bodyPost_ret (zau rfl _ _ r 29 _ (0,0) _ rfl (by exact set5 HZ3.out _ _ _ _ _) Tryz.underlying29 rfl (by exact zcJ) _ _ rfl rfl) rfl ?_
   rw [HV3.out]
   exact ⟨_,_,rfl,zdI _ _,zcn HB3.out HRW.out _ _ _ _ _⟩
def IsSs (w:World) (F:Nat→Prop):List Sec→List Value→Prop
 | [],cs=>cs=[]
 | s::l,cs=>∃gv sl t,cs=secC s gv sl++t∧zbY w F s gv sl∧IsSs w F l t
theorem IsSs.keep {w w':World} {F G:Nat→Prop} (hk:zaL F w w') (hG:∀b,F b→G b):∀ {l:List Sec} {cs:List Value},IsSs w F l cs→IsSs w' G l cs
 | [],_,h=>h
 | _::_,_,⟨gv,sl,t,e,h1,h2⟩=>⟨gv,sl,t,e,h1.keep hk hG,IsSs.keep hk hG h2⟩
theorem IsSs.length {w:World} {F:Nat→Prop}:∀ {l:List Sec} {cs:List Value},IsSs w F l cs→cs.length=l.length * 5
 | [],_,h=>by cases h;rfl
 | _::_,_,⟨gv,sl,t,e,_,h2⟩=>by subst e;have:=IsSs.length h2;simp [secC,pvC];omega
theorem IsSs.append {w:World} {F:Nat→Prop}:∀ {l m:List Sec} {cs ds:List Value},IsSs w F l cs→IsSs w F m ds→IsSs w F (l++m) (cs++ds)
 | [],_,_,_,h,hm=>by cases h;exact hm
 | _::_,_,_,_,⟨gv,sl,t,e,h1,h2⟩,hm=>⟨gv,sl,t++_,by subst e;simp,h1,IsSs.append h2 hm⟩
theorem IsSs.snoc {w:World} {F:Nat→Prop} {l:List Sec} {cs:List Value} (h:IsSs w F l cs) {s:Sec} {gv sl:Value} (hv:zbY w F s gv sl):IsSs w F (l++[s]) (cs++secC s gv sl):=h.append ⟨gv,sl,[],by simp,hv,rfl⟩
theorem IsSs.get {w:World} {F:Nat→Prop}:∀ {l:List Sec} {cs:List Value},IsSs w F l cs→∀(k:Nat) (s:Sec),l[k]?=some s→∃gv sl,zbY w F s gv sl∧cs[k * 5]?=some gv∧cs[k * 5+1]?=some (.int .i64 s.tr.kind)∧cs[k * 5+2]?=some (.int .i64 s.tr.n)∧cs[k * 5+3]?=some (.string (mkB s.tr.s))∧cs[k * 5+4]?=some sl
 | [],_,_,_,_,hk=>by simp at hk
 | x::l,_,⟨gv,sl,t,e,h1,h2⟩,0,g,hk=>by
   simp at hk;subst hk e
   exact ⟨gv,sl,h1,rfl,rfl,rfl,rfl,rfl⟩
 | x::l,_,⟨gv,sl,t,e,h1,h2⟩,k+1,g,hk=>by
   subst e
   obtain ⟨gv2,sl2,h3,e0,e1,e2,e3,e4⟩:=h2.get k g (by simpa using hk)
   have q:∀j,(secC x gv sl++t)[(k+1) * 5+j]?=t[k * 5+j]?:=fun j=>by
     rw [show (k+1) * 5+j=k * 5+j+1+1+1+1+1 by omega];simp [secC,pvC]
   have q0:=q 0
   rw [Nat.add_zero,Nat.add_zero] at q0
   exact ⟨gv2,sl2,h3,q0.trans e0,(q 1).trans e1,(q 2).trans e2,(q 3).trans e3,(q 4).trans e4⟩
theorem IsE.ltw {W:World} {es:List Ent} {sv:Value} {F:Nat→Prop} (h:IsE W F es sv):IsE W (fun b=>F b∧b<W.heap.size) es sv:=by
 obtain ⟨a,cap,e,hr,hF⟩:=h
 exact ⟨a,cap,e,hr,fun h0 x hx=>⟨hF h0 x hx,hr.lt h0 x hx⟩⟩
theorem IsGs.ltw {W:World} {F:Nat→Prop}:∀ {gs:List Grp} {cs:List Value},IsGs W F gs cs→IsGs W (fun b=>F b∧b<W.heap.size) gs cs
 | [],_,h=>h
 | _::_,_,⟨v,t,e,h1,h2⟩=>⟨v,t,e,h1.ltw,h2.ltw⟩
theorem IsG.ltw {W:World} {F:Nat→Prop} {gs:List Grp} {v:Value} (h:IsG W F gs v):IsG W (fun b=>F b∧b<W.heap.size) gs v:=by
 obtain ⟨a,cap,cs,e,hr,hF,hs⟩:=h
 exact ⟨a,cap,cs,e,hr,fun h0 x hx=>⟨hF h0 x hx,hr.lt h0 x hx⟩,hs.ltw⟩
theorem zbY.ltw {W:World} {F:Nat→Prop} {s:Sec} {gv sl:Value} (h:zbY W F s gv sl):zbY W (fun b=>F b∧b<W.heap.size) s gv sl:=⟨h.1.ltw,IsV.lt _ h.2⟩
theorem IsSs.ltw {W:World} {F:Nat→Prop}:∀ {l:List Sec} {cs:List Value},IsSs W F l cs→IsSs W (fun b=>F b∧b<W.heap.size) l cs
 | [],_,h=>h
 | _::_,_,⟨gv,sl,t,e,h1,h2⟩=>⟨gv,sl,t,e,h1.ltw,h2.ltw⟩
structure SsM (t:TypeId) (w W:World) (X:Nat→Prop) (l:List Sec) (cs:List Value) (v:Value):Prop where
 own:W.ownsRow w.heap.size t 5 v l.length cs
 hold:IsSs W (fun b=>w.heap.size≤b∧v.ownBlock≠some b∧¬X b) l cs
theorem SsM.nil (t:TypeId) (w W:World) (X:Nat→Prop):SsM t w W X [] [] (.slice none 0 0):=⟨World.ownsRow_nil _ _ _ _,rfl⟩
theorem SsM.on {t:TypeId} {w W W':World} {X Y:Nat→Prop} {l:List Sec} {cs:List Value} {v:Value} (h:SsM t w W X l cs v) (hk:zaf Y W W') (hY:∀b,Y b→w.heap.size≤b→X b) (hv:∀b,v.ownBlock=some b→¬Y b):SsM t w W' X l cs v :=
 ⟨zaO h.own fun b hb=>hk.block b (h.own.lt b hb).2 (hv b hb),h.hold.keep ⟨hk.size,fun b hb hF=>hk.block b hb (fun e=>hF.2.2 (hY b e hF.1))⟩ (fun _ h=>h)⟩
theorem SsM.below {t:TypeId} {w W W':World} {X:Nat→Prop} {l:List Sec} {cs:List Value} {v:Value} (h:SsM t w W X l cs v) (hb:Below W.heap.size W W'):SsM t w W' X l cs v :=
 h.on (zaw (S:=fun _=>False) hb) (fun _ h _=>h.elim) (fun _ _ h=>h)
theorem SsM.app {t:TypeId} {w W W8:World} {X:Nat→Prop} {o:Obj} {l:List Sec} {cs:List Value} {v v':Value} (h:SsM t w W X l cs v) (hg8:(W.alloc o).grownBy W8 v.ownBlock) {s:Sec} {gv sl:Value} {B:Nat} (he:zbY W (fun b=>B≤b) s gv sl) (hB:w.heap.size≤B) (hv:∀b,v.ownBlock=some b→b<B) (hX:∀b,X b→b<B)
   (hO:W8.ownsRow w.heap.size t 5 v' (l.length+1) (cs++secC s gv sl)) (hn:∀b,v'.ownBlock=some b→v.ownBlock=some b∨(W.alloc o).heap.size≤b):SsM t w W8 X (l++[s]) (cs++secC s gv sl) v':=by
 have hst:zaL (fun b=>v.ownBlock≠some b∧b<W.heap.size) W W8:=⟨by have:=hg8.size;rw [zap] at this;omega,fun b hb hF=>by
   rw [hg8.block b (by rw [zap];omega) (fun e=>hF.1 e.symm)]
   exact (zci W o hb)⟩
 refine ⟨by rw [List.length_append];exact hO,?_⟩
 have hnew:∀b,b<W.heap.size→v.ownBlock≠some b→v'.ownBlock≠some b:=fun b hb hne e=>by
   rcases hn b e with h1|h1
   · exact hne h1
   · rw [zap] at h1;omega
 refine IsSs.snoc ?_ ?_
 · have h3:IsSs W8 (fun b=>(w.heap.size≤b∧v.ownBlock≠some b∧¬X b)∧b<W.heap.size) l cs:=h.hold.ltw.keep ⟨hst.1,fun b hb hF=>hst.2 b hb ⟨hF.1.2.1,hF.2⟩⟩ (fun _ h=>h)
   exact h3.keep (zaL.refl _ _) (fun b hb=>⟨hb.1.1,hnew b hb.2 hb.1.2.1,hb.1.2.2⟩)
 · have hne:∀b,B≤b→v.ownBlock≠some b:=fun b hb e=>by have:=hv b e;omega
   have h3:zbY W8 (fun b=>B≤b∧b<W.heap.size) s gv sl:=he.ltw.keep ⟨hst.1,fun b hb hF=>hst.2 b hb ⟨hne b hF.1,hF.2⟩⟩ (fun _ h=>h)
   exact h3.keep (zaL.refl _ _) (fun b hb=>⟨Nat.le_trans hB hb.1,hnew b hb.2 (hne b hb.1),fun hx=>by have:=hX b hx;omega⟩)
def IsL (w:World) (F:Nat→Prop) (l:List Sec) (v:Value):Prop:=∃a cap cs,v=.slice a l.length cap∧Row w 5 a l.length cap cs∧(0<l.length→∀x,a=some x→F x.block)∧IsSs w F l cs
theorem SsM.fin {t:TypeId} {w W:World} {X:Nat→Prop} {l:List Sec} {cs:List Value} {v:Value} (h:SsM t w W X l cs v):IsL W (fun b=>w.heap.size≤b) l v:=by
 obtain ⟨a,cap,e,-,-⟩:=zaD h.own
 subst e
 exact ⟨a,cap,cs,rfl,(Row.of_own h.own).2,fun h0 x hx=>(h.own.lt x.block (by rw [hx];rfl)).1,h.hold.keep (zaL.refl _ _) (fun b hb=>hb.1)⟩
theorem IsL.nil (w:World) (F:Nat→Prop):IsL w F [] (.slice none 0 0):=⟨none,0,[],rfl,Row.nil w 5,fun h=>(by cases h),rfl⟩
theorem IsL.keep {w w':World} {F G:Nat→Prop} (hk:zaL F w w') (hG:∀b,F b→G b) {l:List Sec} {v:Value} (h:IsL w F l v):IsL w' G l v:=by
 obtain ⟨a,cap,cs,e,hr,hF,hs⟩:=h
 exact ⟨a,cap,cs,e,hr.stays hk hF,fun h0 x hx=>hG _ (hF h0 x hx),hs.keep hk hG⟩
theorem IsL.below {w w':World} {F:Nat→Prop} {l:List Sec} {v:Value} (h:IsL w F l v) (hb:Below w.heap.size w w'):IsL w' F l v:=h.keep (zaL.of_below hb) (fun _ h=>h)
theorem IsL.len {w:World} {F:Nat→Prop} {l:List Sec} {v:Value} (h:IsL w F l v):∃a cap,v=.slice a l.length cap∧l.length≤cap∧cap≤maxLen∧(a=none→cap=0):=by
 obtain ⟨a,cap,cs,e,hr,_⟩:=h
 exact ⟨a,cap,e,hr.2.1,hr.2.2.1,hr.2.2.2.1⟩
theorem IsL.at {w:World} {F:Nat→Prop} {l:List Sec} {a:Option Addr} {n cap:Nat} (h:IsL w F l (.slice a n cap)) (hn:0<n) :
   n=l.length∧n≤cap∧cap≤maxLen∧∃b off,a=some ⟨b,off,none⟩∧b<w.heap.size∧F b∧∀k s,l[k]?=some s→∃gv sl,zbY w F s gv sl∧w.cell? ⟨b,off+k * 5,none⟩=some gv∧w.cell? ⟨b,off+k * 5+1,none⟩=some (.int .i64 s.tr.kind) ∧
     w.cell? ⟨b,off+k * 5+2,none⟩=some (.int .i64 s.tr.n)∧w.cell? ⟨b,off+k * 5+3,none⟩=some (.string (mkB s.tr.s))∧w.cell? ⟨b,off+k * 5+4,none⟩=some sl:=by
 obtain ⟨a',cap',cs,e,hr,hF,hs⟩:=h
 simp only [Value.slice.injEq] at e
 obtain ⟨rfl,rfl,rfl⟩:=e
 obtain ⟨b,off,rfl,hb,hc⟩:=hr.2.2.2.2 hn
 refine ⟨rfl,hr.2.1,hr.2.2.1,b,off,rfl,hb,hF hn _ rfl,fun k s hk=>?_⟩
 obtain ⟨gv,sl,h1,e0,e1,e2,e3,e4⟩:=hs.get k s hk
 exact ⟨gv,sl,h1,hc _ _ e0,(Nat.add_assoc off (k * 5) 1).symm▸hc _ _ e1,(Nat.add_assoc off (k * 5) 2).symm▸hc _ _ e2,(Nat.add_assoc off (k * 5) 3).symm▸hc _ _ e3,(Nat.add_assoc off (k * 5) 4).symm▸hc _ _ e4⟩
end Go.Proofs.YtfafdeemfeaedaaGreat
namespace Go.Proofs.YtfafdeemfeaedaaGreat
open Go.RowKit Go.Maps Go.ChangeMaps
theorem lawKI:Keyed Tryz.prog 3:=int_keyed Tryz.underlying3
def i64N (k:Int):Prop:=-9223372036854775808≤k∧k≤9223372036854775807
theorem i64N_wf {k:Int} (h:i64N k):(Lit.int .i64 k).wf=true:=by
 obtain ⟨h1,h2⟩:=h
 simp [Lit.wf,IntKind.min,IntKind.max,IntKind.signed,IntKind.bits];omega
theorem keyN {k:Int} (h:i64N k):keyOf Tryz.prog 3 (.int .i64 k)=some (.int .i64 k):=keyOf_int_mk Tryz.underlying3 (i64N_wf h)
theorem zeroN (w:World):(zeroValue 3).run Tryz.prog w=.ok (.int .i64 0) w:=by kernel_rfl
def MapN (w:World) (mb n:Nat) (rd:List Int):Prop :=
 ∃D:DataW Nat,w.ownsMap Tryz.prog 3 (plainElem Tryz.prog 3) mb n D∧IsMap D∧∀k:Int,Maps.has D (.int .i64 k)=decide (k∈rd)
theorem MapN.made (w:World):MapN (w.alloc (.map #[] 0)) w.heap.size 0 [] :=
 ⟨.map [],World.ownsMap_made w _ _ _,isMap_empty,fun k=>by simp [Maps.has]⟩
theorem MapN.keep {w w':World} {mb n:Nat} {rd:List Int} (h:MapN w mb n rd) (hb:w'.heap[mb]?=w.heap[mb]?):MapN w' mb n rd:=by
 obtain ⟨D,⟨es,clock,h1,h2⟩,r⟩:=h
 exact ⟨D,⟨es,clock,hb.trans h1,h2⟩,r⟩
theorem MapN.lt {w:World} {mb n:Nat} {rd:List Int} (h:MapN w mb n rd):mb<w.heap.size:=by obtain ⟨D,h,-⟩:=h;exact h.lt
theorem zcK {w:World} {ops:Array Oper} {rest:List Oper} {o:Oper} {a:Act} {Q:Exit→Act→World→Prop} (hg:o.guard=none) (m x:Operand) (hop:o.op=Op.lookup 133 m x true)
   {mb n:Nat} {rd:List Int} (h:MapN w mb n rd) (hm:a.eval m=.map (some mb)) {k:Int} (hx:a.eval x=.int .i64 k) (hk:i64N k)
   (hK:∀c:Int,wpList Tryz.prog ops Q rest (a.put o.dst (.tuple #[.int .i64 c,.bool (decide (k∈rd))])) w):wpList Tryz.prog ops Q (o::rest) a w:=by
 obtain ⟨D,ho,hm2,hD⟩:=h
 refine wpList_lookup_own_ok_int w hg m x _ hop 3 3 .i64 lawKI Tryz.underlying133 Tryz.underlying3 (zeroN w) mb n D hm ho _ _ hx (keyN hk) fun c _ _=>?_
 rw [hD k]
 exact hK c
theorem zgf {w:World} {ops:Array Oper} {rest:List Oper} {o:Oper} {a:Act} {Q:Exit→Act→World→Prop} (hg:o.guard=none) (m x v:Operand) (hop:o.op=Op.mapUpdate 133 m x v)
   {mb n:Nat} {rd:List Int} (h:MapN w mb n rd) (hm:a.eval m=.map (some mb)) {k:Int} (hx:a.eval x=.int .i64 k) (hk:i64N k) {q:Int} (hv:a.eval v=.int .i64 q) (hq:i64N q) (hn:n<maxLen)
   (hK:∀w',MapN w' mb (n+1) (rd++[k])→w.grownBy w' (some mb)→wpList Tryz.prog ops Q rest (a.put o.dst undef) w'):wpList Tryz.prog ops Q (o::rest) a w:=by
 obtain ⟨D,ho,hm2,hD⟩:=h
 refine wpList_mapUpdate_own w hg m x v _ hop 3 3 lawKI Tryz.underlying133 (plainElem Tryz.prog 3) mb n D hm ho hn _ _ _ hx hv (keyN hk) _ [] (plainElem_int Tryz.underlying3 (i64N_wf hq)) fun w' ho' hg'=>?_
 refine hK w' ⟨_,ho',hm2.put _ _,fun j=>?_⟩ hg'
 by_cases hj:j=k
 · subst hj
   rw [has_put_same hm2 (by simp [WideAt.IsKeyLit])]
   simp
 · have hne:(Lit.int .i64 j)≠.int .i64 k:=fun e=>hj (by cases e;rfl)
   rw [has_put_other hne,hD j]
   simp [hj]
end Go.Proofs.YtfafdeemfeaedaaGreat
namespace Go.Proofs.YtfafdeemfeaedaaGreat
open Go.RowKit
theorem fN_step {key:List UInt8} {l:List PV} {k:Nat} {x:PV} (hx:l[k]?=some x):fN key (l.drop k)=if x.kind=5∧x.s=key then some 0 else (fN key (l.drop (k+2))).map (· + 2):=by
 have hk:k<l.length:=by
   rcases Nat.lt_or_ge k l.length with h|h
   · exact h
   · rw [List.getElem?_eq_none h] at hx;cases hx
 rw [List.getElem?_eq_getElem hk] at hx
 have hx:=Option.some.inj hx
 subst hx
 rw [List.drop_eq_getElem_cons hk]
 by_cases h2:k+1<l.length
 · rw [List.drop_eq_getElem_cons h2]
   rfl
 · rw [List.drop_eq_nil_of_le (show l.length≤k+1 by omega),List.drop_eq_nil_of_le (show l.length≤k+2 by omega)]
   unfold fN
   by_cases h:l[k].kind=5∧l[k].s=key
   · rw [if_pos h,if_pos h]
   · rw [if_neg h,if_neg h];rfl
theorem fN_end {key:List UInt8} {l:List PV} {k:Nat} (h:l.length≤k):fN key (l.drop k)=none:=by
 rw [List.drop_eq_nil_of_le h];rfl
theorem fN_lt {key:List UInt8}:∀ {l:List PV} {k:Nat},fN key l=some k→k<l.length
 | [],_,h=>by cases h
 | [x],k,h=>by
   unfold fN at h
   split at h
   · cases h;simp
   · cases h
 | x::y::l,k,h=>by
   unfold fN at h
   split at h
   · cases h;simp
   · obtain ⟨j,hj,rfl⟩:=Option.map_eq_some_iff.1 h
     have:=fN_lt hj
     simp;omega
def zcY (o:Option Nat):Int:=match o with|none=>-1|some k=>k
def FindEnd (w:World) (o:Option Nat) (e:Ending) (w':World):Prop:=e=.returned (.int .i64 (zcY o))∧Below w.heap.size w w'
theorem findN_no {v:PV} {key:List UInt8} (h:¬v.kind=7):zgk v key=none:=by unfold zgk;rw [if_neg h]
theorem findN_yes {v:PV} {key:List UInt8} (h:v.kind=7):zgk v key=fN key v.l:=by unfold zgk;rw [if_pos h]
theorem vfind_any {w:World} {F:Nat→Prop} {v:PV} {sl:Value} (h:IsV w F v sl) (hev:v.kind=7→v.l.length % 2=0) (key:List UInt8):Calls Tryz.prog 100 #[pvA v sl,.string (mkB key)] w (FindEnd w (zgk v key)):=by
 obtain ⟨a,cap,rfl,g1,g2,g3⟩:=h.len
 have hl63:(v.l.length:Int)≤9223372036854775807:=by unfold maxLen at g2;omega
 have HV:=Lib.hid h
 have HNO:=Lib.hid (fun h=>findN_no (v:=v) (key:=key) h)
 have HYE:=Lib.hid (fun h=>findN_yes (v:=v) (key:=key) h)
 obtain ⟨R,hR⟩:∃R,R=zgk v key:=⟨_,rfl⟩
 rw [←hR] at HNO HYE ⊢
 clear hR h g2 g3
 unfold pvA
 obtain ⟨l,hl⟩:∃l,l=v.l:=⟨_,rfl⟩
 rw [←hl] at HV HYE hl63 g1 hev ⊢
 have HL:=Lib.hid hl
 clear hl
 obtain ⟨B,hB⟩:∃B,B=w.heap.size:=⟨_,rfl⟩
 have HB1:=Lib.hid (zak w (.cells #[.int .i64 v.kind,.int .i64 v.n,.string (mkB v.s),.slice a l.length cap] 27))
 have HZ1:=Lib.hid (zac (w:=w) (b:=B) (.cells #[.int .i64 v.kind,.int .i64 v.n,.string (mkB v.s),.slice a l.length cap] 27) hB)
 have HV1:=Lib.hid (HV.out.below HB1.out)
 generalize v.kind=vk at *
 generalize v.n=vn at *
 generalize mkB v.s=vb at *
 go_enter Tryz.func100,Tryz.ntmps100
 go_upto_region 1 with fail
 rw [←hB]
 clear hB HV
 generalize w.alloc _=W1 at *
 obtain ⟨⟨z0,z1,z2,z3⟩,-⟩:=zam HZ1.out
 by_cases h7:vk=7
 case neg =>
   have HR:=Lib.hid (HNO.out h7)
   have e0:(vk==7)=false:=by rw [beq_eq_false_iff_ne];exact h7
   have e1:(vk != 7)=true:=by simp only [bne,e0,Bool.not_false]
   clear h7 HYE HNO hev
   go_wp2
   go_ret
   exact ⟨by rw [HR.out];rfl,HB1.out⟩
 have HR:=Lib.hid (HYE.out h7)
 have hl2:=hev h7
 clear hev
 subst h7
 clear HNO HYE
 go_wp2_with fail
 go_loop [5] (fun v5=>∃k:Nat,v5=.int .i64 k∧k≤l.length∧k % 2=0∧Hid (R=(fN key (l.drop k)).map (· + k))) (fun v5=>l.length+2-(intOf v5).toNat)
 case atStart=>exact ⟨0,rfl,by omega,rfl,Lib.hid (by rw [HR.out,List.drop_zero];cases fN key l<;>rfl)⟩
 case round =>
   obtain ⟨k,rfl,hk,hk2,HQ⟩:=hrel
   by_cases hlt:k<l.length
   · have hcd:decide ((k:Int)<(l.length:Int))=true:=decide_eq_true (by omega)
     have hcd2:decide (k<l.length)=true:=decide_eq_true hlt
     have hkb:(k:Int)+2≤9223372036854775807:=by omega
     have hkc:k+2≤l.length:=by omega
     have hv1:=HV1.out
     obtain ⟨-,-,-,b,off,rfl,-,-,hc⟩:=hv1.at (by omega)
     obtain ⟨x,hx⟩:∃x,l[k]?=some x:=⟨_,List.getElem?_eq_getElem hlt⟩
     obtain ⟨slx,-,c0,-,c2,-⟩:=hc k x (by rw [←HL.out];exact hx)
     have HST:=Lib.hid (fN_step (key:=key) hx)
     have hq:((mkB x.s).toList==(mkB key).toList)=decide (x.s=key):=by rw [zbn key];exact zdB x.s key
     clear hv1 hc hx
     by_cases h5:x.kind=5
     case neg =>
       have e0:(x.kind==5)=false:=by rw [beq_eq_false_iff_ne];exact h5
       have HQ2:=Lib.hid (show R=(fN key (l.drop (k+2))).map (· + (k+2)) by rw [HQ.out,HST.out,if_neg (fun h=>h5 h.1),Option.map_map];congr 1;funext q;show q+2+k=q+(k+2);omega)
       clear h5 HST HQ hq
       generalize x.kind=xk at *
       go_wp2_with fail
       go_round
       case rel=>exact ⟨k+2,by go_num,hkc,by omega,HQ2⟩
       case measure=>simp [intOf];omega
     have e0:(x.kind==5)=true:=by rw [beq_iff_eq];exact h5
     by_cases hs:x.s=key
     · have HQ2:=Lib.hid (show R=some k by rw [HQ.out,HST.out,if_pos ⟨h5,hs⟩];show some (0+k)=_;rw [Nat.zero_add])
       rw [decide_eq_true hs] at hq
       clear h5 HST HQ hs
       generalize x.kind=xk at *
       generalize mkB x.s=xb at *
       go_wp2_with fail
       go_ret
       exact ⟨by rw [HQ2.out];rfl,HB1.out⟩
     · have HQ2:=Lib.hid (show R=(fN key (l.drop (k+2))).map (· + (k+2)) by rw [HQ.out,HST.out,if_neg (fun h=>hs h.2),Option.map_map];congr 1;funext q;show q+2+k=q+(k+2);omega)
       rw [decide_eq_false hs] at hq
       clear h5 HST HQ hs
       generalize x.kind=xk at *
       generalize mkB x.s=xb at *
       go_wp2_with fail
       go_round
       case rel=>exact ⟨k+2,by go_num,hkc,by omega,HQ2⟩
       case measure=>simp [intOf];omega
   · have hcd:decide ((k:Int)<(l.length:Int))=false:=decide_eq_false (by omega)
     have hcd2:decide (k<l.length)=false:=decide_eq_false hlt
     have HQ2:=Lib.hid (show R=none by rw [HQ.out,fN_end (by omega)];rfl)
     clear HQ
     go_wp2_with fail
     go_ret
     exact ⟨by rw [HQ2.out];rfl,HB1.out⟩
def GetEnd (w:World) (F:Nat→Prop) (V:PV×Bool) (e:Ending) (w':World):Prop:=∃sl,e=.returned (.tuple #[pvA V.1 sl,.bool V.2])∧IsV w' F V.1 sl∧Below w.heap.size w w'
theorem vget_any {w:World} {F:Nat→Prop} {v:PV} {sl:Value} (h:IsV w F v sl) (hev:v.kind=7→v.l.length % 2=0) (key:List UInt8):Calls Tryz.prog 63 #[pvA v sl,.string (mkB key)] w (GetEnd w F (getP (getV v key))):=by
 obtain ⟨a,cap,rfl,g1,g2,g3⟩:=h.len
 have hl63:(v.l.length:Int)≤9223372036854775807:=by unfold maxLen at g2;omega
 have HV:=Lib.hid (IsV.lt _ h)
 have HF:=Lib.hid (fun (W:World) (hb:Below w.heap.size w W)=>vfind_any (h.below hb) hev key)
 obtain ⟨R,hR⟩:∃R,R=zgk v key:=⟨_,rfl⟩
 have HLT:=Lib.hid (show ∀k,R=some k→k<v.l.length from fun k hk=>by
   rw [hR] at hk
   unfold zgk at hk
   split at hk
   · exact fN_lt hk
   · cases hk)
 obtain ⟨V,hV⟩:∃V,V=getP (getV v key):=⟨_,rfl⟩
 have HVN:=Lib.hid (show R=none→V=(PV.none,false) from fun h=>by rw [hV];unfold getV;rw [←hR,h];rfl)
 have HVS:=Lib.hid (show ∀k,R=some k→V=(v.l.getD (k+1) PV.none,true) from fun k h=>by rw [hV];unfold getV;rw [←hR,h];rfl)
 rw [←hR] at HF
 rw [←hV]
 clear hR hV h g2 g3
 unfold FindEnd pvA at HF
 unfold pvA
 obtain ⟨l,hl⟩:∃l,l=v.l:=⟨_,rfl⟩
 clear hev
 rw [←hl] at HV HF HLT HVS hl63 g1 ⊢
 have HL:=Lib.hid hl
 clear hl
 obtain ⟨B,hB⟩:∃B,B=w.heap.size:=⟨_,rfl⟩
 have HB1:=Lib.hid (zbD w (.cells #[.int .i64 v.kind,.int .i64 v.n,.string (mkB v.s),.slice a l.length cap] 27) (.cells #[.int .i64 0,.int .i64 0,.string ⟨#[]⟩,.slice none 0 0] 27))
 have HZ1:=Lib.hid (zal (w:=w.alloc (.cells #[.int .i64 v.kind,.int .i64 v.n,.string (mkB v.s),.slice a l.length cap] 27)) (.cells #[.int .i64 0,.int .i64 0,.string ⟨#[]⟩,.slice none 0 0] 27) (zac (w:=w) (b:=B) (.cells #[.int .i64 v.kind,.int .i64 v.n,.string (mkB v.s),.slice a l.length cap] 27) hB))
 have HY1:=Lib.hid (zac (w:=w.alloc (.cells #[.int .i64 v.kind,.int .i64 v.n,.string (mkB v.s),.slice a l.length cap] 27)) (b:=B+1) (.cells #[.int .i64 0,.int .i64 0,.string ⟨#[]⟩,.slice none 0 0] 27) (by rw [zap,hB]))
 have HW:=Lib.hid (show w.heap.size≤B+1 by omega)
 generalize v.kind=vk at *
 generalize v.n=vn at *
 generalize mkB v.s=vb at *
 go_enter Tryz.func63,Tryz.ntmps63
 go_upto_region 1 with fail
 try rw [←hB]
 generalize World.alloc _ _=W1 at *
 clear hB
 generalize B+1=r at *
 obtain ⟨⟨z0,z1,z2,z3⟩,-⟩:=zam HZ1.out
 go_wp2_with fail
 refine (HF.out _ HB1.out).mono ?_
 rintro e w2 ⟨rfl,hb2⟩
 have HZ2:=Lib.hid (zab hb2 HZ1.out)
 have HY2:=Lib.hid (zab hb2 HY1.out)
 have HB2:=Lib.hid (HB1.out.trans (hb2.mono HB1.out.size))
 have HV2:=Lib.hid (HV.out.below HB2.out)
 clear hb2 HZ1 HY1 HB1 HV HF z0 z1 z2 z3
 obtain ⟨⟨z0,z1,z2,z3⟩,-⟩:=zam HZ2.out
 obtain ⟨⟨y0,y1,y2,y3⟩,f0,f1,f2,f3⟩:=zam HY2.out
 cases R with
 | none =>
   have HE:=Lib.hid (HVN.out rfl)
   clear HVN HVS HLT
   unfold zcY
   go_wp2
   refine bodyPost_ret (zaa rfl _ _ r 27 _ (0,0) _ rfl (by exact set4 HY2.out _ _ _ _) Tryz.underlying27 rfl (by exact zaS) _ rfl) rfl ?_
   rw [HE.out]
   exact ⟨_,rfl,IsV.leaf _ _ _ rfl,zad HB2.out HW.out _ _ _ _⟩
 | some k =>
   have hkl:=HLT.out k rfl
   have HE:=Lib.hid (HVS.out k rfl)
   have hd0:decide ((k:Int)<0)=false:=decide_eq_false (by omega)
   clear HVN HVS HLT
   unfold zcY
   simp only
   by_cases hle:k+1=l.length
   · have hq:((k:Int)+1==(l.length:Int))=true:=by rw [beq_iff_eq];omega
     have hq2:((k:Int)==(l.length:Int)-1)=true:=by rw [beq_iff_eq];omega
     have hg:l.getD (k+1) PV.none=PV.none:=by rw [List.getD_eq_getElem?_getD,List.getElem?_eq_none (by omega)];rfl
     have HE2:=Lib.hid (HE.out.trans (by rw [hg]))
     clear hg HE hle
     go_wp2
     refine bodyPost_ret (zaa rfl _ _ r 27 _ (0,0) _ rfl (by exact set4 HY2.out _ _ _ _) Tryz.underlying27 rfl (by exact zaS) _ rfl) rfl ?_
     rw [HE2.out]
     exact ⟨_,rfl,IsV.leaf _ _ _ rfl,zad HB2.out HW.out _ _ _ _⟩
   · have hq:((k:Int)+1==(l.length:Int))=false:=by rw [beq_eq_false_iff_ne];omega
     have hq2:((k:Int)==(l.length:Int)-1)=false:=by rw [beq_eq_false_iff_ne];omega
     have hk1:k+1<l.length:=by omega
     have hv2:=HV2.out
     obtain ⟨-,-,-,b,off,rfl,-,-,hc⟩:=hv2.at (by omega)
     obtain ⟨x,hx⟩:∃x,l[k+1]?=some x:=⟨_,List.getElem?_eq_getElem hk1⟩
     obtain ⟨slx,hsx,c0,c1,c2,c3⟩:=hc (k+1) x (by rw [←HL.out];exact hx)
     have hg:l.getD (k+1) PV.none=x:=by rw [List.getD_eq_getElem?_getD,hx];rfl
     have HE2:=Lib.hid (HE.out.trans (by rw [hg]))
     obtain ⟨xa,xc,rfl,-,-,-⟩:=hsx.len
     have HSX:=Lib.hid hsx
     have HPA:=Lib.hid (show pvA x (.slice xa x.l.length xc)=.agg #[.int .i64 x.kind,.int .i64 x.n,.string (mkB x.s),.slice xa x.l.length xc] from rfl)
     have HRW:=Lib.hid (zai HY2.out)
     obtain ⟨j,hj⟩:∃j,j=k+1:=⟨_,rfl⟩
     have hji:(k:Int)+1=(j:Int):=by omega
     rw [←hj] at c0 c1 c2 c3 hk1
     have HJ:=Lib.hid hj
     clear hj hv2 hc hx hg HE hle hsx
     generalize x.kind=xk at *
     generalize x.n=xn at *
     generalize mkB x.s=xb at *
     go_wp2
     refine bodyPost_ret (zaa rfl _ _ r 27 _ (0,0) _ rfl (by exact set4 HY2.out _ _ _ _) Tryz.underlying27 rfl (by exact zaS) _ rfl) rfl ?_
     rw [HE2.out]
     refine ⟨.slice xa x.l.length xc,by rw [HPA.out];rfl,?_,zad HB2.out HW.out _ _ _ _⟩
     exact IsV.keep ⟨by rw [za8];exact Nat.le_refl _,fun b _ hb=>zbF (by have:=HW.out;have:=hb.2;omega) _ _ _ _⟩ (fun b hb=>hb.1) _ HSX.out
theorem ESec:zc6 Tryz.prog 62 29 (.agg #[.slice none 0 0,.int .i64 0,.int .i64 0,.string ⟨#[]⟩,.slice none 0 0]) 5 80:=⟨Tryz.underlying62,by kernel_rfl,rfl,by omega⟩
theorem sec_even {bs:List UInt8} {last:Bool} (h:(secV bs last 0).2.2=0):(secV bs last 0).1.tr.kind=7∧(secV bs last 0).1.tr.l.length % 2=0:=by
 unfold secV at h ⊢
 simp only at h ⊢
 by_cases ho:(oneX zfk (zah bs 0 last)).2≠0
 · rw [if_pos ho] at h;exact absurd h ho
 rw [if_neg ho] at h ⊢
 have ho':(oneX zfk (zah bs 0 last)).2=0:=by omega
 obtain ⟨o1,o2⟩:=oneX_le (p:=zfk) ho'
 obtain ⟨g1,g2⟩:=grps_le (bs:=bs) (last:=last) 65 [] _ rfl o1 o2
 by_cases hg:(zbN bs last 65 [] (oneX zfk (zah bs 0 last)).1).2.2≠0
 · rw [if_pos hg] at h;exact absurd h hg
 rw [if_neg hg] at h ⊢
 generalize (zbN bs last 65 [] (oneX zfk (zah bs 0 last)).1).2.1=k at *
 have hd:=parse_doc (bs:=bs) (last:=last) g1 g2
 obtain ⟨m1,-⟩:=valO_may _ _ _ _ g1 g2 (show stOk [] from trivial) hd
 by_cases hv:(zcB bs last k).2.2≠0
 · rw [if_pos hv] at h;exact absurd h hv
 rw [if_neg hv] at h ⊢
 by_cases h7:(zcB bs last k).1.kind≠7
 · rw [if_pos h7] at h;cases h
 rw [if_neg h7]
 have hv':(zcB bs last k).2.2=0:=by omega
 obtain ⟨f0,-⟩:=m1 hv'
 have h7':(zcB bs last k).1.kind=7:=by omega
 refine ⟨h7',?_⟩
 generalize (zcB bs last k).1=v at *
 obtain ⟨kk,n,s,l⟩:=v
 have h8:kk=7:=h7'
 subst h8
 unfold zbK at f0
 by_cases hoc:ownC (.mk 7 n s l)≠0
 · rw [if_pos hoc] at f0;exact absurd f0 hoc
 · have hz:ownC (.mk 7 n s l)=0:=by omega
   unfold ownC at hz
   simp only [show ((7:Int)=0)=False by simp,show ((7:Int)=1)=False by simp,show ((7:Int)=2∨(7:Int)=3)=False by simp,show ((7:Int)=4)=False by simp,show ((7:Int)=5)=False by simp,show ((7:Int)=6)=False by simp,if_false,if_true] at hz
   by_cases hb:n≠0∨s≠[]∨l.length % 2≠0
   · rw [if_pos hb] at hz;cases hz
   · show l.length % 2=0
     omega
def SecsEnd (w:World) (V:List Sec×Int×Int) (e:Ending) (w':World):Prop :=
 ∃v,e=.returned (.tuple #[v,.int .i64 V.2.1,.int .i64 V.2.2])∧IsL w' (fun b=>w.heap.size≤b) V.1 v∧Below w.heap.size w w'
theorem zd4 {w W:World} {V:List Sec×Int×Int} {n e:Int} (hV:V=([],n,e)) (hb:Below w.heap.size w W):SecsEnd w V (.returned (.tuple #[.slice none 0 0,.int .i64 n,.int .i64 e])) W:=by
 subst hV;exact ⟨_,rfl,IsL.nil _ _,hb⟩
theorem grown_stays {W W8:World} {o:Obj} {row:Option Nat} {B:Nat} (hg:(W.alloc o).grownBy W8 row) (hr:∀b,row=some b→b<B):zaL (fun b=>B≤b) W W8 :=
 ⟨by have:=hg.size;rw [zap] at this;omega,fun b hb hF=>by rw [hg.block b (by rw [zap];omega) (fun e=>by have:=hr b e.symm;omega)];exact zci W o hb⟩
def slLen:Value→Nat | .slice _ n _=>n|_=>0
theorem zfR (bs:List UInt8) (kn:List Bool) (g:Nat) (rd:List Int) (l:List Sec) (a:Int):zcy bs kn (g+1) rd l a=(if a<0∨(bs.length:Int)≤a then ([],0,20)
   else if a∈rd∨32≤l.length then ([],0,21)
   else if (zc3 bs kn a.toNat).2.2=6 then ([],(zaR kn a.toNat:Int),6) else if (zc3 bs kn a.toNat).2.2≠0 then ([],0,20)
   else match getV (zc3 bs kn a.toNat).1.tr kPrev with
     | none=>(l++[(zc3 bs kn a.toNat).1],0,0)
     | some v=>if v.kind≠2 then ([],0,20) else zcy bs kn g (rd++[a]) (l++[(zc3 bs kn a.toNat).1]) v.n):=rfl
theorem zeb {w:World} {p:Nat} {bs:List UInt8} {kn:List Bool} (h:SrcI w p bs kn) (hl:bs.length≤390000) (k:Int) :
   Calls Tryz.prog 24 #[.pointer (some ⟨p,0,none⟩),.int .i64 k] w (SecsEnd w (zcy bs kn 33 [] [] k)):=by
 have HI:=Lib.hid h
 have hmm:=@run_makeMap Tryz.prog
 obtain ⟨R,hR⟩:∃R,R=zcy bs kn 33 [] [] k:=⟨_,rfl⟩
 have HR:=Lib.hid hR
 rw [←hR]
 clear h hR
 obtain ⟨mb,hmb⟩:∃mb,mb=w.heap.size:=⟨_,rfl⟩
 have HM1:=Lib.hid (show MapN (w.alloc (.map #[] 0)) mb 0 [] by rw [hmb];exact MapN.made w)
 have HB1:=Lib.hid (zak w (.map #[] 0))
 have HMW:=Lib.hid (show mb<(w.alloc (.map #[] 0)).heap.size∧w.heap.size≤mb∧(w.alloc (.map #[] 0)).heap.size=mb+1 by rw [zap,hmb];omega)
 go_enter Tryz.func24,Tryz.ntmps24
 go_upto_region 2 with fail
 try rw [←hmb]
 clear hmb hmm
 generalize w.alloc _=W1 at *
 have HS1:=Lib.hid (SsM.nil 29 W1 W1 (fun b=>b=mb))
 go_wp2_with fail
 go_loopw [1,8] (fun v1 v8 wr=>∃(rd:List Int) (l:List Sec) (k:Int) (cs:List Value),v1=.int .i64 k∧l.length≤32∧Hid (SsM 29 W1 wr (fun b=>b=mb) l cs v8)∧Hid (MapN wr mb l.length rd)∧Hid (Below w.heap.size w wr)∧Hid (R=zcy bs kn (33-l.length) rd l k)) (fun _ v8 _=>33-slLen v8)
 case atStart=>exact ⟨[],[],k,[],rfl,by simp,HS1,HM1,HB1,HR⟩
 case round =>
   obtain ⟨rd,l,k,cs,rfl,hl32,HSM,HMN,HB,HQ⟩:=hrel
   obtain ⟨sa,sc,rfl,-,-⟩:=zaD HSM.out.own
   obtain ⟨m,hm⟩:∃m,m+1=33-l.length:=⟨32-l.length,by omega⟩
   have hQ:=HQ.out
   rw [←hm,zfR] at hQ
   have HM:=Lib.hid hm
   have HTT:=Lib.hid (HI.out.total _ HB.out)
   clear HQ hm
   by_cases h1:k<0
   · have d1:decide (k<0)=true:=decide_eq_true h1
     have HV:=Lib.hid (hQ.trans (if_pos (.inl h1)))
     clear hQ
     go_wp2_with fail
     go_ret3
     exact zd4 HV.out HB.out
   have d1:decide (k<0)=false:=decide_eq_false h1
   by_cases h2:(bs.length:Int)≤k
   · have d2:decide ((bs.length:Int)≤k)=true:=decide_eq_true h2
     have HV:=Lib.hid (hQ.trans (if_pos (.inr h2)))
     clear hQ
     go_wp2_with (go_at_call 54;refine HTT.out.mono ?_;rintro e w6 ⟨rfl,rfl⟩)
     go_ret3
     exact zd4 HV.out HB.out
   have d2:decide ((bs.length:Int)≤k)=false:=decide_eq_false h2
   obtain ⟨K,rfl⟩:∃K:Nat,k=(K:Int):=⟨k.toNat,by omega⟩
   have hKl:K<bs.length:=by omega
   have hKb:i64N (K:Int):=⟨by omega,by omega⟩
   have HKB:=Lib.hid hKb
   rw [if_neg (by rintro (h|h);exact h1 h;exact h2 h),show ((K:Int)).toNat=K from rfl] at hQ
   clear h1 h2 hKb
   by_cases hin:(K:Int)∈rd∨32≤l.length
   · have HV:=Lib.hid (hQ.trans (if_pos hin))
     have HIN:=Lib.hid hin
     obtain ⟨d,hd⟩:∃d,d=decide ((K:Int)∈rd):=⟨_,rfl⟩
     have HD:=Lib.hid hd
     clear hQ hin hd
     have d3:d=false→decide ((32:Int)≤(l.length:Int))=true:=fun e=>by
       refine decide_eq_true ?_
       rcases HIN.out with h|h
       · have:=HD.out;rw [decide_eq_true h] at this;rw [this] at e;cases e
       · omega
     have d4:d=false→decide (32≤l.length)=true:=fun e=>by have:=d3 e;simp at this ⊢;omega
     cases d
     · have d5:=d3 rfl
       have d6:=d4 rfl
       clear d3 d4
       go_wp2_with (first|(go_at_call 54;refine HTT.out.mono ?_;rintro e w6 ⟨rfl,rfl⟩)|(at_lookup;refine zcK rfl _ _ rfl HMN.out rfl rfl HKB.out ?_;intro c;rw [←HD.out]))
       go_ret3
       exact zd4 HV.out HB.out
     · clear d3 d4
       go_wp2_with (first|(go_at_call 54;refine HTT.out.mono ?_;rintro e w6 ⟨rfl,rfl⟩)|(at_lookup;refine zcK rfl _ _ rfl HMN.out rfl rfl HKB.out ?_;intro c;rw [←HD.out]))
       go_ret3
       exact zd4 HV.out HB.out
   rw [if_neg hin] at hQ
   have hl31:l.length<32:=by
     rcases Nat.lt_or_ge l.length 32 with h|h
     · exact h
     · exact absurd (.inr h) hin
   have d3:decide ((32:Int)≤(l.length:Int))=false:=decide_eq_false (by omega)
   have d4:decide (32≤l.length)=false:=decide_eq_false (by omega)
   have HD:=Lib.hid (show decide ((K:Int)∈rd)=false from decide_eq_false (fun h=>hin (.inl h)))
   have HSEC:=Lib.hid (fun (W:World) (hb:Below w.heap.size w W)=>section_any (HI.out.mono hb) hl hKl)
   have hEV:=sec_even (bs:=(bs.drop K).take (zaR kn K-K)) (last:=zaR kn K==bs.length)
   rw [show secV ((bs.drop K).take (zaR kn K-K)) (zaR kn K==bs.length) 0=zc3 bs kn K from rfl] at hEV
   unfold sctV at HSEC
   generalize zc3 bs kn K=S at *
   obtain ⟨s,so,se⟩:=S
   simp only at hQ HSEC hEV
   clear hin
   go_wp2_with (first|(go_at_call 54;refine HTT.out.mono ?_;rintro e w6 ⟨rfl,rfl⟩)|(at_lookup;refine zcK rfl _ _ rfl HMN.out rfl rfl HKB.out ?_;intro c;rw [HD.out])|(at_mapUpdate;refine zgf rfl _ _ _ rfl HMN.out rfl rfl HKB.out rfl ⟨by omega,by omega⟩ (by unfold maxLen;omega) ?_;intro w2 hmn2 hg2))
   have HB2:=Lib.hid (HB.out.grown hg2 HB.out.size (fun b hb=>by cases hb;exact HMW.out.2.1))
   have HM2:=Lib.hid hmn2
   have HS2:=Lib.hid (HSM.out.on (zaf.of_grown (S:=fun b=>b=mb) hg2 (fun b hb=>by cases hb;rfl)) (fun b hb _=>hb) (fun b hb e=>by have:=(HSM.out.own.lt b hb).1;have:=HMW.out.1;omega))
   have HSE:=Lib.hid (HSEC.out _ HB2.out)
   have HQ:=Lib.hid hQ
   clear hQ hmn2 hg2 HSEC HSM HMN HB HTT HD
   by_cases he:se=0
   case neg =>
     have HSF:=Lib.hid (show Calls Tryz.prog 62 #[.pointer (some ⟨p,0,none⟩),.int .i64 K] w2 (zfL w2 (Sec.none,if se=6 then ((zaR kn K:Nat):Int) else 0,if se=6 then 6 else 20)) by
       have:=HSE.out
       rw [if_neg he] at this
       by_cases h6:se=6
       · rw [if_pos h6,if_pos h6];rwa [if_pos h6] at this
       · rw [if_neg h6,if_neg h6];rwa [if_neg h6] at this)
     have HV:=Lib.hid (show R=([],if se=6 then ((zaR kn K:Nat):Int) else 0,if se=6 then 6 else 20) by
       have:=HQ.out
       by_cases h6:se=6
       · rw [if_pos h6,if_pos h6];rwa [if_pos h6] at this
       · rw [if_neg h6,if_neg h6];rwa [if_neg h6,if_pos he] at this)
     obtain ⟨u,hu⟩:∃u,u=(if se=6 then ((zaR kn K:Nat):Int) else 0):=⟨_,rfl⟩
     obtain ⟨v,hv⟩:∃v,v=(if se=6 then (6:Int) else 20):=⟨_,rfl⟩
     have hv0:v≠0:=by rw [hv];by_cases h6:se=6<;>simp [h6]
     rw [←hu,←hv] at HSF HV
     have e0:(v==0)=false:=by rw [beq_eq_false_iff_ne];exact hv0
     have e1:(v != 0)=true:=by simp only [bne,e0,Bool.not_false]
     clear hu hv hv0 HSE HQ hEV he
     refine HSF.out.mono ?_
     rintro e w3 ⟨gv,sl,rfl,hs3,hb3⟩
     obtain ⟨ga,gc,rfl,-,-,-⟩:=hs3.1.len
     obtain ⟨sa3,sc3,rfl,-,-,-⟩:=hs3.2.len
     simp only [secA,Sec.none,PV.none,List.length_nil]
     have HB3:=Lib.hid (HB2.out.trans (hb3.mono HB2.out.size))
     clear hs3 hb3
     go_wp2_with fail
     go_ret3
     exact zd4 HV.out (HB3.out.alloc HB3.out.size _)
   subst he
   rw [if_pos rfl] at HSE
   have HV:=Lib.hid (HQ.out.trans ((if_neg (by decide)).trans (if_neg (fun h=>h rfl))))
   obtain ⟨-,hev⟩:=hEV rfl
   have HEV:=Lib.hid hev
   clear HQ hEV hev
   refine HSE.out.mono ?_
   rintro e w3 ⟨gv,sl,rfl,hs3,hb3⟩
   obtain ⟨ga,gc,rfl,-,-,-⟩:=hs3.1.len
   obtain ⟨ta,tc,rfl,-,-,-⟩:=hs3.2.len
   simp only [secA]
   have hb3a:=hb3.alloc hb3.size (.cells #[.slice ga s.gs.length gc,.int .i64 s.tr.kind,.int .i64 s.tr.n,.string (mkB s.tr.s),.slice ta s.tr.l.length tc] 29)
   have HT3:=Lib.hid (zac (w:=w3) (b:=w3.heap.size) (.cells #[.slice ga s.gs.length gc,.int .i64 s.tr.kind,.int .i64 s.tr.n,.string (mkB s.tr.s),.slice ta s.tr.l.length tc] 29) rfl)
   have HX3:=Lib.hid (hs3.below (zak w3 (.cells #[.slice ga s.gs.length gc,.int .i64 s.tr.kind,.int .i64 s.tr.n,.string (mkB s.tr.s),.slice ta s.tr.l.length tc] 29)))
   have HB3:=Lib.hid (HB2.out.trans (hb3a.mono HB2.out.size))
   have HS3:=Lib.hid (HS2.out.below hb3a)
   have HM3:=Lib.hid (HM2.out.keep (hb3a.block mb HM2.out.lt))
   have HW2:=Lib.hid (show W1.heap.size≤w2.heap.size∧w2.heap.size≤w3.heap.size∧∀b,Value.ownBlock (.slice sa l.length sc)=some b→b<w2.heap.size from ⟨by have:=HM2.out.lt;have:=HMW.out.2.2;omega,hb3.size,fun b hb=>(HS2.out.own.lt b hb).2⟩)
   have HM2L:=Lib.hid HM2.out.lt
   clear hb3 hb3a hs3 HS2 HM2 HB2 HSE
   go_upto_region 10 with fail
   obtain ⟨T,hT⟩:∃T,T=w3.heap.size:=⟨_,rfl⟩
   rw [←hT] at HT3 HW2 ⊢
   clear hT
   generalize World.alloc _ _=W3 at *
   obtain ⟨⟨t0,t1,t2,t3,t4⟩,-⟩:=zcX HT3.out
   have HSC:=Lib.hid (show secC s (.slice ga s.gs.length gc) (.slice ta s.tr.l.length tc)=[.slice ga s.gs.length gc,.int .i64 s.tr.kind,.int .i64 s.tr.n,.string (mkB s.tr.s),.slice ta s.tr.l.length tc] from rfl)
   have HPA:=Lib.hid (show pvA s.tr (.slice ta s.tr.l.length tc)=.agg #[.int .i64 s.tr.kind,.int .i64 s.tr.n,.string (mkB s.tr.s),.slice ta s.tr.l.length tc] from rfl)
   have hone:∀u∈secC s (.slice ga s.gs.length gc) (.slice ta s.tr.l.length tc),u.oneCell'=true:=by
     intro u hu
     rw [HSC.out] at hu
     simp at hu
     rcases hu with rfl|rfl|rfl|rfl|rfl<;>rfl
   rw [HSC.out] at hone
   have HONE:=Lib.hid hone
   have HGT:=Lib.hid (fun (W:World) (hx:IsV W (fun b=>w2.heap.size≤b) s.tr (.slice ta s.tr.l.length tc))=>vget_any hx (fun _=>HEV.out) kPrev)
   rw [HPA.out] at HGT
   clear hone
   generalize hGV:getV s.tr kPrev=GV at *
   clear hGV
   generalize hK1:s.tr.kind=xk at *
   generalize hK2:s.tr.n=xn at *
   generalize hK3:mkB s.tr.s=xb at *
   clear hK1 hK2 hK3
   go_wp2_with (at_builtin;go_loud (refine zdW ESec rfl (.tmp 52) (.tmp 54) rfl W1.heap.size _ l.length _ rfl (HS3.out.own.alloc _) _ 1 _ rfl (zgE _ #[.slice ga s.gs.length gc,.int .i64 xk,.int .i64 xn,.string xb,.slice ta s.tr.l.length tc] _ 5 rfl rfl) HONE.out (by unfold maxLen;omega) (by omega) (by rw [zap];have:=HW2.out;have:=zai HT3.out;omega) ?_);intro v' w8 hO8 hg8 hn8;obtain ⟨ua,uc,rfl,-,-⟩:=zaD hO8;have HS8:=Lib.hid (HS3.out.app hg8 HX3.out HW2.out.1 HW2.out.2.2 (fun b hb=>by rw [hb];have:=HM2L.out;exact this) (by rw [HSC.out];exact hO8) hn8);have HST:=Lib.hid (grown_stays hg8 HW2.out.2.2);have HX8:=Lib.hid (HX3.out.keep HST.out (fun _ h=>h));have HT8:=Lib.hid ((HST.out.2 T (zai HT3.out) HW2.out.2.1).trans HT3.out);have HM8:=Lib.hid (HM3.out.keep ((hg8.block mb (by rw [zap];have:=HM3.out.lt;omega) (fun e=>by have:=(HS3.out.own.lt mb e.symm).1;have:=HMW.out.1;omega)).trans (zci _ _ HM3.out.lt)));have HB8:=Lib.hid ((HB3.out.alloc HB3.out.size _).grown hg8 (by rw [zap];have:=HB3.out.size;omega) (fun b hb=>by have:=(HS3.out.own.lt b hb).1;have:=HMW.out;omega));clear hO8 hg8 hn8 HS3 HX3 HT3 HM3 HB3 t0 t1 t2 t3 t4;obtain ⟨⟨t0,t1,t2,t3,t4⟩,-⟩:=zcX HT8.out)
   have HG8:=Lib.hid (HGT.out _ HX8.out.2)
   clear HGT
   have HFW:=Lib.hid (show ∀b,W1.heap.size≤b→w.heap.size≤b from fun b hb=>by have:=HMW.out;omega)
   cases GV with
   | none =>
     refine HG8.out.mono ?_
     rintro e w9 ⟨xl,rfl,hv9,hb9⟩
     obtain ⟨la,lc,rfl,-,-,-⟩:=hv9.len
     simp only [getP,pvA,PV.none]
     have HB9:=Lib.hid (HB8.out.trans (hb9.mono HB8.out.size))
     have HS9:=Lib.hid (HS8.out.below hb9)
     clear hv9 hb9 HG8 HX8 HT8 HM8 HB8 HS8 t0 t1 t2 t3 t4
     go_wp2_with fail
     go_ret3
     rw [HV.out]
     exact ⟨_,rfl,((HS9.out.below (zak _ _)).fin.keep (zaL.refl _ _) (fun b hb=>HFW.out b hb)),HB9.out.alloc HB9.out.size _⟩
   | some v =>
     refine HG8.out.mono ?_
     rintro e w9 ⟨xl,rfl,hv9,hb9⟩
     obtain ⟨la,lc,rfl,-,-,-⟩:=hv9.len
     simp only [getP,pvA]
     have hb9a:=hb9.alloc hb9.size (.cells #[.int .i64 v.kind,.int .i64 v.n,.string (mkB v.s),.slice la v.l.length lc] 27)
     have HY9:=Lib.hid (zac (w:=w9) (b:=w9.heap.size) (.cells #[.int .i64 v.kind,.int .i64 v.n,.string (mkB v.s),.slice la v.l.length lc] 27) rfl)
     have HB9:=Lib.hid (HB8.out.trans (hb9a.mono HB8.out.size))
     have HS9:=Lib.hid (HS8.out.below hb9a)
     have HM9:=Lib.hid (HM8.out.keep (hb9a.block mb HM8.out.lt))
     clear hv9 hb9 hb9a HG8 HX8 HT8 HM8 HB8 HS8 t0 t1 t2 t3 t4
     have HV2:=Lib.hid (show R=if v.kind≠2 then ([],0,20) else zcy bs kn m (rd++[(K:Int)]) (l++[s]) v.n from HV.out)
     clear HV
     generalize v.kind=vk at *
     generalize v.n=vn at *
     generalize mkB v.s=vb at *
     go_upto_region 14 with fail
     generalize w9.heap.size=Y at *
     generalize World.alloc _ _=W9 at *
     obtain ⟨⟨y0,y1,y2,y3⟩,-⟩:=zam HY9.out
     by_cases hk2:vk=2
     case neg =>
       have HV3:=Lib.hid (HV2.out.trans (if_pos hk2))
       have e0:(vk==2)=false:=by rw [beq_eq_false_iff_ne];exact hk2
       have e1:(vk != 2)=true:=by simp only [bne,e0,Bool.not_false]
       clear hk2
       go_wp2_with fail
       go_ret3
       exact zd4 HV3.out HB9.out
     subst hk2
     have HV3:=Lib.hid (HV2.out.trans (if_neg (fun h=>h rfl)))
     have HLN:=Lib.hid (show (l++[s]).length=l.length+1 by simp)
     clear HV2
     go_wp2_with fail
     go_roundw
     case rel=>exact ⟨rd++[(K:Int)],l++[s],vn,_,rfl,by rw [HLN.out];omega,HS9,by rw [HLN.out];exact HM9,HB9,Lib.hid (by rw [HV3.out,HLN.out,show 33-(l.length+1)=m by have:=HM.out;omega])⟩
     case measure=>simp [slLen];omega
def smallL (l:List Sec):Prop:=∀s∈l,smallG s.gs
theorem placeV_none {s:Sec} {l:List Sec} {n:Int} (h:zcE s.gs n=none):zch (s::l) n=zch l n:=by
 show (match zcE s.gs n with|none=>zch l n|some e=>if e.used=true∧e.gen=0 then e.at_ else -1)=_
 rw [h]
theorem placeV_some {s:Sec} {l:List Sec} {n:Int} {e:Ent} (h:zcE s.gs n=some e):zch (s::l) n=if e.used=true∧e.gen=0 then e.at_ else -1:=by
 show (match zcE s.gs n with|none=>zch l n|some e=>if e.used=true∧e.gen=0 then e.at_ else -1)=_
 rw [h]
def PlcEnd (w:World) (v:Int) (e:Ending) (w':World):Prop:=e=.returned (.int .i64 v)∧Below w.heap.size w w'
theorem xplace_any {w:World} {F:Nat→Prop} {l:List Sec} {v:Value} (h:IsL w F l v) (hs:smallL l) (n:Int) (hn0:-2000000000000000000≤n) (hn1:n≤2000000000000000000) :
   Calls Tryz.prog 68 #[v,.int .i64 n] w (PlcEnd w (zch l n)):=by
 obtain ⟨a,cap,rfl,g1,g2,g3⟩:=h.len
 have hl63:(l.length:Int)≤9223372036854775807:=by unfold maxLen at g2;omega
 have HL:=Lib.hid h
 obtain ⟨R,hR⟩:∃R,R=zch l n:=⟨_,rfl⟩
 have HR:=Lib.hid hR
 have HSM:=Lib.hid hs
 rw [←hR]
 clear h hR g2 g3 hs
 go_enter Tryz.func68,Tryz.ntmps68
 go_wp2_with fail
 go_loopw [11] (fun v wr=>∃k:Nat,v=.int .i64 k∧k≤l.length∧Hid (R=zch (l.drop k) n)∧Hid (Below w.heap.size w wr)) (fun v _=>l.length-(intOf v).toNat)
 case atStart=>exact ⟨0,rfl,Nat.zero_le _,HR,Lib.hid (Below.refl _ _)⟩
 case round =>
   obtain ⟨k,rfl,hk,HQ,HB⟩:=hrel
   by_cases hlt:k<l.length
   · have hcd:decide ((k:Int)<(l.length:Int))=true:=decide_eq_true (by omega)
     have hcd2:decide (k<l.length)=true:=decide_eq_true hlt
     have HL2:=Lib.hid (HL.out.below HB.out)
     have hL2:=HL2.out
     obtain ⟨-,-,-,b,off,rfl,-,-,hc⟩:=hL2.at (by omega)
     obtain ⟨s,hx⟩:∃s,l[k]?=some s:=⟨_,List.getElem?_eq_getElem hlt⟩
     obtain ⟨gv,sl,hsec,c0,c1,c2,c3,c4⟩:=hc k s hx
     obtain ⟨ga,gc,rfl,-,-,-⟩:=hsec.1.len
     obtain ⟨la,lc,rfl,-,-,-⟩:=hsec.2.len
     have HFD:=Lib.hid (fun (W:World) (hb:Below wr.heap.size wr W)=>xfind_any (hsec.below hb) n (HSM.out s (List.mem_of_getElem? hx)) hn0 hn1)
     have hdrop:l.drop k=s::l.drop (k+1):=by
       rw [List.drop_eq_getElem_cons hlt]
       rw [List.getElem?_eq_getElem hlt] at hx
       rw [Option.some.inj hx]
     have HD:=Lib.hid (HQ.out.trans (by rw [hdrop]))
     unfold secA at HFD
     clear hL2 hc hx hdrop HQ
     have HN:=Lib.hid (fun h=>HD.out.trans (placeV_none (n:=n) h))
     have HY:=Lib.hid (fun e h=>HD.out.trans (placeV_some (n:=n) (e:=e) h))
     clear HD
     generalize zcE s.gs n=o at *
     have HPA:=Lib.hid (zak wr (.cells #[.slice ga s.gs.length gc,.int .i64 s.tr.kind,.int .i64 s.tr.n,.string (mkB s.tr.s),.slice la s.tr.l.length lc] 29))
     have HT1:=Lib.hid (zac (w:=wr) (b:=wr.heap.size) (.cells #[.slice ga s.gs.length gc,.int .i64 s.tr.kind,.int .i64 s.tr.n,.string (mkB s.tr.s),.slice la s.tr.l.length lc] 29) rfl)
     have HB1:=Lib.hid (HB.out.trans (HPA.out.mono HB.out.size))
     have HF1:=Lib.hid (HFD.out _ HPA.out)
     clear HFD HPA hsec HL2 HB
     generalize s.gs.length=gl at *
     generalize s.tr.kind=xk at *
     generalize s.tr.n=xn at *
     generalize mkB s.tr.s=xb at *
     generalize s.tr.l.length=xl at *
     go_upto_region 4 with fail
     generalize wr.heap.size=T at *
     generalize World.alloc _ _=W1 at *
     clear c0 c1 c2 c3 c4
     obtain ⟨⟨t0,t1,t2,t3,t4⟩,-⟩:=zcX HT1.out
     go_wp2_with fail
     refine HF1.out.mono ?_
     rintro e w2 ⟨rfl,hb2⟩
     cases o with
     | none =>
       have HE:=Lib.hid (HN.out rfl)
       have HB2:=Lib.hid (HB1.out.trans (hb2.mono HB1.out.size))
       have HZ:=Lib.hid (zac (w:=w2) (b:=w2.heap.size) (.cells #[.int .i64 0,.int .i64 0,.bool false] 44) rfl)
       have HB3:=Lib.hid (HB2.out.alloc HB2.out.size (.cells #[.int .i64 0,.int .i64 0,.bool false] 44))
       simp only [findP,entA]
       clear hb2 HB1 HB2 HF1 HT1 t0 t1 t2 t3 t4 HN HY
       go_upto_region 5 with fail
       generalize w2.heap.size=Z at *
       generalize World.alloc _ _=W3 at *
       obtain ⟨⟨z0,z1,z2⟩,-⟩:=ze2 HZ.out
       go_wp2_with fail
       go_roundw
       case rel=>exact ⟨k+1,by go_num,hlt,HE,HB3⟩
       case measure=>simp [intOf];omega
     | some x =>
       have HE:=Lib.hid (HY.out x rfl)
       obtain ⟨xa,xg,xu⟩:=x
       have HB2:=Lib.hid (HB1.out.trans (hb2.mono HB1.out.size))
       have HZ:=Lib.hid (zac (w:=w2) (b:=w2.heap.size) (.cells #[.int .i64 xa,.int .i64 xg,.bool xu] 44) rfl)
       have HB3:=Lib.hid (HB2.out.alloc HB2.out.size (.cells #[.int .i64 xa,.int .i64 xg,.bool xu] 44))
       simp only [findP,entA] at HE ⊢
       clear hb2 HB1 HB2 HF1 HT1 t0 t1 t2 t3 t4 HN HY
       go_upto_region 5 with fail
       generalize w2.heap.size=Z at *
       generalize World.alloc _ _=W3 at *
       obtain ⟨⟨z0,z1,z2⟩,-⟩:=ze2 HZ.out
       cases xu
       · have HE2:=Lib.hid (HE.out.trans (if_neg (by simp)))
         go_wp2_with fail
         go_ret
         exact ⟨by rw [HE2.out];rfl,HB3.out⟩
       · by_cases hg:xg=0
         · subst hg
           have HE2:=Lib.hid (HE.out.trans (if_pos ⟨rfl,rfl⟩))
           go_wp2_with fail
           go_ret
           exact ⟨by rw [HE2.out];rfl,HB3.out⟩
         · have e0:(xg==0)=false:=by rw [beq_eq_false_iff_ne];exact hg
           have HE2:=Lib.hid (HE.out.trans (if_neg (fun h=>hg h.2)))
           clear hg
           go_wp2_with fail
           go_ret
           exact ⟨by rw [HE2.out];rfl,HB3.out⟩
   · have hcd:decide ((k:Int)<(l.length:Int))=false:=decide_eq_false (by omega)
     have hcd2:decide (k<l.length)=false:=decide_eq_false hlt
     have HE:=Lib.hid (show R=-1 by rw [HQ.out,List.drop_eq_nil_of_le (by omega)];rfl)
     go_wp2_with fail
     go_ret
     exact ⟨by rw [HE.out];rfl,HB.out⟩
theorem EIntT:zc6 Tryz.prog 72 3 (.int .i64 0) 1 8:=⟨Tryz.underlying72,by kernel_rfl,rfl,by omega⟩
theorem zcs:(Tryz.prog.info? 74).map (·.size)=some 2:=by kernel_rfl
def OfEnd (w:World) (V:Tab×Int) (e:Ending) (w':World):Prop :=
 ∃pa pc,e=.returned (.tuple #[.agg #[.slice pa V.1.ps.length pc,.int .i64 V.1.root],.int .i64 V.2])∧Row w' 1 pa V.1.ps.length pc (V.1.ps.map (Value.int .i64))∧(∀x,pa=some x→w.heap.size≤x.block)∧Below w.heap.size w w'
structure OfM (w W0 W:World) (r S Tb:Nat) (sz:Array Value) (root:Int) (ps:List Int) (v:Value):Prop where
 res:W.heap[r]?=some (.cells #[.slice none 0 0,.int .i64 0] 74 (0,0))
 siz:W.heap[S]?=some (.cells sz 27 (0,0))
 tab:W.heap[Tb]?=some (.cells #[v,.int .i64 root] 74 (0,0))
 own:W.ownsRow W0.heap.size 3 1 v ps.length (ps.map (Value.int .i64))
 bel:Below w.heap.size w W
 lt:w.heap.size≤r∧r<W0.heap.size∧S<W0.heap.size∧Tb<W0.heap.size∧r≠Tb∧S≠Tb∧w.heap.size≤Tb∧W0.heap.size≤W.heap.size
theorem OfM.on {w W0 W W':World} {r S Tb:Nat} {sz:Array Value} {root:Int} {ps:List Int} {v:Value} (h:OfM w W0 W r S Tb sz root ps v) (hb:Below W.heap.size W W'):OfM w W0 W' r S Tb sz root ps v :=
 ⟨zab hb h.res,zab hb h.siz,zab hb h.tab,zaO h.own fun b hb2=>hb.block b (h.own.lt b hb2).2,h.bel.trans (hb.mono h.bel.size),by have:=h.lt;have:=hb.size;omega⟩
theorem OfM.far {w W0 W W8:World} {o:Obj} {r S Tb:Nat} {sz:Array Value} {root:Int} {ps:List Int} {v:Value} (h:OfM w W0 W r S Tb sz root ps v) (hg:(W.alloc o).grownBy W8 v.ownBlock) {b:Nat} (hb:b<W0.heap.size):W8.heap[b]?=W.heap[b]?:=by
 have hl:=h.lt
 rw [hg.block b (by rw [zap];omega) (fun e=>by have:=(h.own.lt b e.symm).1;omega)]
 exact zci W o (by omega)
theorem OfM.app {w W0 W W8:World} {o:Obj} {r S Tb:Nat} {sz:Array Value} {root:Int} {ps:List Int} {v v':Value} (h:OfM w W0 W r S Tb sz root ps v) (hg:(W.alloc o).grownBy W8 v.ownBlock) {x:Int}
   (hO:W8.ownsRow W0.heap.size 3 1 v' (ps.length+1) (ps.map (Value.int .i64)++[.int .i64 x])):OfM w W0 (W8.setCell ⟨Tb,0,none⟩ v') r S Tb sz root (ps++[x]) v':=by
 have hl:=h.lt
 have hT:W8.heap[Tb]?=some (.cells #[v,.int .i64 root] 74 (0,0)):=(h.far hg hl.2.2.2.1).trans h.tab
 refine ⟨by rw [heap_setCell_other _ _ _ _ (show r≠Tb from hl.2.2.2.2.1)];exact (h.far hg hl.2.1).trans h.res,by rw [heap_setCell_other _ _ _ _ (show S≠Tb from hl.2.2.2.2.2.1)];exact (h.far hg hl.2.2.1).trans h.siz,by rw [heap_setCell_same _ Tb 0 _ _ _ hT];rfl,?_,?_,?_⟩
 · rw [List.length_append,List.map_append]
   exact zaO hO fun b hb=>heap_setCell_other _ _ _ _ (show b≠Tb by have:=(hO.lt b hb).1;omega)
 · exact ((h.bel.alloc h.bel.size o).grown hg (by rw [zap];have:=h.bel.size;omega) (fun b hb=>by have:=(h.own.lt b hb).1;omega)).setCell (p:=⟨Tb,0,none⟩) hl.2.2.2.2.2.2.1 _
 · have:=hg.size
   rw [zap] at this
   have h2:(W8.setCell ⟨Tb,0,none⟩ v').heap.size=W8.heap.size:=by simp [World.setCell]
   omega
theorem tabV_nil:tabV []=({},20):=rfl
theorem tabV_size {s:Sec} {l:List Sec} (h:(getP (getV s.tr zdJ)).1.kind≠2∨(getP (getV s.tr zdJ)).1.n<1∨4097<(getP (getV s.tr zdJ)).1.n):tabV (s::l)=({},20):=by unfold tabV;simp only;rw [if_pos h]
theorem tabV_root {s:Sec} {l:List Sec} (h:¬((getP (getV s.tr zdJ)).1.kind≠2∨(getP (getV s.tr zdJ)).1.n<1∨4097<(getP (getV s.tr zdJ)).1.n)) (h2:(getP (getV s.tr kRoot)).1.kind≠8):tabV (s::l)=({},23):=by unfold tabV;simp only;rw [if_neg h,if_pos h2]
theorem tabV_ok {s:Sec} {l:List Sec} (h:¬((getP (getV s.tr zdJ)).1.kind≠2∨(getP (getV s.tr zdJ)).1.n<1∨4097<(getP (getV s.tr zdJ)).1.n)) (h2:¬(getP (getV s.tr kRoot)).1.kind≠8) :
   tabV (s::l)=(⟨(List.range ((getP (getV s.tr zdJ)).1.n.toNat-1)).map fun (i:Nat)=>zch (s::l) ((i:Int)+1),(getP (getV s.tr kRoot)).1.n⟩,0):=by unfold tabV;simp only;rw [if_neg h,if_neg h2]
def evenL (l:List Sec):Prop:=∀s∈l,s.tr.kind=7→s.tr.l.length % 2=0
theorem of_no {w W:World} {V:Tab×Int} {e:Int} (hV:V=({},e)) (hb:Below w.heap.size w W) {r:Nat} (hr:w.heap.size≤r) (y0 y1:Value) :
   OfEnd w V (.returned (.tuple #[.agg #[.slice none 0 0,.int .i64 0],.int .i64 e])) ((W.setCell ⟨r,0,none⟩ y0).setCell ⟨r,1,none⟩ y1):=by
 subst hV
 exact ⟨none,0,rfl,Row.nil _ 1,fun x hx=>(by cases hx),(hb.setCell (p:=⟨r,0,none⟩) hr _).setCell (p:=⟨r,1,none⟩) hr _⟩
theorem of_any {w:World} {F:Nat→Prop} {l:List Sec} {v:Value} (h:IsL w F l v) (hs:smallL l) (hev:evenL l):Calls Tryz.prog 29 #[v] w (OfEnd w (tabV l)):=by
 obtain ⟨a,cap,rfl,g1,g2,g3⟩:=h.len
 have hl63:(l.length:Int)≤9223372036854775807:=by unfold maxLen at g2;omega
 have HL:=Lib.hid h
 obtain ⟨V,hV⟩:∃V,V=tabV l:=⟨_,rfl⟩
 have HV:=Lib.hid hV
 have HSM:=Lib.hid hs
 have HEV:=Lib.hid hev
 rw [←hV]
 clear h hV g2 g3 hs hev
 obtain ⟨r,hr⟩:∃r,r=w.heap.size:=⟨_,rfl⟩
 have HZ1:=Lib.hid (zac (w:=w) (b:=r) (.cells #[.slice none 0 0,.int .i64 0] 74) hr)
 have HB1:=Lib.hid (zak w (.cells #[.slice none 0 0,.int .i64 0] 74))
 have HRW:=Lib.hid (Nat.le_of_eq hr.symm)
 go_enter Tryz.func29,Tryz.ntmps29
 go_upto_region 1 with fail
 try rw [←hr]
 clear hr
 generalize w.alloc _=W1 at *
 cases l with
 | nil =>
   have HE:=Lib.hid (HV.out.trans tabV_nil)
   obtain ⟨⟨z0,z1⟩,y0,y1⟩:=zaV HZ1.out
   go_wp2_with fail
   refine bodyPost_ret (zaa rfl _ _ r 74 _ (0,0) _ rfl (by exact zcV HZ1.out _ _) Tryz.underlying74 rfl (by exact zcs) _ rfl) rfl ?_
   exact of_no HE.out HB1.out HRW.out _ _
 | cons s0 l0 =>
   have HL1:=Lib.hid (HL.out.below HB1.out)
   have hL1:=HL1.out
   obtain ⟨-,-,-,b,off,rfl,-,-,hc⟩:=hL1.at (by simp)
   obtain ⟨gv,sl,hsec,c0,c1,c2,c3,c4⟩:=hc 0 s0 rfl
   obtain ⟨la,lc,rfl,-,-,-⟩:=hsec.2.len
   have hlen:(s0::l0).length=l0.length+1:=rfl
   have HG:=Lib.hid (fun (W:World) (hb:Below W1.heap.size W1 W) (key:List UInt8)=>vget_any (IsV.below hsec.2 hb) (HEV.out s0 (List.mem_cons_self ..)) key)
   have HPL:=Lib.hid (fun (W:World) (hb:Below w.heap.size w W) (n:Int) (h0:-2000000000000000000≤n) (h1:n≤2000000000000000000)=>xplace_any (HL.out.below hb) HSM.out n h0 h1)
   have HV1:=Lib.hid (fun h=>HV.out.trans (tabV_size h))
   have HV2:=Lib.hid (fun h h2=>HV.out.trans (tabV_root h h2))
   have HV3:=Lib.hid (fun h h2=>HV.out.trans (tabV_ok h h2))
   have HGS:=Lib.hid (HG.out W1 (Below.refl _ _) zdJ)
   have HGR:=Lib.hid (fun (W:World) (hb:Below W1.heap.size W1 W)=>HG.out W hb kRoot)
   obtain ⟨PV1,hP1⟩:∃P,P=fun n=>zch (s0::l0) n:=⟨_,rfl⟩
   have HPP:=Lib.hid (show ∀n,zch (s0::l0) n=PV1 n from fun n=>by rw [hP1])
   simp only [HPP.out] at HPL HV3
   clear hP1
   generalize getP (getV s0.tr zdJ)=Z at *
   generalize getP (getV s0.tr kRoot)=Q at *
   obtain ⟨zv,zb⟩:=Z
   obtain ⟨qv,qb⟩:=Q
   simp only at HV1 HV2 HV3
   unfold pvA at HGS HGR
   have hN0:(((s0::l0).length:Int)==0)=false:=by rw [beq_eq_false_iff_ne];simp only [List.length_cons];omega
   have hN1:((s0::l0).length==0)=false:=by rw [beq_eq_false_iff_ne];simp
   have hNp:0<(s0::l0).length:=by simp
   simp only [Nat.zero_mul,Nat.add_zero] at c0 c1 c2 c3 c4
   clear HL HL1 hL1 hc hsec HG HV HPP hlen HEV HSM c0
   generalize (s0::l0).length=N at *
   generalize s0.tr.kind=xk at *
   generalize s0.tr.n=xn at *
   generalize mkB s0.tr.s=xb at *
   generalize s0.tr.l.length=xl at *
   go_wp2_with fail
   refine HGS.out.mono ?_
   rintro e w2 ⟨zl,rfl,hzv,hb2⟩
   obtain ⟨za,zc,rfl,-,-,-⟩:=hzv.len
   simp only [pvA]
   have hb2a:=hb2.alloc hb2.size (.cells #[.int .i64 zv.kind,.int .i64 zv.n,.string (mkB zv.s),.slice za zv.l.length zc] 27)
   have HS2:=Lib.hid (zac (w:=w2) (b:=w2.heap.size) (.cells #[.int .i64 zv.kind,.int .i64 zv.n,.string (mkB zv.s),.slice za zv.l.length zc] 27) rfl)
   have HZ2:=Lib.hid (zab hb2a HZ1.out)
   have HX2:=Lib.hid hb2a
   have HWS:=Lib.hid (show w.heap.size≤w2.heap.size∧r<w2.heap.size from ⟨Nat.le_trans HB1.out.size hb2.size,Nat.lt_of_lt_of_le (zai HZ1.out) hb2.size⟩)
   have e1:=cell?_keep hb2a c1
   have e2:=cell?_keep hb2a c2
   have e3:=cell?_keep hb2a c3
   have e4:=cell?_keep hb2a c4
   clear hb2 hb2a hzv HGS HZ1 c1 c2 c3 c4
   generalize zv.kind=zk at *
   generalize zv.n=zn at *
   generalize mkB zv.s=zs at *
   generalize zv.l.length=zl2 at *
   go_upto_region 4 with fail
   generalize w2.heap.size=S4 at *
   generalize World.alloc _ _=W2 at *
   have HG2:=Lib.hid (HGR.out _ HX2.out)
   clear HGR
   go_wp2_with fail
   refine HG2.out.mono ?_
   rintro e w3 ⟨ql,rfl,hqv,hb3⟩
   obtain ⟨qa,qc,rfl,-,-,-⟩:=hqv.len
   simp only [pvA]
   have hb3a:=hb3.alloc hb3.size (.cells #[.int .i64 qv.kind,.int .i64 qv.n,.string (mkB qv.s),.slice qa qv.l.length qc] 27)
   have HQ3:=Lib.hid (zac (w:=w3) (b:=w3.heap.size) (.cells #[.int .i64 qv.kind,.int .i64 qv.n,.string (mkB qv.s),.slice qa qv.l.length qc] 27) rfl)
   have HS3:=Lib.hid (zab hb3a HS2.out)
   have HZ3:=Lib.hid (zab hb3a HZ2.out)
   have HB3:=Lib.hid ((HB1.out.trans (HX2.out.mono HB1.out.size)).trans (hb3a.mono (HB1.out.trans (HX2.out.mono HB1.out.size)).size))
   have HSS:=Lib.hid (show S4<w3.heap.size∧r<w3.heap.size from ⟨Nat.lt_of_lt_of_le (zai HS2.out) hb3.size,Nat.lt_of_lt_of_le (zai HZ2.out) hb3.size⟩)
   clear hb3 hb3a hqv HG2 HS2 HZ2 HX2 HB1 e1 e2 e3 e4
   generalize qv.kind=qk at *
   generalize qv.n=qn at *
   generalize mkB qv.s=qs at *
   generalize qv.l.length=ql2 at *
   go_upto_region 5 with fail
   generalize w3.heap.size=R4 at *
   generalize World.alloc _ _=W3 at *
   obtain ⟨⟨s1,s2,s3,s4⟩,-⟩:=zam HS3.out
   obtain ⟨⟨q1,q2,q3,q4⟩,-⟩:=zam HQ3.out
   obtain ⟨⟨z0,z1⟩,y0,y1⟩:=zaV HZ3.out
   by_cases h1:zk=2
   case neg =>
     have HE:=Lib.hid (HV1.out (.inl h1))
     have f0:(zk==2)=false:=by rw [beq_eq_false_iff_ne];exact h1
     have f1:(zk != 2)=true:=by simp only [bne,f0,Bool.not_false]
     clear h1 HV1 HV2 HV3 HPL
     go_wp2_with fail
     refine bodyPost_ret (zaa rfl _ _ r 74 _ (0,0) _ rfl (by exact zcV HZ3.out _ _) Tryz.underlying74 rfl (by exact zcs) _ rfl) rfl ?_
     exact of_no HE.out HB3.out HRW.out _ _
   subst h1
   by_cases h2:zn<1
   · have HE:=Lib.hid (HV1.out (.inr (.inl h2)))
     have f0:decide (zn<1)=true:=decide_eq_true h2
     clear h2 HV1 HV2 HV3 HPL
     go_wp2_with fail
     refine bodyPost_ret (zaa rfl _ _ r 74 _ (0,0) _ rfl (by exact zcV HZ3.out _ _) Tryz.underlying74 rfl (by exact zcs) _ rfl) rfl ?_
     exact of_no HE.out HB3.out HRW.out _ _
   have f2:decide (zn<1)=false:=decide_eq_false h2
   by_cases h3:4097<zn
   · have HE:=Lib.hid (HV1.out (.inr (.inr h3)))
     have f0:decide (4097<zn)=true:=decide_eq_true h3
     clear h3 h2 HV1 HV2 HV3 HPL
     go_wp2_with fail
     refine bodyPost_ret (zaa rfl _ _ r 74 _ (0,0) _ rfl (by exact zcV HZ3.out _ _) Tryz.underlying74 rfl (by exact zcs) _ rfl) rfl ?_
     exact of_no HE.out HB3.out HRW.out _ _
   have f3:decide (4097<zn)=false:=decide_eq_false h3
   have hno:¬((2:Int)≠2∨zn<1∨4097<zn):=by rintro (h|h|h);exact h rfl;exact h2 h;exact h3 h
   by_cases h8:qk=8
   case neg =>
     have HE:=Lib.hid (HV2.out hno h8)
     have f0:(qk==8)=false:=by rw [beq_eq_false_iff_ne];exact h8
     have f1:(qk != 8)=true:=by simp only [bne,f0,Bool.not_false]
     clear h8 h2 h3 hno HV1 HV2 HV3 HPL
     go_wp2_with fail
     refine bodyPost_ret (zaa rfl _ _ r 74 _ (0,0) _ rfl (by exact zcV HZ3.out _ _) Tryz.underlying74 rfl (by exact zcs) _ rfl) rfl ?_
     exact of_no HE.out HB3.out HRW.out _ _
   subst h8
   have HE:=Lib.hid (HV3.out hno (fun h=>h rfl))
   obtain ⟨M,hM⟩:∃M:Nat,zn=(M:Int)+1:=⟨(zn-1).toNat,by omega⟩
   subst hM
   have hM7:M≤4096:=by omega
   rw [show ((M:Int)+1).toNat-1=M by omega] at HE
   have HOM:=Lib.hid (show OfM w (W3.alloc (.cells #[.slice none 0 0,.int .i64 qn] 74)) (W3.alloc (.cells #[.slice none 0 0,.int .i64 qn] 74)) r S4 W3.heap.size #[.int .i64 2,.int .i64 ((M:Int)+1),.string zs,.slice za zl2 zc] qn [] (.slice none 0 0) from
     ⟨zal _ HZ3.out,zal _ HS3.out,zac _ rfl,World.ownsRow_nil _ _ _ _,HB3.out.alloc HB3.out.size _,by
       have:=HSS.out;have:=HRW.out;have:=zai HQ3.out;have:=HB3.out.size;rw [zap];omega⟩)
   clear h2 h3 hno HV1 HV2 HV3 f2 f3
   go_upto_region 10 with fail
   generalize W3.heap.size=Tb at *
   generalize World.alloc _ _=W4 at *
   clear s1 s2 s3 s4 q1 q2 q3 q4 z0 z1 y0 y1 HS3 HQ3 HZ3 HB3
   go_wp2_with fail
   go_loopw [9] (fun v9 wr=>∃(k:Nat) (v:Value),v9=.int .i64 ((k:Int)+1)∧k≤M∧Hid (OfM w W4 wr r S4 Tb #[.int .i64 2,.int .i64 ((M:Int)+1),.string zs,.slice za zl2 zc] qn ((List.range k).map fun (i:Nat)=>PV1 ((i:Int)+1)) v)) (fun v _=>M+1-(intOf v).toNat)
   case atStart=>exact ⟨0,_,rfl,Nat.zero_le _,HOM⟩
   case round =>
     obtain ⟨k,v,rfl,hk,HM⟩:=hrel
     obtain ⟨sa,sc,rfl,-,-⟩:=zaD HM.out.own
     simp only [List.length_map,List.length_range] at HM
     obtain ⟨⟨s1,s2,s3,s4⟩,-⟩:=zam HM.out.siz
     obtain ⟨⟨t0,t1⟩,tf0,tf1⟩:=zaV HM.out.tab
     by_cases hlt:k<M
     · have hcd:decide ((k:Int)+1<(M:Int)+1)=true:=decide_eq_true (by omega)
       have hcd2:decide ((k:Int)<(M:Int))=true:=decide_eq_true (by omega)
       have hcd3:decide (k<M)=true:=decide_eq_true hlt
       have HPD:=Lib.hid (HPL.out wr.drew (HM.out.bel.trans ((Below.refl _ wr).drew.mono HM.out.bel.size)) ((k:Int)+1) (by omega) (by omega))
       obtain ⟨iB,hiB,hzB,hsB,hbB⟩:=info_parts EIntT.info
       have HRG:=Lib.hid (show ((List.range (k+1)).map fun (i:Nat)=>PV1 ((i:Int)+1))=((List.range k).map fun (i:Nat)=>PV1 ((i:Int)+1))++[PV1 ((k:Int)+1)] by rw [List.range_succ,List.map_append];rfl)
       have HPN:=Lib.hid (show ((List.range k).map fun (i:Nat)=>PV1 ((i:Int)+1)).length=k by rw [List.length_map,List.length_range])
       generalize PV1 ((k:Int)+1)=pl at *
       go_wp2_with fail
       have t0d:=cell?_keep (Below.refl _ wr).drew t0
       go_region_law
         (first
           | (go_simp;go_at_call 68;refine HPD.out.mono ?_;rintro e w5 ⟨rfl,hb5⟩;have HM5:=Lib.hid (HM.out.on ((Below.refl _ wr).drew.trans hb5));have HO5:=Lib.hid (show w5.ownsRow W4.heap.size 3 1 (.slice sa k sc) k (((List.range k).map fun (i:Nat)=>PV1 ((i:Int)+1)).map (Value.int .i64)) by have h:=HM5.out.own;rwa [HPN.out] at h);obtain ⟨⟨m0,m1⟩,mf0,mf1⟩:=zaV HM5.out.tab;obtain ⟨⟨n0,n1⟩,nf0,nf1⟩:=zaV (zal (.cells #[.int .i64 pl] 3) HM5.out.tab))
           | (refine step_append_lies _ (by rfl) _ _ _ (by rfl) W4.heap.size 3 iB _ 1 8 EIntT.und hiB hzB hsB hbB rfl (by omega) (.slice sa k sc) k _ (by rfl) (HO5.out.alloc _) ⟨w5.heap.size,0,none⟩ 1 1 [.int .i64 pl] (by rfl) (by rfl) (World.news_of_block (cs:=#[.int .i64 pl]) (t:=3) (fr:=(0,0)) (heap_alloc_new w5 _)) (by simp [Value.oneCell']) (by omega) (by unfold maxLen;omega) (by omega) (by rw [zap];have:=HM5.out.lt;omega) (w5.heap.size+1) (by simp) ?_;intro g cap7 w7 hO7 hgrow hat hlt7;have HT7:=Lib.hid ((HM5.out.far hgrow HM5.out.lt.2.2.2.1).trans HM5.out.tab);have HM8:=Lib.hid (HM5.out.app hgrow (by rw [HPN.out];exact hO7));obtain ⟨⟨p0,p1⟩,pf0,pf1⟩:=zaV HT7.out))
       all_goals (try go_wp2_with fail)
       all_goals go_roundw
       all_goals first
         | exact ⟨k+1,_,by first|rfl|(congr 1),hlt,Lib.hid (by rw [HRG.out];exact HM8.out)⟩
         | (simp [intOf];omega)
     · obtain rfl:k=M:=by omega
       have hcd:decide ((k:Int)+1<(k:Int)+1)=false:=decide_eq_false (by omega)
       have hcd2:decide ((k:Int)<(k:Int))=false:=decide_eq_false (by omega)
       have hcd3:decide (k<k)=false:=decide_eq_false (by omega)
       obtain ⟨⟨z0,z1⟩,y0,y1⟩:=zaV HM.out.res
       have HLR:=Lib.hid HM.out.lt
       have HOW:=Lib.hid HM.out.own
       go_wp2_with fail
       refine bodyPost_ret (zaa rfl _ _ r 74 _ (0,0) _ rfl (by exact zcV HM.out.res _ _) Tryz.underlying74 rfl (by exact zcs) _ rfl) rfl ?_
       rw [HE.out]
       refine ⟨sa,sc,by simp only [List.length_map,List.length_range];rfl,?_,fun x hx=>by have h1:=(HOW.out.lt x.block (by rw [hx];rfl)).1;have h2:=HLR.out;omega,(HM.out.bel.setCell (p:=⟨r,0,none⟩) HLR.out.1 _).setCell (p:=⟨r,1,none⟩) HLR.out.1 _⟩
       have ho:=zaO (w':=(wr.setCell ⟨r,0,none⟩ (.slice sa k sc)).setCell ⟨r,1,none⟩ (.int .i64 qn)) HOW.out (fun b hb=>by
         have h1:=(HOW.out.lt b hb).1
         have h2:=HLR.out
         rw [heap_setCell_other _ _ _ _ (show b≠r by omega),heap_setCell_other _ _ _ _ (show b≠r by omega)])
       simp only [List.length_map,List.length_range] at ho ⊢
       exact (Row.of_own ho).2
theorem lastAt_is (w b:List UInt8):∀k,k+w.length≤b.length→Lib.lastOcc b w (k+1)=(match zcZ w b k with|none=>(-1:Int)|some k=>(k:Int))
 | 0,h=>by
   have e:=Lib.RK.occAt_win b w 0 (by omega)
   unfold zcZ
   by_cases hw:(b.drop 0).take w.length=w
   · rw [if_pos hw,Lib.lastOcc_hit _ _ _ (by rw [e];exact beq_iff_eq.2 hw)];all_goals (try rfl)
   · rw [if_neg hw,Lib.lastOcc_miss _ _ _ (by rw [e];exact beq_eq_false_iff_ne.2 hw)];all_goals (try rfl)
 | k+1,h=>by
   have e:=Lib.RK.occAt_win b w (k+1) (by omega)
   unfold zcZ
   by_cases hw:(b.drop (k+1)).take w.length=w
   · rw [if_pos hw,Lib.lastOcc_hit _ _ _ (by rw [e];exact beq_iff_eq.2 hw)]
   · rw [if_neg hw,Lib.lastOcc_miss _ _ _ (by rw [e];exact beq_eq_false_iff_ne.2 hw)]
     exact lastAt_is w b k (by omega)
theorem lastW_is (w b:List UInt8):Lib.lastIndex b w=(match zcu w b with|none=>(-1:Int)|some k=>(k:Int)):=by
 unfold Lib.lastIndex zcu
 by_cases h:b.length<w.length
 · rw [if_neg (by omega),if_pos h]
 · rw [if_pos (by omega),if_neg h]
   exact lastAt_is w b _ (by omega)
theorem lastW_le {w b:List UInt8} {k:Nat} (h:zcu w b=some k):k+w.length≤b.length:=by
 unfold zcu at h
 split at h
 · cases h
 · have:∀m,zcZ w b m=some k→k≤m:=by
     intro m
     induction m with
     | zero=>intro h;unfold zcZ at h;split at h<;>simp at h;omega
     | succ m ih =>
       intro h
       unfold zcZ at h
       split at h
       · simp at h;omega
       · have:=ih h;omega
   have:=this _ h
   omega
end Go.Proofs.YtfafdeemfeaedaaGreat
namespace Go.Proofs.YtfafdeemfeaedaaGreat
open Go.RowKit Go.Lib
theorem szByte (w:World):(Go.sizeOf 5).run Tryz.prog w=.ok 1 w:=by kernel_rfl
theorem zfy (W:World) (b o len c l n:Nat) (hl:l+n=len) (hn:1≤n) (hc:len≤c) :
   (Instr.slice 22 (.slice (some ⟨b,o,none⟩) len c) (some (.int .i64 (l:Int))) none none).run Tryz.prog W=.ok (.slice (some ⟨b,o+l,none⟩) n (c-l)) W:=by
 have ht':Tryz.prog.underlying 22=some (.slice (Tryz.prog.elem 22)):=by simp [Program.elem,Tryz.underlying22]
 have he:Tryz.prog.elem 22=5:=by simp [Program.elem,Tryz.underlying22]
 rw [run_slice_l W 22 _ _ _ ht' .i64 _ (by omega) (by omega),he,szByte]
 have hne:¬c=l:=by omega
 subst hl
 by_cases h0:l=0
 · subst h0
   simp [Result.andThen,sliced,Addr.add,hne]
 · simp [Result.andThen,sliced,Addr.add,hne,h0]
theorem hashrev_any (b o c:Nat) (sep:ByteArray) (hs:sep.size<4294967281) (w:World) (hc0:Lib.Bytes w b o sep) :
   Calls Tryz.prog 135 #[.slice (some ⟨b,o,none⟩) sep.size c] w fun e w'=>e=.returned (.tuple #[.int .u32 (RK.H sep.data.toList.reverse % 4294967296),.int .u32 (16777619 ^ sep.size % 4294967296)])∧w'=w:=by
 have hc:=Lib.hid hc0
 clear hc0
 go_enter Tryz.func135,Tryz.ntmps135
 go_wp2
 go_loop [4,5] (fun vh vi=>∃(k:Nat) (z h:Int),k≤sep.size∧Hid (z+1=(k:Int))∧-1≤z∧z<4294967281∧vi=.int .i64 z∧vh=.int .u32 h∧Hid (h=RK.H (sep.data.toList.drop k).reverse % 4294967296)) (fun _ vi=>((RowKit.intOf vi)+1).toNat)
 case atStart=>exact ⟨sep.size,(sep.size:Int)-1,0,Nat.le_refl _,Lib.hid (by omega),by omega,by omega,rfl,rfl,Lib.hid (by show (0:Int)=_;rw [List.drop_of_length_le (by simp)];rfl)⟩
 case round =>
   obtain ⟨k,z,h,hk,hz,hz0,hz1,rfl,rfl,hh⟩:=hrel
   by_cases hp:0≤z
   · obtain ⟨j,rfl⟩:∃j:Nat,z=(j:Int):=⟨z.toNat,by omega⟩
     have hzo:=hz.out
     obtain rfl:k=j+1:=by omega
     have hj:j<sep.size:=by omega
     have ck:=hc.out j hj
     have HS:=Lib.hid (LastIndex.hashrev_step sep (j+1) (by omega) hk hh.out)
     clear hzo hz hh
     go_wp2
     go_round
     case rel=>exact ⟨j,(j:Int)-1,_,by omega,Lib.hid (by omega),by omega,by omega,rfl,rfl,HS⟩
     case measure=>simp [RowKit.intOf]<;>omega
   · have hzo:=hz.out
     obtain rfl:z=-1:=by omega
     obtain rfl:k=0:=by omega
     clear hzo hz
     go_wp2
     go_loop [6,7,8] (fun vp vq vi=>∃(i:Nat) (pw sq:Int),vi=.int .i64 i∧vp=.int .u32 pw∧vq=.int .u32 sq∧0≤pw∧pw<4294967296∧i≤sep.size∧Hid (RK.PowInv sep.size i pw sq)) (fun _ _ vi=>(RowKit.intOf vi).toNat)
     case atStart=>exact ⟨sep.size,1,16777619,rfl,rfl,rfl,by omega,by omega,Nat.le_refl _,RK.pow_start _⟩
     case round =>
       obtain ⟨i,pw,sq,rfl,rfl,rfl,p0,p1,hi,hinv⟩:=hrel
       have ea:=and_one i (by omega)
       go_wp2
       · have ht:((i:Int) % 2 != 0)=true:=by assumption
         have ho:i % 2=1:=by simp at ht;omega
         go_round
         case rel=>exact ⟨i / 2,_,_,by first|go_num|(congr 1;omega),rfl,rfl,by omega,by omega,by omega,RK.pow_odd hinv.out ho⟩
         case measure=>simp [RowKit.intOf];omega
       · have ht:((i:Int) % 2 != 0)=false:=by assumption
         have he:i % 2=0:=by simp at ht;omega
         go_round
         case rel=>exact ⟨i / 2,_,_,by first|go_num|(congr 1;omega),rfl,rfl,p0,p1,by omega,RK.pow_even hinv.out he⟩
         case measure=>simp [RowKit.intOf];omega
       · have hi0:i=0:=by omega
         subst hi0
         have e1:h=RK.H sep.data.toList.reverse % 4294967296:=by
           have:=hh.out
           rwa [List.drop_zero] at this
         have e2:=RK.pow_end hinv.out p0 p1
         go_ret2
         rw [←e1,←e2]
         exact ⟨rfl,rfl⟩
def occB (s sep:ByteArray) (j:Nat):Bool:=occAt s.data.toList sep.data.toList j
theorem occB_is (s sep:ByteArray) (j:Nat) (hj:j+sep.size≤s.size):((s.extract j (j+sep.size)).toList==sep.toList)=occB s sep j:=by
 cases h:((s.extract j (j+sep.size)).toList==sep.toList) with
 | true=>exact (occ_yes s sep j hj h).symm
 | false=>exact (occ_no s sep j hj h).symm
set_option maxRecDepth 100000 in
set_option maxHeartbeats 16000000 in
theorem lastrk_any (b1 o1 c1 b2 o2 c2:Nat) (s sep:ByteArray) (h1:1≤sep.size) (h2:sep.size≤s.size) (hs:s.size<4294967281) (w:World) (hc1:Lib.Bytes w b1 o1 s) (hc2:Lib.Bytes w b2 o2 sep) (hcap:s.size≤c1) :
   Calls Tryz.prog 94 #[.slice (some ⟨b1,o1,none⟩) s.size c1,.slice (some ⟨b2,o2,none⟩) sep.size c2] w fun e w'=>e=.returned (.int .i64 (Lib.lastIndex s.data.toList sep.data.toList))∧∃q,w'=w.drewN q:=by
 obtain ⟨hh,Hh⟩:∃hh:Int,hh=RK.H sep.data.toList.reverse % 4294967296:=⟨_,rfl⟩
 obtain ⟨pw,Hp⟩:∃pw:Int,pw=16777619 ^ sep.size % 4294967296:=⟨_,rfl⟩
 have hc:=Lib.hid (show Calls Tryz.prog 135 #[.slice (some ⟨b2,o2,none⟩) sep.size c2] w fun e w'=>e=.returned (.tuple #[.int .u32 hh,.int .u32 pw])∧w'=w by rw [Hh,Hp];exact hashrev_any b2 o2 c2 sep (by omega) w hc2)
 have HH:=Lib.hid Hh
 have HP:=Lib.hid Hp
 clear Hh Hp
 obtain ⟨last,hlast⟩:∃last:Nat,last+sep.size=s.size:=⟨s.size-sep.size,by omega⟩
 have elast:(s.size:Int)-sep.size=last:=by omega
 have HL:=Lib.hid (show Lib.lastIndex s.data.toList sep.data.toList=Lib.lastOcc s.data.toList sep.data.toList (last+1) by
   unfold Lib.lastIndex
   rw [if_pos (by simp;omega)]
   congr 1
   simp;omega)
 have hvs:=Lib.hid (fun n=>Lib.run_convert_whole (P:=Tryz.prog) (w.drewN n) 22 5 9 Tryz.underlying22 Tryz.underlying5 Tryz.underlying9 b2 o2 sep (Lib.Bytes.drewN hc2 n) c2)
 have hvw:=Lib.hid (fun n j cap (hj:j+sep.size≤s.size)=>Lib.run_convert_window (P:=Tryz.prog) (w.drewN n) 22 5 9 Tryz.underlying22 Tryz.underlying5 Tryz.underlying9 b1 o1 s (Lib.Bytes.drewN hc1 n) j sep.size cap hj)
 have C1:=Lib.hid hc1
 clear hc1 hc2
 go_enter Tryz.func94,Tryz.ntmps94
 go_wp2_with fail
 refine hc.out.mono ?_
 rintro e w' ⟨rfl,hw'⟩
 have hw2:=hw'.symm
 subst hw2
 clear hw'
 go_wp2_with fail
 go_loopg [9,10] (s.size+1) (fun gh vh vi wr=>∃(k:Nat) (z h:Int),last≤k∧k≤s.size∧Hid (z+1=(k:Int))∧Hid (k+1≤gh)∧-1≤z∧z<4294967281∧vi=.int .i64 z∧vh=.int .u32 h∧wr=w∧Hid (h=RK.H (s.data.toList.drop k).reverse % 4294967296))
 case atStart=>exact ⟨s.size,(s.size:Int)-1,0,by omega,Nat.le_refl _,Lib.hid (by omega),Lib.hid (Nat.le_refl _),by omega,by omega,rfl,rfl,rfl,Lib.hid (by show (0:Int)=_;rw [List.drop_of_length_le (by simp)];rfl)⟩
 case round =>
   obtain ⟨k,z,h,hk1,hk,hz,hgh,hz0,hz1,rfl,rfl,hwr,hk2⟩:=hrel
   have hw2:=hwr.symm
   subst hw2
   clear hwr
   by_cases hp:(last:Int)≤z
   · obtain ⟨j,rfl⟩:∃j:Nat,z=(j:Int):=⟨z.toNat,by omega⟩
     have hzo:=hz.out
     obtain rfl:k=j+1:=by omega
     have hj:j<s.size:=by omega
     have hjl:last≤j:=by omega
     have ck:=C1.out j hj
     have HS:=Lib.hid (LastIndex.hashrev_step s (j+1) (by omega) hk hk2.out)
     clear hzo hz hk2
     go_wp2
     go_roundg (j+1)
     case measure=>have:=hgh.out;omega
     case rel=>exact ⟨j,(j:Int)-1,_,hjl,by omega,Lib.hid (by omega),Lib.hid (Nat.le_refl _),by omega,by omega,rfl,rfl,rfl,HS⟩
   · have hzo:=hz.out
     obtain rfl:k=last:=by omega
     obtain rfl:z=(k:Int)-1:=by omega
     have HW:=Lib.hid (show h=RK.H (RK.win s.data.toList k sep.size).reverse % 4294967296 by
       have:=hk2.out
       rwa [show s.data.toList.drop k=RK.win s.data.toList k sep.size from (List.take_of_length_le (by simp;omega)).symm] at this)
     have hv0:=fun n cap=>hvw.out n k cap (by omega)
     have hvs2:=hvs.out
     have hsl:=fun W=>zfy W b1 o1 s.size c1 k sep.size hlast h1 hcap
     clear hzo hz hk2 hgh
     go_upto_region 9 with fail
     go_cut [50] from 12 (fun v wx=>∃(q:Nat) (B:Bool),v=.bool B∧wx=w.drewN q∧Hid (B=occB s sep k))
     case first =>
       by_cases ehh:h=hh
       · subst ehh
         go_wp2_with fail
         go_quiet (fail)
         go_wp2
         go_meet
         exact ⟨_,_,rfl,rfl,Lib.hid (by have:=occB_is s sep k (by omega);rwa [hlast] at this)⟩
       · have hb:(h==hh)=false:=beq_eq_false_iff_ne.2 ehh
         have HO:=Lib.hid (LastIndex.occ_no_hashrev s sep k (by omega) HW.out HH.out ehh)
         clear ehh
         go_wp2_with fail
         go_quiet (fail)
         go_wp2
         go_meet
         exact ⟨_,_,rfl,rfl,Lib.hid HO.out.symm⟩
     case rest =>
       obtain ⟨q0,B,rfl,rfl,HB⟩:=hcut
       clear hv0 hvs2 hsl
       cases B
       case true =>
         have HE:=Lib.hid (show Lib.lastIndex s.data.toList sep.data.toList=(k:Int) by rw [HL.out,Lib.lastOcc_hit _ _ k HB.out.symm])
         go_wp2_with fail
         go_ret
         rw [HE.out]
         exact ⟨rfl,_,rfl⟩
       have HL2:=Lib.hid (show Lib.lastIndex s.data.toList sep.data.toList=Lib.lastOcc s.data.toList sep.data.toList k by rw [HL.out,Lib.lastOcc_miss _ _ k HB.out.symm])
       clear HL HB
       go_wp2_with fail
       go_loopg [9,11] (k+1) (fun gh vh vi wr=>∃(j:Nat) (z g:Int) (q:Nat),j≤k∧Hid (z+1=(j:Int))∧Hid (j+1≤gh)∧-1≤z∧z<4294967281∧vi=.int .i64 z∧vh=.int .u32 g∧wr=w.drewN q∧Hid (g=RK.H (RK.win s.data.toList j sep.size).reverse % 4294967296)∧Hid (Lib.lastIndex s.data.toList sep.data.toList=Lib.lastOcc s.data.toList sep.data.toList j))
       case atStart=>exact ⟨k,(k:Int)-1,h,q0,Nat.le_refl _,Lib.hid (by omega),Lib.hid (Nat.le_refl _),by omega,by omega,rfl,rfl,rfl,HW,HL2⟩
       case round =>
         obtain ⟨j,z,g,q,hj,hz,hgh,hz2,hz3,rfl,rfl,rfl,hg,hl⟩:=hrel
         by_cases hp2:0≤z
         · obtain ⟨i,rfl⟩:∃i:Nat,z=(i:Int):=⟨z.toNat,by omega⟩
           have hzo:=hz.out
           obtain rfl:j=i+1:=by omega
           have ck1:=C1.out i (by omega)
           have ck2:=C1.out (i+sep.size) (by omega)
           have HR:=Lib.hid (LastIndex.rollrev_step s sep.size i h1 (by omega) hg.out HP.out)
           have hv0:=fun n cap=>hvw.out n i cap (by omega)
           have hvs2:=hvs.out
           have hin:(i:Int)+(sep.size:Int)=((i+sep.size:Nat):Int):=by omega
           have hsl:∀W,(Instr.slice 22 (.slice (some ⟨b1,o1,none⟩) s.size c1) (some (.int .i64 (i:Int))) (some (.int .i64 ((i:Int)+(sep.size:Int)))) none).run Tryz.prog W=.ok (.slice (some ⟨b1,o1+i,none⟩) sep.size (c1-i)) W:=fun W=>by
             rw [hin,Lib.run_slice_window W 22 5 Tryz.underlying22 szByte b1 o1 s.size c1 i (i+sep.size) (by omega) (by omega),show i+sep.size-i=sep.size by omega]
           have hk3:i+1+sep.size≤s.size:=by omega
           clear hzo hz hg hin
           go_upto_region 17 with fail
           obtain ⟨G2,hG2⟩:∃G2:Int,G2=((g * 16777619+(s[i].toNat:Int)) % 4294967296-pw * ((s[i+sep.size].toNat:Int) % 4294967296) % 4294967296) % 4294967296:=⟨_,rfl⟩
           rw [←hG2]
           have HG2:=Lib.hid (show G2=RK.H (RK.win s.data.toList i sep.size).reverse % 4294967296 by rw [hG2];have:=HR.out;omega)
           clear hG2 HR ck1 ck2
           go_cut [92] from 54 to 93 (fun v wx=>∃(q2:Nat) (B:Bool),v=.bool B∧wx=w.drewN q2∧Hid (B=occB s sep i))
           case first =>
             by_cases ehh:G2=hh
             · subst ehh
               go_wp2_with fail
               go_quiet (fail)
               go_wp2
               go_meet
               exact ⟨_,_,rfl,by rw [World.drewN_drewN],Lib.hid (occB_is s sep i (by omega))⟩
             · have hb:(G2==hh)=false:=beq_eq_false_iff_ne.2 ehh
               have HO:=Lib.hid (LastIndex.occ_no_hashrev s sep i (by omega) HG2.out HH.out ehh)
               clear ehh
               go_wp2_with fail
               go_quiet (fail)
               go_wp2
               go_meet
               exact ⟨_,_,rfl,by rw [World.drewN_drewN],Lib.hid HO.out.symm⟩
           case rest =>
             obtain ⟨q2,B,rfl,rfl,HB⟩:=hcut
             clear hv0 hvs2 hsl
             cases B
             case true =>
               have HE:=Lib.hid (show Lib.lastIndex s.data.toList sep.data.toList=(i:Int) by rw [hl.out,Lib.lastOcc_hit _ _ i HB.out.symm])
               go_wp2_with fail
               go_ret
               rw [HE.out]
               exact ⟨rfl,_,rfl⟩
             have HL3:=Lib.hid (show Lib.lastIndex s.data.toList sep.data.toList=Lib.lastOcc s.data.toList sep.data.toList i by rw [hl.out,Lib.lastOcc_miss _ _ i HB.out.symm])
             clear hl HB
             go_wp2_with fail
             go_roundg (i+1)
             case measure=>have:=hgh.out;omega
             case rel=>exact ⟨i,(i:Int)-1,G2,q2,by omega,Lib.hid (by omega),Lib.hid (Nat.le_refl _),by omega,by omega,rfl,rfl,rfl,HG2,HL3⟩
         · have hzo:=hz.out
           obtain rfl:j=0:=by omega
           obtain rfl:z=-1:=by omega
           have HE:=Lib.hid (show Lib.lastIndex s.data.toList sep.data.toList=-1 from hl.out)
           clear hzo hz
           go_wp2_with fail
           go_ret
           rw [HE.out]
           exact ⟨rfl,_,rfl⟩
end Go.Proofs.YtfafdeemfeaedaaGreat
namespace Go.Proofs.YtfafdeemfeaedaaGreat
open Go.RowKit
theorem zfO {w:World} {b o cap:Nat} {bs:List UInt8} (h:Row w 1 (some ⟨b,o,none⟩) bs.length cap (bs.map u8C)):Lib.Bytes w b o (mkB bs):=by
 intro i hi
 have hl:i<bs.length:=by rw [zbO] at hi;exact hi
 obtain ⟨b',o',e,-,hc⟩:=h.2.2.2.2 (by omega)
 cases e
 exact hc i _ (by rw [List.getElem?_map,List.getElem?_eq_getElem hl];rfl)
theorem lastW_gt {w b:List UInt8} (h:b.length<w.length):zcu w b=none:=by unfold zcu;rw [if_pos h]
theorem lastW_eq {w b:List UInt8} (h:w.length=b.length):zcu w b=if b=w then some 0 else none:=by
 unfold zcu
 rw [if_neg (by omega),h,Nat.sub_self]
 unfold zcZ
 rw [List.drop_zero,h,List.take_of_length_le (Nat.le_refl _)]
theorem bequal_any {w:World} {a a2:Option Addr} {cap c2:Nat} {bs sep:List UInt8} (hr:Row w 1 a bs.length cap (bs.map u8C)) (hs:Row w 1 a2 sep.length c2 (sep.map u8C)) :
   Calls Tryz.prog 93 #[.slice a bs.length cap,.slice a2 sep.length c2] w fun e w'=>e=.returned (.bool (decide (bs=sep)))∧w=w':=by
 have h1:=zdo hr
 have h2:=zdo hs
 have hq:((mkB bs).toList==(mkB sep).toList)=decide (bs=sep):=by rw [zbn sep];exact zdB bs sep
 clear hr hs
 generalize mkB bs=x at *
 generalize mkB sep=y at *
 generalize decide (bs=sep)=d at *
 go_enter Tryz.func93,Tryz.ntmps93
 go_wp2
 go_ret
 exact ⟨rfl,rfl⟩
theorem zgz {w:World} {a a2:Option Addr} {cap c2:Nat} {bs sep:List UInt8} (hr:Row w 1 a bs.length cap (bs.map u8C)) (hs:Row w 1 a2 sep.length c2 (sep.map u8C)) (hl:bs.length<4000000000) (hn:2≤sep.length) (hn2:sep.length≤1000) :
   Calls Tryz.prog 56 #[.slice a bs.length cap,.slice a2 sep.length c2] w fun e w'=>e=.returned (.int .i64 (zcY (zcu sep bs)))∧Below w.heap.size w w':=by
 have n0:((sep.length:Int)==0)=false:=by rw [beq_eq_false_iff_ne];omega
 have n1:((sep.length:Int)==1)=false:=by rw [beq_eq_false_iff_ne];omega
 obtain ⟨V,hV⟩:∃V,V=zcu sep bs:=⟨_,rfl⟩
 rw [←hV]
 by_cases h1:sep.length=bs.length
 · have HE:=Lib.hid (bequal_any hr hs)
   have q1:((sep.length:Int)==(bs.length:Int))=true:=by rw [beq_iff_eq];omega
   have q2:(sep.length==bs.length)=true:=by rw [beq_iff_eq];exact h1
   rw [lastW_eq h1] at hV
   obtain ⟨d,hd⟩:∃d,d=decide (bs=sep):=⟨_,rfl⟩
   rw [←hd] at HE
   have HV:=Lib.hid (show V=if d=true then some 0 else none by rw [hV,hd];by_cases h:bs=sep<;>simp [h])
   clear hV hd hr hs h1
   generalize bs.length=N at *
   generalize sep.length=M at *
   cases d
   all_goals
     go_enter Tryz.func56,Tryz.ntmps56
     go_wp2_with (go_at_call 93;refine HE.out.mono ?_;rintro e w' ⟨rfl,rfl⟩)
     go_ret
     exact ⟨by rw [HV.out];rfl,Below.refl _ _⟩
 have q1:((sep.length:Int)==(bs.length:Int))=false:=by rw [beq_eq_false_iff_ne];omega
 have q2:(sep.length==bs.length)=false:=by rw [beq_eq_false_iff_ne];exact h1
 by_cases h2:bs.length<sep.length
 · have d1:decide ((bs.length:Int)<(sep.length:Int))=true:=decide_eq_true (by omega)
   have d2:decide (bs.length<sep.length)=true:=decide_eq_true h2
   rw [lastW_gt h2] at hV
   have HV:=Lib.hid hV
   clear hV hr hs h1 h2
   generalize bs.length=N at *
   generalize sep.length=M at *
   go_enter Tryz.func56,Tryz.ntmps56
   go_wp2
   go_ret
   exact ⟨by rw [HV.out];rfl,Below.refl _ _⟩
 have d1:decide ((bs.length:Int)<(sep.length:Int))=false:=decide_eq_false (by omega)
 have d2:decide (bs.length<sep.length)=false:=decide_eq_false h2
 obtain ⟨b,o,rfl,-,-⟩:=hr.at 0 0 (by omega)
 obtain ⟨b2,o2,rfl,-,-⟩:=hs.at 0 0 (by omega)
 have HK:=Lib.hid (lastrk_any b o cap b2 o2 c2 (mkB bs) (mkB sep) (by rw [zbO];omega) (by rw [zbO,zbO];omega) (by rw [zbO];omega) w (zfO hr) (zfO hs) (by rw [zbO];exact hr.2.1))
 have hlk:Lib.lastIndex bs sep=zcY (zcu sep bs):=by rw [lastW_is];cases zcu sep bs<;>rfl
 rw [zbO,zbO,show (mkB bs).data.toList=bs from rfl,show (mkB sep).data.toList=sep from rfl,hlk,←hV] at HK
 clear hlk
 clear hV hr hs h1 h2
 generalize bs.length=N at *
 generalize sep.length=M at *
 go_enter Tryz.func56,Tryz.ntmps56
 go_wp2_with (go_at_call 94;refine HK.out.mono ?_;rintro e w' ⟨rfl,q,rfl⟩)
 go_ret
 exact ⟨rfl,zae (Below.refl _ _) q⟩
def startN (L:Nat) (S:Tk×Int×Int×Int):Int×Int×Int:=if S.2.2.2≠0∨S.1.vn<0∨(L:Int)≤S.1.vn then (0,0,22) else (S.1.vn,0,0)
theorem start_one (L:Nat) (V:Tk×Int×Int×Int):(if V.2.2.2≠0∨zaE V.1=false∨V.1.vn<0∨(L:Int)≤V.1.vn then ((0:Int),(0:Int),(22:Int)) else (V.1.vn,0,0))=startN L (oneW zaE V):=by
 unfold startN oneW
 by_cases he:V.2.2.2≠0
 · rw [if_pos (.inl he),if_pos he,if_pos (.inl he)]
 rw [if_neg he]
 by_cases hk:V.1.kind=0
 · have hw:zaE V.1=false:=by unfold zaE;rw [hk];rfl
   rw [if_pos (.inr (.inl hw)),if_pos hk,if_pos (.inl (by decide))]
 rw [if_neg hk]
 by_cases hw:zaE V.1=false
 · rw [if_pos (.inr (.inl hw)),if_pos hw,if_pos (.inl (by decide))]
 rw [if_neg hw]
 by_cases hr:V.1.vn<0∨(L:Int)≤V.1.vn
 · rw [if_pos (.inr (.inr hr)),if_pos (.inr hr)]
 · rw [if_neg (by rintro (h|h|h);exact he h;exact hw h;exact hr h),if_neg (by rintro (h|h);exact h rfl;exact hr h)]
theorem zeC {bs:List UInt8} {kn:List Bool} (h:zaR kn (bs.length-64)<bs.length):zbh bs kn=(0,((zaR kn (bs.length-64):Nat):Int),6):=by unfold zbh;rw [if_pos h]
theorem ze5 {bs:List UInt8} {kn:List Bool} (h:¬zaR kn (bs.length-64)<bs.length) (hk:zcu zbp (bs.drop (bs.length-64))=none):zbh bs kn=(0,0,22):=by unfold zbh;rw [if_neg h,hk]
theorem zeF {bs:List UInt8} {kn:List Bool} (h:¬zaR kn (bs.length-64)<bs.length) {k:Nat} (hk:zcu zbp (bs.drop (bs.length-64))=some k):zbh bs kn=startN bs.length (oneW zaE (zah (bs.drop (bs.length-64)) ((k:Int)+9) true)):=by
 rw [←start_one];unfold zbh;rw [if_neg h,hk]
def zgb (w:World) (V:Int×Int×Int) (e:Ending) (w':World):Prop:=e=.returned (.tuple #[.int .i64 V.1,.int .i64 V.2.1,.int .i64 V.2.2])∧Below w.heap.size w w'
theorem zeI {w:World} {p:Nat} {bs:List UInt8} {kn:List Bool} (h:SrcI w p bs kn) (hl:bs.length≤390000) :
   Calls Tryz.prog 20 #[.pointer (some ⟨p,0,none⟩)] w (zgb w (zbh bs kn)):=by
 obtain ⟨fr,hfr⟩:∃fr,fr=bs.length-64:=⟨_,rfl⟩
 have HT:=Lib.hid h.total
 have HF:=Lib.hid (fun W hb=>h.first W hb fr (by omega))
 have HR:=Lib.hid (fun W hb=>h.read W hb fr 64 (by omega) (by omega) (by omega))
 have hmx:max (0:Int) ((bs.length:Int)-64)=(fr:Int):=by omega
 obtain ⟨n1,n2⟩:=zdC (kn:=kn) (a:=fr) (by have:=h.len;omega)
 rw [h.len] at n2
 have HS1:=Lib.hid (fun h=>zeC (bs:=bs) (kn:=kn) h)
 have HS2:=Lib.hid (fun h hk=>ze5 (bs:=bs) (kn:=kn) h hk)
 have HS3:=Lib.hid (fun k h hk=>zeF (bs:=bs) (kn:=kn) h (k:=k) hk)
 rw [←hfr] at HS1 HS2 HS3
 have HFR:=Lib.hid hfr
 obtain ⟨V,hV⟩:∃V,V=zbh bs kn:=⟨_,rfl⟩
 rw [←hV] at HS1 HS2 HS3 ⊢
 have hcv:=fun (W:World) (C:Array Value) (n c:Nat)=>Lib.run_convert_bytes_const (P:=Tryz.prog) W 22 5 C n c Tryz.underlying22 Tryz.underlying5
 unfold FromEnd at HR
 generalize zaR kn fr=n at *
 clear h hV hfr
 have HT0:=Lib.hid (HT.out _ (Below.refl _ _))
 have HR0:=Lib.hid (HR.out _ (Below.refl _ _))
 go_enter Tryz.func20,Tryz.ntmps20
 go_wp2_with fail
 refine HT0.out.mono ?_
 rintro e w1 ⟨rfl,rfl⟩
 go_wp2_with fail
 refine HR0.out.mono ?_
 rintro e w2 ⟨ba,bc,rfl,hrow,hb2⟩
 have HB2:=Lib.hid hb2
 clear hb2 HT0 HR0 HR
 by_cases hn:n=bs.length
 case neg =>
   have hq:(n==bs.length)=false:=by rw [beq_eq_false_iff_ne];exact hn
   have HE:=Lib.hid (HS1.out (by omega))
   have HF2:=Lib.hid (HF.out _ HB2.out)
   clear HS1 HS2 HS3 HF HT hrow hcv hn
   rw [hq]
   generalize (List.take (n-fr) (List.drop fr bs)).length=L at *
   go_wp2_with fail
   refine HF2.out.mono ?_
   rintro e w3 ⟨rfl,hb3⟩
   have HB3:=Lib.hid (HB2.out.trans (hb3.mono HB2.out.size))
   clear hb3
   go_wp2
   go_ret3
   rw [HE.out]
   exact ⟨rfl,HB3.out⟩
 have HNN:=Lib.hid (show ¬n<bs.length by omega)
 have HCS:=Lib.hid (show (bs.drop fr).take (n-fr)=bs.drop fr by rw [List.take_of_length_le (by rw [List.length_drop];omega)])
 rw [HCS.out] at hrow
 rw [HCS.out,show (n==bs.length)=true by rw [beq_iff_eq];exact hn]
 have HDL:=Lib.hid (show (bs.drop fr).length≤390000 by rw [List.length_drop];omega)
 have HDE:=Lib.hid (List.length_drop (i:=fr) (l:=bs))
 clear HCS hn HF HS1
 generalize bs.drop fr=cs at *
 have HRW:=Lib.hid hrow
 have HLI:=Lib.hid (zgz (w:=w2.alloc (.cells (zbp.map u8C).toArray 5 (zbp.length,zbp.length+1))) (hrow.mono (zak _ _)) (row_bsX (w:=w2) zbp 5 (by decide)) (by have:=HDL.out;omega) (by decide) (by decide))
 have HB3:=Lib.hid (HB2.out.alloc HB2.out.size (.cells (zbp.map u8C).toArray 5 (zbp.length,zbp.length+1)))
 have HA3:=Lib.hid (zak w2 (.cells (zbp.map u8C).toArray 5 (zbp.length,zbp.length+1)))
 clear hrow
 go_wp2_with fail
 refine HLI.out.mono ?_
 rintro e w3 ⟨rfl,hb3⟩
 have HB4:=Lib.hid (HB3.out.trans (hb3.mono HB3.out.size))
 have HX4:=Lib.hid (HA3.out.trans (hb3.mono HA3.out.size))
 clear hb3 HB3 HA3 HLI hcv
 cases hlw:zcu zbp cs with
 | none =>
   have HE:=Lib.hid (HS2.out HNN.out hlw)
   clear HS2 HS3 hlw
   unfold zcY
   go_wp2
   go_ret3
   rw [HE.out]
   exact ⟨rfl,HB4.out⟩
 | some k =>
   have HE:=Lib.hid (HS3.out k HNN.out hlw)
   have hkl:=lastW_le hlw
   have hd0:decide ((k:Int)<0)=false:=decide_eq_false (by omega)
   have hk9:k≤390000:=by have:=HDL.out;omega
   have HN:=Lib.hid (pnumber_any (HRW.out.mono HX4.out) (by have:=HDL.out;omega) ((k:Int)+9) true)
   have HT4:=Lib.hid (fun (W:World) (hb:Below w3.heap.size w3 W)=>HT.out W (HB4.out.trans (hb.mono HB4.out.size)))
   generalize oneW zaE (zah cs ((k:Int)+9) true)=S at *
   clear HS2 HS3 hlw HT hkl HRW
   obtain ⟨x,f,t,er⟩:=S
   unfold zdc at HN
   unfold startN at HE
   simp only at HN HE
   unfold zcY
   simp only
   generalize x.vn=xn at *
   go_wp2_with fail
   refine HN.out.mono ?_
   rintro e w5 ⟨rfl,hb5⟩
   have HB5:=Lib.hid (HB4.out.trans (hb5.mono HB4.out.size))
   have HT5:=Lib.hid (HT4.out w5 hb5)
   clear hb5 HT4 HN
   by_cases he:er=0
   case neg =>
     have HE2:=Lib.hid (HE.out.trans (if_pos (.inl he)))
     have e0:(er==0)=false:=by rw [beq_eq_false_iff_ne];exact he
     have e1:(er != 0)=true:=by simp only [bne,e0,Bool.not_false]
     clear HE he
     go_wp2
     go_ret3
     rw [HE2.out]
     exact ⟨rfl,HB5.out⟩
   subst he
   by_cases h1:xn<0
   · have HE2:=Lib.hid (HE.out.trans (if_pos (.inr (.inl h1))))
     have d1:decide (xn<0)=true:=decide_eq_true h1
     clear HE h1
     go_wp2
     go_ret3
     rw [HE2.out]
     exact ⟨rfl,HB5.out⟩
   have d1:decide (xn<0)=false:=decide_eq_false h1
   by_cases h2:(bs.length:Int)≤xn
   · have HE2:=Lib.hid (HE.out.trans (if_pos (.inr (.inr h2))))
     have d2:decide ((bs.length:Int)≤xn)=true:=decide_eq_true h2
     clear HE h2 h1
     go_wp2_with (go_at_call 54;refine HT5.out.mono ?_;rintro e w6 ⟨rfl,rfl⟩)
     go_ret3
     rw [HE2.out]
     exact ⟨rfl,HB5.out⟩
   have d2:decide ((bs.length:Int)≤xn)=false:=decide_eq_false h2
   have HE2:=Lib.hid (HE.out.trans (if_neg (by rintro (h|h|h);exact h rfl;exact h1 h;exact h2 h)))
   clear HE h1 h2
   go_wp2_with (go_at_call 54;refine HT5.out.mono ?_;rintro e w6 ⟨rfl,rfl⟩)
   go_ret3
   rw [HE2.out]
   exact ⟨rfl,HB5.out⟩
end Go.Proofs.YtfafdeemfeaedaaGreat
