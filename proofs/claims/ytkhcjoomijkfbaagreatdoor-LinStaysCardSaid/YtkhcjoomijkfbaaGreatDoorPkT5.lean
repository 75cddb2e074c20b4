/-
  Our texts Lex8 to LexH, in one.
-/
import Derived.Test.YtkhcjoomijkfbaaGreatDoorPkT4
import Derived.Laws.IdiomStrings
import Derived.Deep.LoopGhost
import Derived.Lib.BytesEntry
import Derived.PlainAid
set_option maxRecDepth 8000
set_option maxHeartbeats 8000000
namespace Go.Proofs.YtkhcjoomijkfbaaGreatDoor
open Go.RowKit
def HexEnd (w:World) (S:Nat→Prop) (p:Nat) (X:Src) (V:Int×List UInt8×List UInt8) (e:Ending) (w':World):Prop :=
 Keeps S w w'∧((V.1=1∧e=.returned (.tuple #[.agg (valC 0 0 zbU),.int .i64 (zbb X.last)]))∨(V.1=11∧e=.returned (.tuple #[.agg (valC 0 0 zbU),.int .i64 11])) ∨
   (V.1=0∧e=.returned (.tuple #[.agg (valC 4 0 (mkB V.2.1)),.int .i64 0])∧V.2.2.length≤X.bs.length∧w'.cell? ⟨p,3,none⟩=some (.int .i64 ((X.bs.length-V.2.2.length:Nat):Int))))
theorem hex_some {w w':World} {S:Nat→Prop} {p:Nat} {X:Src} {V:Int×List UInt8×List UInt8} {x t:List UInt8} (hV:V=(0,x,t)) (hk:Keeps S w w') (ht:t.length≤X.bs.length)
   (hc:w'.cell? ⟨p,3,none⟩=some (.int .i64 ((X.bs.length-t.length:Nat):Int))):HexEnd w S p X V (.returned (.tuple #[.agg (valC 4 0 (mkB x)),.int .i64 0])) w':=by
 subst hV;exact ⟨hk,.inr (.inr ⟨rfl,rfl,ht,hc⟩)⟩
theorem hex_open {w w':World} {S:Nat→Prop} {p:Nat} {X:Src} {V:Int×List UInt8×List UInt8} (hV:V=(1,[],[])) (hk:Keeps S w w'):HexEnd w S p X V (.returned (.tuple #[.agg (valC 0 0 zbU),.int .i64 (zbb X.last)])) w':=by
 subst hV;exact ⟨hk,.inl ⟨rfl,rfl⟩⟩
theorem hex_form {w w':World} {S:Nat→Prop} {p:Nat} {X:Src} {V:Int×List UInt8×List UInt8} (hV:V=(11,[],[])) (hk:Keeps S w w'):HexEnd w S p X V (.returned (.tuple #[.agg (valC 0 0 zbU),.int .i64 11])) w':=by
 subst hV;exact ⟨hk,.inr (.inl ⟨rfl,rfl⟩)⟩
structure HexAt (W0:World) (S:Nat→Prop) (p:Nat) (X:Src) (V:Int×List UInt8×List UInt8) (hf:Int) (k:Nat) (out:List UInt8) (w':World):Prop where
 h1:-1≤hf∧hf≤15
 o:out.length<k
 le:k≤X.bs.length
 sc:zaj W0 S p X out k w'
 v:V=hexV out hf (X.bs.drop k)
def HexI (W0:World) (S:Nat→Prop) (p:Nat) (X:Src) (V:Int×List UInt8×List UInt8) (r:Nat) (m:Nat) (a:Act) (w':World):Prop :=
 ∃(hf:Int) (k:Nat) (out:List UInt8) (u5 u6 u7 u8 u9 u10 u11 u12 u13 u14 u15 u16 u17 u18 u19 u20 u21 u22 u23 u24 u25 u26 u27 u28 u29 u30 u31 u32 u33 u34 u35 u36 u37 u38 u39 u40 u41 u42 u43 u44 u45 u46 u47 u48 u49 u50 u51 u52 u53 u54 u55 u56 u57 u58 u59 u60 u61 u62 u63 u64 u65 u66 u67 u68 u69 u70 u71 u72 u73:Value),m=X.bs.length-k∧Hid (HexAt W0 S p X V hf k out w')∧a={ tmps:=#[.pointer (some ⟨p,0,none⟩),undef,.pointer (some ⟨r,0,none⟩),.int .i64 0,.int .i64 hf,u5,u6,u7,u8,u9,u10,u11,u12,u13,u14,u15,u16,u17,u18,u19,u20,u21,u22,u23,u24,u25,u26,u27,u28,u29,u30,u31,u32,u33,u34,u35,u36,u37,u38,u39,u40,u41,u42,u43,u44,u45,u46,u47,u48,u49,u50,u51,u52,u53,u54,u55,u56,u57,u58,u59,u60,u61,u62,u63,u64,u65,u66,u67,u68,u69,u70,u71,u72,u73],defers:=[] }
theorem byte_of (x:Int) (h0:0≤x) (h1:x≤255):x=((UInt8.ofNat x.toNat).toNat:Int):=by rw [UInt8.toNat_ofNat'];omega
set_option maxHeartbeats 16000000 in
theorem hexes_any {w:World} {S:Nat→Prop} {p:Nat} {X:Src} {k:Nat} (h:ScQ w S p X [] k) (hk:1≤k) :
   Calls Tryz.prog 170 #[.pointer (some ⟨p,0,none⟩)] w (HexEnd w S p X (hexV [] (-1) (X.bs.drop k))):=by
 obtain ⟨V,hV⟩:∃V,V=hexV [] (-1) (X.bs.drop k):=⟨_,rfl⟩
 rw [←hV]
 obtain ⟨r,hr⟩:∃r,r=w.heap.size:=⟨_,rfl⟩
 have hsm:X.bs.length≤400000:=by obtain ⟨_,_,h⟩:=h;exact h.small
 have hSr:¬S r:=by obtain ⟨_,_,h⟩:=h;intro e;have:=(h.lt r e).2;omega
 have hle:k≤X.bs.length:=by obtain ⟨_,_,h⟩:=h;exact h.le
 have HBX:=Lib.hid (show (w.alloc (.cells #[.int .i64 0,.int .i64 0,.string ⟨#[]⟩,.slice none 0 0] 48)).heap[r]?=some (.cells #[.int .i64 0,.int .i64 0,.string ⟨#[]⟩,.slice none 0 0] 48 (0,0)) from zac _ hr)
 have HK0:=Lib.hid (show Keeps S w (w.alloc (.cells #[.int .i64 0,.int .i64 0,.string ⟨#[]⟩,.slice none 0 0] 48)) from (Keeps.refl S w).alloc _)
 have hq0:=h.keep (zah w (.cells #[.int .i64 0,.int .i64 0,.string ⟨#[]⟩,.slice none 0 0] 48))
 have HAT:=Lib.hid (show HexAt (w.alloc (.cells #[.int .i64 0,.int .i64 0,.string ⟨#[]⟩,.slice none 0 0] 48)) S p X V (-1) k [] _ from ⟨by omega,by simp;omega,hle,zaj.refl hq0,hV⟩)
 have HR:=Lib.hid hr
 have HRS:=Lib.hid hSr
 have HSP:=Lib.hid (show S p from (let ⟨_,_,h⟩:=h;h.own))
 have HRG:=Lib.hid (show w.heap.size≤r by omega)
 clear hV hr hSr h hk hq0
 go_enter Tryz.func170,Tryz.ntmps170
 go_wp2
 rw [←HR.out]
 generalize w.alloc (.cells #[.int .i64 0,.int .i64 0,.string ⟨#[]⟩,.slice none 0 0] 48)=W0 at *
 refine za9 0 (HexI W0 S p X V r) rfl ?first ?pass
 case first =>
   intro hpass
   have HPASS:=Lib.hid hpass
   clear hpass
   go_wp2
   refine wp_label ?_
   rename_i K hK
   exact hK _ _ (HPASS.out _ _ _ ⟨-1,k,[],_,_,_,_,_,_,_,_,_,_,_,_,_,_,_,_,_,_,_,_,_,_,_,_,_,_,_,_,_,_,_,_,_,_,_,_,_,_,_,_,_,_,_,_,_,_,_,_,_,_,_,_,_,_,_,_,_,_,_,_,_,_,_,_,_,_,_,_,_,rfl,HAT,rfl⟩)
 case pass =>
   rintro m a w' ⟨hf,k,out,u5,u6,u7,u8,u9,u10,u11,u12,u13,u14,u15,u16,u17,u18,u19,u20,u21,u22,u23,u24,u25,u26,u27,u28,u29,u30,u31,u32,u33,u34,u35,u36,u37,u38,u39,u40,u41,u42,u43,u44,u45,u46,u47,u48,u49,u50,u51,u52,u53,u54,u55,u56,u57,u58,u59,u60,u61,u62,u63,u64,u65,u66,u67,u68,u69,u70,u71,u72,u73,hm,HA,rfl⟩
   obtain ⟨S1,hq1,hk1,hs1⟩:=HA.out.sc
   obtain ⟨hf0,hf1⟩:=HA.out.h1
   have ho:=HA.out.o
   have hkl:=HA.out.le
   have HV:=Lib.hid HA.out.v
   have HQ1:=Lib.hid hq1
   have HK1:=Lib.hid hk1
   have HS1:=Lib.hid hs1
   have HB1:=Lib.hid (hk1.obj HBX.out HRS.out)
   have HM:=Lib.hid hm
   have hP:=zcY hq1
   unfold zft u8C at hP
   clear hk1 hs1 hm HAT HA
   by_cases hkn:k<X.bs.length
   case neg =>
     rw [if_neg hkn] at hP
     have HP:=Lib.hid hP
     have HNONE:=Lib.hid (show V=(1,[],[]) by rw [HV.out,zcu hkn];rfl)
     have HO:=Lib.hid (fun q=>zd8 (hq1.drewN q))
     clear hP hq1 hkn
     go_wp2_with fail
     refine HP.out.mono ?_
     rintro e w1 ⟨rfl,q,rfl⟩
     go_wp2_with fail
     refine (HO.out q).mono ?_
     rintro e w2 ⟨rfl,rfl⟩
     have HB9:=Lib.hid (show (w'.drewN q).heap[r]?=_ from HB1.out)
     have HK9:=Lib.hid (Keeps.trans HK0.out (Keeps.trans HK1.out ((Keeps.refl S1 w').drewN q) HS1.out) (fun _ h=>.inl h))
     generalize w'.drewN q=w2 at *
     obtain ⟨⟨k0,k1,k2,k3⟩,f0,f1,f2,f3⟩:=zaf HB9.out
     go_wp2
     simp only [Exit.jump]
     refine bodyPost_ret (zaa rfl _ _ r 48 _ (0,0) _ rfl (set4 HB9.out _ _ _ _) Tryz.underlying48 rfl zas _ rfl) rfl ?_
     exact hex_open HNONE.out (zaJ HK9.out HRG.out _ _ _ _)
   case pos =>
     rw [if_pos hkn] at hP
     have hv:=HV.out
     rw [za6 hkn,hexV] at hv
     have HMV:=Lib.hid (fun q=>(let ⟨_,_,h1⟩:=hq1.drewN q;h1.move (k+1) (by omega) (by omega)))
     have HC3:=Lib.hid (fun q=>(let ⟨_,_,h1⟩:=hq1.drewN q;(And.intro h1.cells.2.2.2.1 (h1.free 3))))
     have HP:=Lib.hid hP
     obtain ⟨c,hc⟩:∃c,c=X.bs.getD k 0:=⟨_,rfl⟩
     rw [←hc] at HP hv
     have HHX:=Lib.hid (fun W=>hex_any c W)
     have hsp:=fun W=>zfT c.toNat W
     rw [←spI_eq] at hsp
     have hdb:=hexD_bd c
     clear hP hc hq1
     by_cases h62:c=62
     · subst h62
       rw [if_pos rfl] at hv
       rw [show hexD 62=-1 from rfl] at HHX
       clear hsp hdb
       by_cases hh:0≤hf
       · rw [if_pos hh] at hv
         have HVV:=Lib.hid hv
         have HBY:=Lib.hid (byte_of (16 * hf) (by omega) (by omega))
         clear hv
         go_wp2_with fail
         refine HP.out.mono ?_
         rintro e w1 ⟨rfl,q,rfl⟩
         obtain ⟨c3,f3⟩:=HC3.out q
         obtain ⟨S2,q2,k2,s2⟩:=HMV.out q
         have HQ2:=Lib.hid q2
         have HK2:=Lib.hid (Keeps.trans HK1.out (Keeps.trans ((Keeps.refl S1 w').drewN q) k2 (fun _ h=>.inl h)) HS1.out)
         have HS2:=Lib.hid (fun b (hb:S2 b)=>(s2 b hb).elim (HS1.out b) (fun h=>Or.inr (Nat.le_trans HK1.out.size h)))
         have HB2:=Lib.hid (HK2.out.obj HBX.out HRS.out)
         clear q2 k2 s2
         go_wp2_with fail
         rw [show ((k:Int)+1)=((k+1:Nat):Int) from rfl]
         generalize (w'.drewN q).setCell ⟨p,3,none⟩ (.int .i64 ((k+1:Nat):Int))=w2 at *
         clear c3 f3
         refine (HHX.out _).mono ?_
         rintro e w3 ⟨rfl,rfl⟩
         have HWB:=Lib.hid (zaC HQ2.out (UInt8.ofNat (16 * hf).toNat) (16 * hf) HBY.out (by omega))
         go_wp2_with fail
         refine HWB.out.mono ?_
         rintro e w4 ⟨rfl,hn8⟩
         obtain ⟨S4,q4,k4,s4⟩:=hn8
         have HQ4:=Lib.hid q4
         have HK4:=Lib.hid (Keeps.trans HK2.out k4 HS2.out)
         have HS4:=Lib.hid (fun b (hb:S4 b)=>(s4 b hb).elim (HS2.out b) (fun h=>Or.inr (Nat.le_trans HK2.out.size h)))
         have HB4:=Lib.hid (HK4.out.obj HBX.out HRS.out)
         clear q4 k4 s4
         have HO:=Lib.hid (zeP HQ4.out)
         go_wp2_with fail
         refine HO.out.mono ?_
         rintro e w5 ⟨rfl,hk3,hp3⟩
         have HRS2:=Lib.hid (show ¬S4 r from fun e=>(HS4.out r e).elim HRS.out (fun h=>by have:=(Array.getElem?_eq_some_iff.1 HBX.out).1;omega))
         have HB9:=Lib.hid (hk3.obj HB4.out HRS2.out)
         have HK9:=Lib.hid (Keeps.trans HK0.out (Keeps.trans HK4.out hk3 HS4.out) (fun _ h=>.inl h))
         have HP3:=Lib.hid hp3
         clear hk3 hp3
         obtain ⟨⟨k0,k1,k2,k3⟩,f0,f1,f2,f3⟩:=zaf HB9.out
         go_wp2
         simp only [Exit.jump]
         refine bodyPost_ret (zaa rfl _ _ r 48 _ (0,0) _ rfl (set4 HB9.out _ _ _ _) Tryz.underlying48 rfl zas _ rfl) rfl ?_
         obtain ⟨ad9,v9,hsc⟩:=HQ4.out
         have hpr:p≠r:=fun e=>HRS.out (e▸HSP.out)
         refine hex_some HVV.out (zaJ HK9.out HRG.out _ _ _ _) (by rw [List.length_drop];omega) ?_
         rw [cell_of_row _ p 3 (scV X ad9 v9 (k+1)) 171 (0,0) ((za7 hpr _ _ _ _).trans (HP3.out.trans hsc.blk)),List.length_drop,show X.bs.length-(X.bs.length-(k+1))=k+1 from by omega]
         rfl
       · rw [if_neg hh] at hv
         have HVV:=Lib.hid hv
         have hhd:decide (0≤hf)=false:=by simpa using hh
         clear hv hh
         go_wp2_with fail
         refine HP.out.mono ?_
         rintro e w1 ⟨rfl,q,rfl⟩
         obtain ⟨c3,f3⟩:=HC3.out q
         obtain ⟨S2,q2,k2,s2⟩:=HMV.out q
         have HQ2:=Lib.hid q2
         have HK2:=Lib.hid (Keeps.trans HK1.out (Keeps.trans ((Keeps.refl S1 w').drewN q) k2 (fun _ h=>.inl h)) HS1.out)
         have HS2:=Lib.hid (fun b (hb:S2 b)=>(s2 b hb).elim (HS1.out b) (fun h=>Or.inr (Nat.le_trans HK1.out.size h)))
         have HB2:=Lib.hid (HK2.out.obj HBX.out HRS.out)
         clear q2 k2 s2
         go_wp2_with fail
         rw [show ((k:Int)+1)=((k+1:Nat):Int) from rfl]
         generalize (w'.drewN q).setCell ⟨p,3,none⟩ (.int .i64 ((k+1:Nat):Int))=w2 at *
         clear c3 f3
         refine (HHX.out _).mono ?_
         rintro e w3 ⟨rfl,rfl⟩
         have HO:=Lib.hid (zeP HQ2.out)
         go_wp2_with fail
         refine HO.out.mono ?_
         rintro e w5 ⟨rfl,hk3,hp3⟩
         have HRS2:=Lib.hid (show ¬S2 r from fun e=>(HS2.out r e).elim HRS.out (fun h=>by have:=(Array.getElem?_eq_some_iff.1 HBX.out).1;omega))
         have HB9:=Lib.hid (hk3.obj HB2.out HRS2.out)
         have HK9:=Lib.hid (Keeps.trans HK0.out (Keeps.trans HK2.out hk3 HS2.out) (fun _ h=>.inl h))
         have HP3:=Lib.hid hp3
         clear hk3 hp3
         obtain ⟨⟨k0,k1,k2,k3⟩,f0,f1,f2,f3⟩:=zaf HB9.out
         go_wp2
         simp only [Exit.jump]
         refine bodyPost_ret (zaa rfl _ _ r 48 _ (0,0) _ rfl (set4 HB9.out _ _ _ _) Tryz.underlying48 rfl zas _ rfl) rfl ?_
         obtain ⟨ad9,v9,hsc⟩:=HQ2.out
         have hpr:p≠r:=fun e=>HRS.out (e▸HSP.out)
         refine hex_some HVV.out (zaJ HK9.out HRG.out _ _ _ _) (by rw [List.length_drop];omega) ?_
         rw [cell_of_row _ p 3 (scV X ad9 v9 (k+1)) 171 (0,0) ((za7 hpr _ _ _ _).trans (HP3.out.trans hsc.blk)),List.length_drop,show X.bs.length-(X.bs.length-(k+1))=k+1 from by omega]
         rfl
     have h62d:((c.toNat:Int)==62)=false:=by rw [beq_eq_false_iff_ne];intro e;exact h62 (UInt8.toNat_inj.1 (Int.ofNat_inj.1 e))
     rw [if_neg h62] at hv
     clear h62
     obtain ⟨sp,hsp2⟩:∃sp,isSp c=sp:=⟨_,rfl⟩
     rw [hsp2] at hv hsp
     have HSP2:=Lib.hid hsp
     clear hsp hsp2
     generalize hexD c=d at *
     cases sp
     case true =>
       rw [if_pos rfl] at hv
       have HVV:=Lib.hid hv
       clear hv
       go_wp2_with fail
       refine HP.out.mono ?_
       rintro e w1 ⟨rfl,q,rfl⟩
       obtain ⟨c3,f3⟩:=HC3.out q
       obtain ⟨S2,q2,k2,s2⟩:=HMV.out q
       have HQ2:=Lib.hid q2
       have HK2:=Lib.hid (Keeps.trans HK1.out (Keeps.trans ((Keeps.refl S1 w').drewN q) k2 (fun _ h=>.inl h)) HS1.out)
       have HS2:=Lib.hid (fun b (hb:S2 b)=>(s2 b hb).elim (HS1.out b) (fun h=>Or.inr (Nat.le_trans HK1.out.size h)))
       have HB2:=Lib.hid (HK2.out.obj HBX.out HRS.out)
       clear q2 k2 s2
       go_wp2_with fail
       rw [show ((k:Int)+1)=((k+1:Nat):Int) from rfl]
       generalize (w'.drewN q).setCell ⟨p,3,none⟩ (.int .i64 ((k+1:Nat):Int))=w2 at *
       clear c3 f3
       refine (HHX.out _).mono ?_
       rintro e w3 ⟨rfl,rfl⟩
       have HN:=Lib.hid (show zaj W0 S p X out (k+1) w2 from zaj.trans HK2.out HS2.out (zaj.refl HQ2.out))
       go_wp2_with fail
       refine (HSP2.out _).mono ?_
       rintro e w3 ⟨rfl,rfl⟩
       go_wp2
       go_step3
       exact ⟨rfl,X.bs.length-(k+1),by have:=HM.out;omega,hf,k+1,out,_,_,_,_,_,_,_,_,_,_,_,_,_,_,_,_,_,_,_,_,_,_,_,_,_,_,_,_,_,_,_,_,_,_,_,_,_,_,_,_,_,_,_,_,_,_,_,_,_,_,_,_,_,_,_,_,_,_,_,_,_,_,_,_,_,_,_,_,_,rfl,Lib.hid ⟨⟨hf0,hf1⟩,by first|omega|(simp;omega),by omega,HN.out,HVV.out⟩,rfl⟩
     rw [if_neg (by decide)] at hv
     by_cases hd0:d<0
     · rw [if_pos hd0] at hv
       have HNONE:=Lib.hid hv
       clear hv
       go_wp2_with fail
       refine HP.out.mono ?_
       rintro e w1 ⟨rfl,q,rfl⟩
       obtain ⟨c3,f3⟩:=HC3.out q
       obtain ⟨S2,q2,k2,s2⟩:=HMV.out q
       have HQ2:=Lib.hid q2
       have HK2:=Lib.hid (Keeps.trans HK1.out (Keeps.trans ((Keeps.refl S1 w').drewN q) k2 (fun _ h=>.inl h)) HS1.out)
       have HS2:=Lib.hid (fun b (hb:S2 b)=>(s2 b hb).elim (HS1.out b) (fun h=>Or.inr (Nat.le_trans HK1.out.size h)))
       have HB2:=Lib.hid (HK2.out.obj HBX.out HRS.out)
       clear q2 k2 s2
       go_wp2_with fail
       rw [show ((k:Int)+1)=((k+1:Nat):Int) from rfl]
       generalize (w'.drewN q).setCell ⟨p,3,none⟩ (.int .i64 ((k+1:Nat):Int))=w2 at *
       clear c3 f3
       refine (HHX.out _).mono ?_
       rintro e w3 ⟨rfl,rfl⟩
       go_wp2_with fail
       refine (HSP2.out _).mono ?_
       rintro e w3 ⟨rfl,rfl⟩
       have HB9:=HB2
       have HK9:=Lib.hid (Keeps.trans HK0.out HK2.out (fun _ h=>.inl h))
       obtain ⟨⟨k0,k1,k2,k3⟩,f0,f1,f2,f3⟩:=zaf HB9.out
       go_wp2
       simp only [Exit.jump]
       refine bodyPost_ret (zaa rfl _ _ r 48 _ (0,0) _ rfl (set4 HB9.out _ _ _ _) Tryz.underlying48 rfl zas _ rfl) rfl ?_
       exact hex_form HNONE.out (zaJ HK9.out HRG.out _ _ _ _)
     rw [if_neg hd0] at hv
     have hd0d:decide (d<0)=false:=by simpa using hd0
     have hd1:0≤d:=by omega
     clear hd0
     by_cases hh:hf<0
     · rw [if_pos hh] at hv
       have HVV:=Lib.hid hv
       clear hv
       go_wp2_with fail
       refine HP.out.mono ?_
       rintro e w1 ⟨rfl,q,rfl⟩
       obtain ⟨c3,f3⟩:=HC3.out q
       obtain ⟨S2,q2,k2,s2⟩:=HMV.out q
       have HQ2:=Lib.hid q2
       have HK2:=Lib.hid (Keeps.trans HK1.out (Keeps.trans ((Keeps.refl S1 w').drewN q) k2 (fun _ h=>.inl h)) HS1.out)
       have HS2:=Lib.hid (fun b (hb:S2 b)=>(s2 b hb).elim (HS1.out b) (fun h=>Or.inr (Nat.le_trans HK1.out.size h)))
       have HB2:=Lib.hid (HK2.out.obj HBX.out HRS.out)
       clear q2 k2 s2
       go_wp2_with fail
       rw [show ((k:Int)+1)=((k+1:Nat):Int) from rfl]
       generalize (w'.drewN q).setCell ⟨p,3,none⟩ (.int .i64 ((k+1:Nat):Int))=w2 at *
       clear c3 f3
       refine (HHX.out _).mono ?_
       rintro e w3 ⟨rfl,rfl⟩
       have HN:=Lib.hid (show zaj W0 S p X out (k+1) w2 from zaj.trans HK2.out HS2.out (zaj.refl HQ2.out))
       go_wp2_with fail
       refine (HSP2.out _).mono ?_
       rintro e w3 ⟨rfl,rfl⟩
       go_wp2
       go_step3
       exact ⟨rfl,X.bs.length-(k+1),by have:=HM.out;omega,d,k+1,out,_,_,_,_,_,_,_,_,_,_,_,_,_,_,_,_,_,_,_,_,_,_,_,_,_,_,_,_,_,_,_,_,_,_,_,_,_,_,_,_,_,_,_,_,_,_,_,_,_,_,_,_,_,_,_,_,_,_,_,_,_,_,_,_,_,_,_,_,_,rfl,Lib.hid ⟨⟨by omega,hdb.2⟩,by first|omega|(simp;omega),by omega,HN.out,HVV.out⟩,rfl⟩
     · rw [if_neg hh] at hv
       have HVV:=Lib.hid hv
       have hhd:decide (hf<0)=false:=by simpa using hh
       have hh1:0≤hf:=by omega
       have hdb2:=hdb.2
       have HBY:=Lib.hid (byte_of (16 * hf+d) (by omega) (by omega))
       clear hv hh hdb
       go_wp2_with fail
       refine HP.out.mono ?_
       rintro e w1 ⟨rfl,q,rfl⟩
       obtain ⟨c3,f3⟩:=HC3.out q
       obtain ⟨S2,q2,k2,s2⟩:=HMV.out q
       have HQ2:=Lib.hid q2
       have HK2:=Lib.hid (Keeps.trans HK1.out (Keeps.trans ((Keeps.refl S1 w').drewN q) k2 (fun _ h=>.inl h)) HS1.out)
       have HS2:=Lib.hid (fun b (hb:S2 b)=>(s2 b hb).elim (HS1.out b) (fun h=>Or.inr (Nat.le_trans HK1.out.size h)))
       have HB2:=Lib.hid (HK2.out.obj HBX.out HRS.out)
       clear q2 k2 s2
       go_wp2_with fail
       rw [show ((k:Int)+1)=((k+1:Nat):Int) from rfl]
       generalize (w'.drewN q).setCell ⟨p,3,none⟩ (.int .i64 ((k+1:Nat):Int))=w2 at *
       clear c3 f3
       refine (HHX.out _).mono ?_
       rintro e w3 ⟨rfl,rfl⟩
       go_wp2_with fail
       refine (HSP2.out _).mono ?_
       rintro e w3 ⟨rfl,rfl⟩
       have HWB:=Lib.hid (zaC HQ2.out (UInt8.ofNat (16 * hf+d).toNat) (16 * hf+d) HBY.out (by omega))
       go_wp2_with fail
       refine HWB.out.mono ?_
       rintro e w4 ⟨rfl,hn8⟩
       obtain ⟨S4,q4,k4,s4⟩:=hn8
       have HQ4:=Lib.hid q4
       have HK4:=Lib.hid (Keeps.trans HK2.out k4 HS2.out)
       have HS4:=Lib.hid (fun b (hb:S4 b)=>(s4 b hb).elim (HS2.out b) (fun h=>Or.inr (Nat.le_trans HK2.out.size h)))
       have HB4:=Lib.hid (HK4.out.obj HBX.out HRS.out)
       clear q4 k4 s4
       have HN:=Lib.hid (show zaj W0 S p X _ (k+1) w4 from zaj.trans HK4.out HS4.out (zaj.refl HQ4.out))
       go_wp2
       go_step3
       exact ⟨rfl,X.bs.length-(k+1),by have:=HM.out;omega,-1,k+1,_,_,_,_,_,_,_,_,_,_,_,_,_,_,_,_,_,_,_,_,_,_,_,_,_,_,_,_,_,_,_,_,_,_,_,_,_,_,_,_,_,_,_,_,_,_,_,_,_,_,_,_,_,_,_,_,_,_,_,_,_,_,_,_,_,_,_,_,_,_,rfl,Lib.hid ⟨by omega,by first|omega|(simp;omega),by omega,HN.out,HVV.out⟩,rfl⟩
def regs (l:List UInt8):List UInt8:=l.takeWhile isRg
def runN (l:List UInt8):Nat:=(regs l).length
theorem zhx (l:List UInt8):runN l≤l.length:=by unfold runN regs;exact List.Sublist.length_le (List.takeWhile_sublist _)
theorem zhr {c:UInt8} (l:List UInt8) (h:isRg c=true):runN (c::l)=1+runN l:=by unfold runN regs;rw [List.takeWhile_cons_of_pos h];simp;omega
theorem runN_no {c:UInt8} (l:List UInt8) (h:isRg c=false):runN (c::l)=0:=by unfold runN regs;rw [List.takeWhile_cons_of_neg (by simp [h])];rfl
theorem regs_take (l:List UInt8):regs l=l.take (runN l):=by
 unfold runN regs
 induction l with
 | nil=>rfl
 | cons c l ih =>
   by_cases h:isRg c=true
   · rw [List.takeWhile_cons_of_pos h,List.length_cons,List.take_succ_cons,←ih]
   · rw [List.takeWhile_cons_of_neg h];rfl
theorem regs_drop (l:List UInt8):l.dropWhile isRg=l.drop (runN l):=by
 unfold runN regs
 induction l with
 | nil=>rfl
 | cons c l ih =>
   by_cases h:isRg c=true
   · rw [List.takeWhile_cons_of_pos h,List.length_cons,List.drop_succ_cons,←ih,List.dropWhile_cons_of_pos h]
   · rw [List.takeWhile_cons_of_neg h,List.dropWhile_cons_of_neg h];rfl
def zhS (w:World) (S:Nat→Prop) (p:Nat) (X:Src) (out:List UInt8) (k:Nat) (e:Ending) (w':World):Prop :=
 e=.returned (.tuple #[.string (mkB (regs (X.bs.drop k))),.bool (decide (k+runN (X.bs.drop k)<X.bs.length)||X.last)])∧zaj w S p X out (k+runN (X.bs.drop k)) w'
theorem zdx {w:World} {b off cap:Nat} {X:Src} (hc:∀j,j<X.bs.length→w.cell? ⟨b,off+j,none⟩=some (u8C (X.bs.getD j 0))) (k m:Nat) (hm:k+m≤X.bs.length) (W:World) (hW:Below w.heap.size w W) :
   (convert 24 9 (.slice (some ⟨b,off+k,none⟩) m cap)).run Tryz.prog W=.ok (.string (mkB ((X.bs.drop k).take m))) W:=by
 have hl:((X.bs.drop k).take m).length=m:=by rw [List.length_take,List.length_drop];omega
 have h := run_convert_bytes_back (P := Tryz.prog) W 24 9 5 ⟨b, off + k, none⟩ cap ((X.bs.drop k).take m) Tryz.underlying24 Tryz.underlying5 Tryz.underlying9 (fun j hj => by
   rw [hl] at hj
   rw [Addr.add_lit,Nat.add_assoc]
   refine cell?_keep hW ((hc (k+j) (by omega)).trans ?_)
   congr 1
   unfold u8C
   simp [List.getD,show k+j<X.bs.length from by omega])
 rw [hl] at h
 exact h
theorem word_any {w:World} {S:Nat→Prop} {p:Nat} {X:Src} {out:List UInt8} {k:Nat} (h:ScQ w S p X out k) (hne:0<X.bs.length) :
   Calls Tryz.prog 140 #[.pointer (some ⟨p,0,none⟩)] w (zhS w S p X out k):=by
 have hsm:X.bs.length≤400000:=by obtain ⟨_,_,h⟩:=h;exact h.small
 have hle:k≤X.bs.length:=by obtain ⟨_,_,h⟩:=h;exact h.le
 have hcap:X.bs.length≤X.cap∧X.cap≤maxLen:=by obtain ⟨_,_,h⟩:=h;exact ⟨h.src.2.1,h.src.2.2.1⟩
 have hc3:w.cell? ⟨p,3,none⟩=some (.int .i64 k):=by obtain ⟨_,_,h⟩:=h;exact h.cells.2.2.2.1
 have HN:=Lib.hid (zaj.refl h)
 obtain ⟨m,hm⟩:∃m,m=runN (X.bs.drop k):=⟨_,rfl⟩
 have hml:=zhx (X.bs.drop k)
 rw [List.length_drop,←hm] at hml
 have HM:=Lib.hid hm
 unfold zhS
 rw [regs_take,←hm]
 obtain ⟨l,hl⟩:∃l,X.last=l:=⟨_,rfl⟩
 rw [hl]
 have HLL:=Lib.hid hl
 obtain ⟨hc1,hc2⟩:=hcap
 have hc2':X.cap≤9223372036854775807:=by unfold maxLen at hc2;omega
 clear h hm hc2 hl
 go_enter Tryz.func140,Tryz.ntmps140
 go_wp2
 clear hc3
 go_loopg [] (X.bs.length-k) (fun g wr=>∃j:Nat,g=X.bs.length-j∧k≤j∧j≤k+m∧Hid (zaj w S p X out j wr)∧Hid (k+m=j+runN (X.bs.drop j)))
 case atStart=>exact ⟨k,rfl,Nat.le_refl _,by omega,HN,Lib.hid (by rw [HM.out])⟩
 case round =>
   obtain ⟨j,hg,hkj,hjm,HS,HJ⟩:=hrel
   have HG:=Lib.hid hg
   obtain ⟨S1,hq1,hk1,hs1⟩:=HS.out
   obtain ⟨ad,v,h1⟩:=hq1
   obtain ⟨-,-,c2,c3,c4⟩:=h1.cells
   have f3:=h1.free 3
   obtain ⟨b,off,ha,_,hcc⟩:=h1.src.at 0 0 hne
   have hcc2:∀i,i<X.bs.length→wr.cell? ⟨b,off+i,none⟩=some (u8C (X.bs.getD i 0)):=hcc
   rw [ha] at c2
   have HCC:=Lib.hid hcc2
   have HK1:=Lib.hid hk1
   have HS1:=Lib.hid hs1
   have H1:=Lib.hid h1
   clear hk1 hs1 hg hcc hcc2 h1
   by_cases hj:j<X.bs.length
   · have hcj:=HCC.out j hj
     have hv:=HJ.out
     rw [za6 hj] at hv
     have hjd:decide ((j:Int)<X.bs.length)=true:=by simp;omega
     have HMV:=Lib.hid (fun q=>(let h:=H1.out.keep (zad (Below.refl wr.heap.size wr) q);h.move (j+1) (by omega) (by omega)))
     have hrg:=fun W=>zgh (X.bs.getD j 0) W
     rw [←rgI_eq] at hrg
     unfold u8C at hcj
     obtain ⟨c,hc⟩:∃c,c=X.bs.getD j 0:=⟨_,rfl⟩
     rw [←hc] at hrg hcj hv
     obtain ⟨rg,hrg2⟩:∃rg,isRg c=rg:=⟨_,rfl⟩
     rw [hrg2] at hrg
     have HRG:=Lib.hid hrg
     have HR2:=Lib.hid hrg2
     have HV:=Lib.hid hv
     clear hrg hrg2 hv hc
     cases rg
     · have hje : j = k + m := by have := HV.out; rw [runN_no _ HR2.out] at this; omega
       have HJE:=Lib.hid hje
       clear hje
       have hcv:∀nq,(convert 24 9 (.slice (some ⟨b,off+k,none⟩) (j-k) (X.cap-k))).run Tryz.prog (wr.drewN nq)=.ok (.string (mkB ((X.bs.drop k).take (j-k)))) (wr.drewN nq):=fun nq=>zdx HCC.out k (j-k) (by omega) _ (zad (Below.refl _ _) nq)
       have hcv0:∀nq,(convert 24 9 (.slice (some ⟨b,off,none⟩) 0 0)).run Tryz.prog (wr.drewN nq)=.ok (.string (mkB [])) (wr.drewN nq):=fun nq=>zdx HCC.out 0 0 (by omega) _ (zad (Below.refl _ _) nq)
       have HEND:=Lib.hid (fun q=>zaj.trans HK1.out HS1.out (zaj.drew q (zaj.refl (⟨ad,v,H1.out.keep (zad (Below.refl _ _) q)⟩:ScQ (wr.drewN q) S1 p X out j))))
       rw [HLL.out] at c4
       go_wp2
       go_quiet ((go_at_call 135;exact (HRG.out _).mono fun _ _ ⟨he,hm⟩=>⟨he,_,hm.symm⟩))
       go_wp2
       have HDD:=Lib.hid (show decide (j<X.bs.length)=true from decide_eq_true hj)
       have hck:¬X.cap=k:=by omega
       go_quiet (fail)
       go_wp2
       go_ret2
       exact ⟨by rw [show m=j-k from by have:=HJE.out;omega,show k+(j-k)=j from by omega,HDD.out];rfl,by rw [←HJE.out];simpa using HEND.out _⟩
     · go_wp2
       go_quiet ((go_at_call 135;exact (HRG.out _).mono fun _ _ ⟨he,hm⟩=>⟨he,_,hm.symm⟩))
       go_wp2
       go_roundg (X.bs.length-(j+1))
       case rel =>
         refine ⟨j+1,rfl,by omega,?_,Lib.hid (zaj.trans HK1.out HS1.out (zaj.drew _ (HMV.out _))),Lib.hid ?_⟩
         · have:=HV.out;rw [zhr _ HR2.out] at this;omega
         · have:=HV.out;rw [zhr _ HR2.out] at this;omega
       case measure=>have:=HG.out;omega
   · have hje : j = X.bs.length := by omega
     have HJE:=Lib.hid (show j=k+m by omega)
     have hjd:decide ((j:Int)<X.bs.length)=false:=decide_eq_false (by omega)
     have hjd2:decide (j<X.bs.length)=false:=decide_eq_false (by omega)
     have hcv:∀nq,(convert 24 9 (.slice (some ⟨b,off+k,none⟩) (j-k) (X.cap-k))).run Tryz.prog (wr.drewN nq)=.ok (.string (mkB ((X.bs.drop k).take (j-k)))) (wr.drewN nq):=fun nq=>zdx HCC.out k (j-k) (by omega) _ (zad (Below.refl _ _) nq)
     have hcv0:∀nq,(convert 24 9 (.slice (some ⟨b,off,none⟩) 0 0)).run Tryz.prog (wr.drewN nq)=.ok (.string (mkB [])) (wr.drewN nq):=fun nq=>zdx HCC.out 0 0 (by omega) _ (zad (Below.refl _ _) nq)
     have HEND:=Lib.hid (fun q=>zaj.trans HK1.out HS1.out (zaj.drew q (zaj.refl (⟨ad,v,H1.out.keep (zad (Below.refl _ _) q)⟩:ScQ (wr.drewN q) S1 p X out j))))
     have HDD:=Lib.hid (show decide (j<X.bs.length)=false from decide_eq_false (by omega))
     rw [HLL.out] at c4
     clear hje hj
     cases l
     all_goals
       go_wp2
       go_quiet (fail)
       go_wp2
       by_cases hck:X.cap=k
       · have hjk : j = k := by omega
         have HZ:=Lib.hid (show (X.bs.drop k).take m=[] by rw [show m=0 from by have:=HJE.out;omega];rfl)
         have hkd2:decide (k<X.bs.length)=false:=decide_eq_false (by omega)
         go_quiet (fail)
         go_wp2
         go_ret2
         exact ⟨by rw [HZ.out,←HJE.out,HDD.out];rfl,by rw [←HJE.out];simpa using HEND.out _⟩
       · go_quiet (fail)
         go_wp2
         go_ret2
         exact ⟨by rw [show m=j-k from by have:=HJE.out;omega,show k+(j-k)=j from by omega,HDD.out];rfl,by rw [←HJE.out];simpa using HEND.out _⟩
theorem bytesOf_map (o : List UInt8) : Lib.bytesOf (o.map fun b => (b.toNat : Int)) = o := by
 unfold Lib.bytesOf
 rw [List.map_map]
 have:((fun n:Int=>UInt8.ofNat n.toNat) ∘ fun b:UInt8=>(b.toNat:Int))=id:=by funext b;simp
 rw [this,List.map_id]
set_option maxRecDepth 100000 in
theorem bidx_any {w:World} {base:Nat} {v:Value} {o:List UInt8} (hr:w.ownsRow base 5 1 v o.length (o.map u8C)) (cv:Int) :
   Calls Tryz.prog 175 #[v,.int .u8 cv] w fun e w'=>e=.returned (.int .i64 (Lib.indexByte o cv.toNat.toUInt8))∧w=w':=by
 have hX:(Extern.BytealgIndexByte.indexByte #[v,.int .u8 cv]).run Tryz.prog w=.ok (.int .i64 (Lib.indexByte o cv.toNat.toUInt8)) w:=by
   rcases hr.2 with ⟨rfl,h0⟩|⟨g,cap,cur,rfl,_⟩
   · have ho:o=[]:=List.eq_nil_of_length_eq_zero h0
     subst ho
     exact Lib.run_indexByteNil _ _ _ cv
   · have := Lib.run_indexByteSlice (P := Tryz.prog) (w := w) g 0 o.length cap (o.map fun b => (b.toNat : Int)) (by simp) (fun i hi => by
       have:=hr.cells (g:=g) rfl i (u8C (o.getD i 0)) (by simp [List.getD,hi])
       rw [Addr.add_lit] at this
       rw [this];unfold u8C
       simp [List.getD,hi]) cv
     rw [bytesOf_map] at this
     exact this
 obtain ⟨a,cap,hv,-⟩:=Row.of_owns hr
 subst hv
 clear hr
 go_enter Tryz.func175,Tryz.ntmps175
 go_wp2
 rw [run_callFunc_extern Tryz.func206 (by kernel_rfl) (by kernel_rfl) (by kernel_rfl) (e:=Extern.BytealgIndexByte.indexByte) (by kernel_rfl),hX]
 simp only [Result.andThen]
 rw [Oper.upon_value]
 go_wp2
 go_ret
 exact ⟨rfl,rfl⟩
def finN:Option (List UInt8)→Option (List UInt8)
 | none=>none
 | some o=>if 127<o.length∨(0:UInt8)∈o then none else some o
theorem nameV_fin (l:List UInt8):zfK l=finN (zbA [] l):=by unfold zfK finN;cases zbA [] l<;>rfl
theorem nameGo_byte (o:List UInt8) (c:UInt8) (t:List UInt8) (h:c≠35):zbA o (c::t)=zbA (o++[c]) t:=by rw [zbA.eq_def];simp only;rw [if_neg h]
theorem nameGo_short (o:List UInt8) (t:List UInt8) (h:t.length<2):zbA o (35::t)=none:=by
 rw [zbA.eq_def]
 simp only
 rw [if_pos trivial]
 match t,h with
 | [],_=>rfl
 | [_],_=>rfl
theorem nameGo_hex (o:List UInt8) (x y:UInt8) (u:List UInt8):zbA o (35::x::y::u)=if hexD x<0∨hexD y<0 then none else zbA (o++[UInt8.ofNat (16 * hexD x+hexD y).toNat]) u:=by rw [zbA.eq_def];simp only;rw [if_pos trivial]
theorem hexI_bd (x:Int):-1≤hexI x∧hexI x≤15:=by
 unfold hexI
 repeat' split
 all_goals omega
theorem byte_of9 (x:Int) (h0:0≤x) (h1:x≤255):x=((UInt8.ofNat x.toNat).toNat:Int):=by rw [UInt8.toNat_ofNat'];omega
theorem idx_mem (o:List UInt8) (c:UInt8):decide (0≤Lib.indexByte o c)=decide (c∈o):=by
 have hg:=Lib.indexByte_ge o c
 by_cases h:Lib.indexByte o c=-1
 · rw [h,decide_eq_false (zew _ _ h)];rfl
 · obtain ⟨i, hi⟩ := Int.eq_ofNat_of_zero_le (show 0 ≤ Lib.indexByte o c by omega)
   obtain ⟨a,t,e,-,-⟩:=zeq _ _ _ hi
   rw [hi,decide_eq_true (by omega),decide_eq_true (by rw [e];simp)]
def NameEnd (w:World) (V:Option (List UInt8)) (e:Ending) (w':World):Prop :=
 Below w.heap.size w w'∧match V with
 | none=>e=.returned (.tuple #[.agg (valC 0 0 zbU),.int .i64 17])
 | some o=>e=.returned (.tuple #[.agg (valC 5 0 (mkB o)),.int .i64 0])
theorem zdc {w w':World} {V:Option (List UInt8)} (hV:V=none) (hb:Below w.heap.size w w'):NameEnd w V (.returned (.tuple #[.agg (valC 0 0 zbU),.int .i64 17])) w':=by subst hV;exact ⟨hb,rfl⟩
theorem name_some {w w':World} {V:Option (List UInt8)} {o:List UInt8} (hV:V=some o) (hb:Below w.heap.size w w'):NameEnd w V (.returned (.tuple #[.agg (valC 5 0 (mkB o)),.int .i64 0])) w':=by subst hV;exact ⟨hb,rfl⟩
theorem conv_own {w:World} {base:Nat} {v:Value} {o:List UInt8} (hr:w.ownsRow base 5 1 v o.length (o.map u8C)):(convert 24 9 v).run Tryz.prog w=.ok (.string (mkB o)) w:=by
 rcases hr.2 with ⟨rfl,h0⟩|⟨g,cap,cur,rfl,_⟩
 · have ho:o=[]:=List.eq_nil_of_length_eq_zero h0
   subst ho
   rw [run_convert_bytes_string w 24 9 5 none 0 0 Tryz.underlying24 Tryz.underlying5 Tryz.underlying9]
   rfl
 · refine run_convert_bytes_back (P := Tryz.prog) w 24 9 5 ⟨g, 0, none⟩ cap o Tryz.underlying24 Tryz.underlying5 Tryz.underlying9 (fun j hj => ?_)
   exact hr.cells (g:=g) rfl j (u8C o[j]) (by simp [hj])
theorem name_any (s:ByteArray) (w:World) (hs:s.size≤400000) :
   Calls Tryz.prog 141 #[.string s] w (NameEnd w (zfK (bl s))):=by
 obtain ⟨V,hV⟩:∃V,V=zfK (bl s):=⟨_,rfl⟩
 rw [←hV]
 rw [nameV_fin] at hV
 have HV:=Lib.hid hV
 obtain ⟨r,hr⟩:∃r,r=w.heap.size:=⟨_,rfl⟩
 have HBX:=Lib.hid (show (w.alloc (.cells #[.int .i64 0,.int .i64 0,.string ⟨#[]⟩,.slice none 0 0] 48)).heap[r]?=some (.cells #[.int .i64 0,.int .i64 0,.string ⟨#[]⟩,.slice none 0 0] 48 (0,0)) from zac _ hr)
 have HB0:=Lib.hid (zah w (.cells #[.int .i64 0,.int .i64 0,.string ⟨#[]⟩,.slice none 0 0] 48))
 have HRR:=Lib.hid hr
 have hgb:=PlainAid.get_bt s
 have HOK:=Lib.hid (show ∀i (h:i<s.size),(bl s).drop i=s[i]::(bl s).drop (i+1) from fun i h=>bl_drop s i h)
 clear hV hr
 go_enter Tryz.func141,Tryz.ntmps141
 go_wp2
 rw [←HRR.out]
 generalize w.alloc (.cells #[.int .i64 0,.int .i64 0,.string ⟨#[]⟩,.slice none 0 0] 48)=W0 at *
 have hr0:=(Array.getElem?_eq_some_iff.1 HBX.out).1
 go_loopw [4,5] (fun v i wr=>∃(k:Nat) (o:List UInt8),k≤s.size∧i=.int .i64 k∧o.length≤k∧Hid (wr.ownsRow W0.heap.size 5 1 v o.length (o.map u8C))∧Hid (Below W0.heap.size W0 wr)∧Hid (V=finN (zbA o ((bl s).drop k)))) (fun _ i _=>s.size-(intOf i).toNat)
 case atStart=>exact ⟨0,[],by omega,rfl,by simp,Lib.hid (World.ownsRow_nil _ _ _ _),Lib.hid (Below.refl _ _),HV⟩
 case round =>
   obtain ⟨k,o,hk,rfl,hok,HO,HB,HG⟩:=hrel
   have HBR:=Lib.hid (zab HB.out HBX.out)
   have HBW:=Lib.hid (HB0.out.trans (HB.out.mono HB0.out.size))
   have hsz:=HB.out.size
   by_cases hlt:k<s.size
   · have hx:(s[k].toNat:Int)=PlainAid.bt s k:=hgb k hlt
     have hg:=HG.out
     rw [HOK.out k hlt] at hg
     have HX:=Lib.hid hx
     clear hx
     by_cases h35:PlainAid.bt s k=35
     · have h35d : (PlainAid.bt s k == 35) = true := by rw [beq_iff_eq]; exact h35
       rw [show s[k]=35 from UInt8.toNat_inj.1 (Int.ofNat_inj.1 (HX.out.trans h35))] at hg
       clear h35
       by_cases h2:s.size≤k+2
       · have HNONE := Lib.hid (show V = none by rw [hg, nameGo_short _ _ (by rw [List.length_drop, zaL]; omega)]; rfl)
         have h2d:decide ((s.size:Int)≤(k:Int)+2)=true:=by simp;omega
         clear hg
         obtain ⟨⟨k0,k1,k2,k3⟩,f0,f1,f2,f3⟩:=zaf HBR.out
         go_wp2
         refine bodyPost_ret (zaa rfl _ _ r 48 _ (0,0) _ rfl (set4 HBR.out _ _ _ _) Tryz.underlying48 rfl zas _ rfl) rfl ?_
         exact zdc HNONE.out (zai HBW.out (by have:=HRR.out;omega) _ _ _ _)
       · have h2d : decide ((s.size : Int) ≤ (k : Int) + 2) = false := by simp; omega
         have h1':k+1<s.size:=by omega
         have h2':k+2<s.size:=by omega
         rw [HOK.out (k+1) h1',HOK.out (k+1+1) h2',nameGo_hex,hexI_eq,hexI_eq,hgb (k+1) h1',show ((s[k+1+1].toNat:Nat):Int)=PlainAid.bt s (k+2) from hgb (k+2) h2'] at hg
         have hA:=hexI_bd (PlainAid.bt s (k+1))
         have hB:=hexI_bd (PlainAid.bt s (k+2))
         have HCA:=Lib.hid (fun W=>hx_174 (PlainAid.bt s (k+1)) W (PlainAid.bt_nonneg _ _) (PlainAid.bt_le _ _))
         have HCB:=Lib.hid (fun W=>hx_174 (PlainAid.bt s (k+2)) W (PlainAid.bt_nonneg _ _) (PlainAid.bt_le _ _))
         generalize hexI (PlainAid.bt s (k+1))=A at *
         generalize hexI (PlainAid.bt s (k+2))=B at *
         by_cases hAn:A<0
         · have HNONE := Lib.hid (show V = none by rw [hg, if_pos (.inl hAn)]; rfl)
           clear hg
           obtain ⟨⟨k0,k1,k2,k3⟩,f0,f1,f2,f3⟩:=zaf HBR.out
           go_wp2_with fail
           refine (HCA.out _).mono ?_
           rintro e w9 ⟨rfl,rfl⟩
           go_wp2
           refine bodyPost_ret (zaa rfl _ _ r 48 _ (0,0) _ rfl (set4 HBR.out _ _ _ _) Tryz.underlying48 rfl zas _ rfl) rfl ?_
           exact zdc HNONE.out (zai HBW.out (by have:=HRR.out;omega) _ _ _ _)
         · have hAd : decide (A < 0) = false := by simpa using hAn
           by_cases hBn:B<0
           · have HNONE := Lib.hid (show V = none by rw [hg, if_pos (.inr hBn)]; rfl)
             clear hg hAn
             obtain ⟨⟨k0,k1,k2,k3⟩,f0,f1,f2,f3⟩:=zaf HBR.out
             go_wp2_with fail
             refine (HCA.out _).mono ?_
             rintro e w9 ⟨rfl,rfl⟩
             go_wp2_with fail
             refine (HCB.out _).mono ?_
             rintro e w9 ⟨rfl,rfl⟩
             go_wp2
             refine bodyPost_ret (zaa rfl _ _ r 48 _ (0,0) _ rfl (set4 HBR.out _ _ _ _) Tryz.underlying48 rfl zas _ rfl) rfl ?_
             exact zdc HNONE.out (zai HBW.out (by have:=HRR.out;omega) _ _ _ _)
           · have hBd : decide (B < 0) = false := by simpa using hBn
             rw [if_neg (by rintro (h|h)<;>contradiction)] at hg
             have HG2:=Lib.hid hg
             have HBY:=Lib.hid (byte_of9 (16 * A+B) (by omega) (by omega))
             have hA0:0≤A:=by omega
             have hB0:0≤B:=by omega
             obtain ⟨hA1,hA2⟩:=hA
             obtain ⟨hB1,hB2⟩:=hB
             clear hg hAn hBn
             go_wp2_with fail
             refine (HCA.out _).mono ?_
             rintro e w9 ⟨rfl,rfl⟩
             go_wp2_with fail
             refine (HCB.out _).mono ?_
             rintro e w9 ⟨rfl,rfl⟩
             go_wp2
             go_quiet ((first|(go_at_call 174;with_reducible exact (HCA.out _).mono fun _ _ ⟨he,hm⟩=>⟨he,_,hm.symm⟩)|(go_at_call 174;with_reducible exact (HCB.out _).mono fun _ _ ⟨he,hm⟩=>⟨he,_,hm.symm⟩)))
             have HO9:=Lib.hid (zay HO.out (zad (Below.refl _ _) nq))
             have HB9:=Lib.hid (zad HB.out nq)
             have hsz9:=HB9.out.size
             generalize wr.drewN nq=w3 at *
             go_wp2_with (at_builtin;refine zbJ EByte rfl (.tmp 55) (.tmp 57) rfl W0.heap.size _ o.length _ rfl (HO9.out.alloc _) _ 1 _ _ rfl (zc2 _ _ _) (zeS rfl) (by unfold maxLen;omega) (by omega) (by rw [zal];omega) ?_;intro v' w5 hO5 hg5 hnil5;have HO5:=Lib.hid hO5;have HG5:=Lib.hid hg5;clear hO5 hg5 hnil5)
             go_roundw
             case rel =>
               refine ⟨k+3,o++[UInt8.ofNat (16 * A+B).toNat],by omega,by go_num,by simp;omega,Lib.hid ?_,Lib.hid ?_,Lib.hid HG2.out⟩
               · have:=HO5.out
                 rw [HBY.out] at this
                 simpa [u8C] using this
               · exact (HB9.out.alloc hsz9 _).grown HG5.out (by rw [zal];omega) (fun q hq=>(HO9.out.lt q hq).1)
             case measure=>simp [intOf];omega
     · have h35d : (PlainAid.bt s k == 35) = false := by rw [beq_eq_false_iff_ne]; exact h35
       rw [nameGo_byte _ _ _ (fun e=>h35 (by rw [←HX.out,e];rfl))] at hg
       have HG2:=Lib.hid hg
       clear hg h35
       go_wp2_with (at_builtin;refine zbJ EByte rfl (.tmp 55) (.tmp 57) rfl W0.heap.size _ o.length _ rfl (HO.out.alloc _) _ 1 _ _ rfl (zc2 _ _ _) (zeS rfl) (by unfold maxLen;omega) (by omega) (by rw [zal];omega) ?_;intro v' w5 hO5 hg5 hnil5;have HO5:=Lib.hid hO5;have HG5:=Lib.hid hg5;clear hO5 hg5 hnil5)
       go_roundw
       case rel =>
         refine ⟨k+1,o++[s[k]],by omega,by go_num,by simp;omega,Lib.hid ?_,Lib.hid ?_,HG2⟩
         · have:=HO5.out
           rw [←HX.out] at this
           simpa [u8C] using this
         · exact (HB.out.alloc (by omega) _).grown HG5.out (by rw [zal];omega) (fun q hq=>(HO.out.lt q hq).1)
       case measure=>simp [intOf];omega
   · obtain rfl : k = s.size := by omega
     have hg:=HG.out
     rw [show (bl s).drop s.size=[] from by rw [←zaL];exact List.drop_length] at hg
     have hg2:V=if 127<o.length∨(0:UInt8)∈o then none else some o:=hg
     have HCV:=Lib.hid (conv_own HO.out)
     have HIX:=Lib.hid (bidx_any HO.out 0)
     have hix:decide (0≤Lib.indexByte o 0)=decide ((0:UInt8)∈o):=idx_mem o 0
     obtain ⟨a1,cap1,hv1,hrow,-⟩:=Row.of_owns HO.out
     have hlen:=hrow.len1
     subst hv1
     rw [show (0:Int).toNat.toUInt8=0 from rfl] at HIX
     clear hg hrow
     by_cases h127:127<o.length
     · have HNONE := Lib.hid (show V = none by rw [hg2, if_pos (.inl h127)])
       have h127d:decide ((127:Int)<o.length)=true:=by simp;omega
       clear hg2 hix
       obtain ⟨⟨k0,k1,k2,k3⟩,f0,f1,f2,f3⟩:=zaf HBR.out
       go_wp2
       refine bodyPost_ret (zaa rfl _ _ r 48 _ (0,0) _ rfl (set4 HBR.out _ _ _ _) Tryz.underlying48 rfl zas _ rfl) rfl ?_
       exact zdc HNONE.out (zai HBW.out (by have:=HRR.out;omega) _ _ _ _)
     · have h127d : decide ((127 : Int) < o.length) = false := by simp; omega
       have h127e:decide (127<o.length)=false:=decide_eq_false h127
       obtain ⟨b,hb⟩:∃b,decide ((0:UInt8)∈o)=b:=⟨_,rfl⟩
       rw [hb] at hix
       have HBB:=Lib.hid hb
       generalize Lib.indexByte o 0=ix at *
       clear hb
       cases b
       · have hn0:¬(0:UInt8)∈o:=of_decide_eq_false HBB.out
         have HS:=Lib.hid (show V=some o by rw [hg2,if_neg (by rintro (h|h)<;>contradiction)])
         clear hg2 h127 hn0
         go_wp2_with fail
         refine HIX.out.mono ?_
         rintro e w9 ⟨rfl,rfl⟩
         have hcv:=HCV.out
         obtain ⟨⟨k0,k1,k2,k3⟩,f0,f1,f2,f3⟩:=zaf HBR.out
         go_wp2
         refine bodyPost_ret (zaa rfl _ _ r 48 _ (0,0) _ rfl (set4 HBR.out _ _ _ _) Tryz.underlying48 rfl zas _ rfl) rfl ?_
         exact name_some HS.out (zai HBW.out (by have:=HRR.out;omega) _ _ _ _)
       · have HNONE := Lib.hid (show V = none by rw [hg2, if_pos (.inr (of_decide_eq_true HBB.out))])
         clear hg2 h127
         obtain ⟨⟨k0,k1,k2,k3⟩,f0,f1,f2,f3⟩:=zaf HBR.out
         go_wp2_with fail
         refine HIX.out.mono ?_
         rintro e w9 ⟨rfl,rfl⟩
         go_wp2
         refine bodyPost_ret (zaa rfl _ _ r 48 _ (0,0) _ rfl (set4 HBR.out _ _ _ _) Tryz.underlying48 rfl zas _ rfl) rfl ?_
         exact zdc HNONE.out (zai HBW.out (by have:=HRR.out;omega) _ _ _ _)
def tokC (kind f t vk vn:Int) (vs s:ByteArray):Array Value:=#[.int .i64 kind,.int .i64 f,.int .i64 t,.int .i64 vk,.int .i64 vn,.string vs,.slice none 0 0,.string s]
theorem zat:(Tryz.prog.info? 112).map (·.size)=some 8:=by kernel_rfl
def zcp (w:World) (S:Nat→Prop) (p:Nat) (X:Src) (V:Int×Tk×List UInt8) (e:Ending) (w':World):Prop :=
 Keeps S w w'∧∃(k vk vn:Int) (vs s:ByteArray),e=.returned (.tuple #[.agg (tokC k 0 0 vk vn vs s),.int .i64 V.1]) ∧
   (V.1=0→k=V.2.1.kind∧vk=V.2.1.vk∧vn=V.2.1.vn∧vs=mkB V.2.1.vs∧s=mkB V.2.1.s∧V.2.2.length≤X.bs.length∧w'.cell? ⟨p,3,none⟩=some (.int .i64 ((X.bs.length-V.2.2.length:Nat):Int)))
theorem set8 {w:World} {b:Nat} {x0 x1 x2 x3 x4 x5 x6 x7:Value} {t:TypeId} (h:w.heap[b]?=some (.cells #[x0,x1,x2,x3,x4,x5,x6,x7] t (0,0))) (y0 y1 y2 y3 y4 y5 y6 y7:Value) :
   ((((((((w.setCell ⟨b,0,none⟩ y0).setCell ⟨b,1,none⟩ y1).setCell ⟨b,2,none⟩ y2).setCell ⟨b,3,none⟩ y3).setCell ⟨b,4,none⟩ y4).setCell ⟨b,5,none⟩ y5).setCell ⟨b,6,none⟩ y6).setCell ⟨b,7,none⟩ y7).heap[b]?=some (.cells #[y0,y1,y2,y3,y4,y5,y6,y7] t (0,0)):=by
 have h0:(w.setCell ⟨b,0,none⟩ y0).heap[b]?=some (.cells #[y0,x1,x2,x3,x4,x5,x6,x7] t (0,0)):=heap_setCell_same w _ 0 _ _ _ h
 generalize w.setCell ⟨b,0,none⟩ y0=w0 at *
 have h1:(w0.setCell ⟨b,1,none⟩ y1).heap[b]?=some (.cells #[y0,y1,x2,x3,x4,x5,x6,x7] t (0,0)):=heap_setCell_same w0 _ 1 _ _ _ h0
 generalize w0.setCell ⟨b,1,none⟩ y1=w1 at *
 have h2:(w1.setCell ⟨b,2,none⟩ y2).heap[b]?=some (.cells #[y0,y1,y2,x3,x4,x5,x6,x7] t (0,0)):=heap_setCell_same w1 _ 2 _ _ _ h1
 generalize w1.setCell ⟨b,2,none⟩ y2=w2 at *
 have h3:(w2.setCell ⟨b,3,none⟩ y3).heap[b]?=some (.cells #[y0,y1,y2,y3,x4,x5,x6,x7] t (0,0)):=heap_setCell_same w2 _ 3 _ _ _ h2
 generalize w2.setCell ⟨b,3,none⟩ y3=w3 at *
 have h4:(w3.setCell ⟨b,4,none⟩ y4).heap[b]?=some (.cells #[y0,y1,y2,y3,y4,x5,x6,x7] t (0,0)):=heap_setCell_same w3 _ 4 _ _ _ h3
 generalize w3.setCell ⟨b,4,none⟩ y4=w4 at *
 have h5:(w4.setCell ⟨b,5,none⟩ y5).heap[b]?=some (.cells #[y0,y1,y2,y3,y4,y5,x6,x7] t (0,0)):=heap_setCell_same w4 _ 5 _ _ _ h4
 generalize w4.setCell ⟨b,5,none⟩ y5=w5 at *
 have h6:(w5.setCell ⟨b,6,none⟩ y6).heap[b]?=some (.cells #[y0,y1,y2,y3,y4,y5,y6,x7] t (0,0)):=heap_setCell_same w5 _ 6 _ _ _ h5
 generalize w5.setCell ⟨b,6,none⟩ y6=w6 at *
 exact heap_setCell_same w6 _ 7 _ _ _ h6
theorem zbL {S:Nat→Prop} {w W:World} (h:Keeps S w W) {r:Nat} (hr:w.heap.size≤r) (y0 y1 y2 y3 y4 y5 y6 y7:Value) :
   Keeps S w ((((((((W.setCell ⟨r,0,none⟩ y0).setCell ⟨r,1,none⟩ y1).setCell ⟨r,2,none⟩ y2).setCell ⟨r,3,none⟩ y3).setCell ⟨r,4,none⟩ y4).setCell ⟨r,5,none⟩ y5).setCell ⟨r,6,none⟩ y6).setCell ⟨r,7,none⟩ y7) :=
 (((((((h.setCell (.inr hr) _).setCell (.inr hr) _).setCell (.inr hr) _).setCell (.inr hr) _).setCell (.inr hr) _).setCell (.inr hr) _).setCell (.inr hr) _).setCell (.inr hr) _
theorem set8_other {W:World} {b r:Nat} (hb:b≠r) (y0 y1 y2 y3 y4 y5 y6 y7:Value) :
   ((((((((W.setCell ⟨r,0,none⟩ y0).setCell ⟨r,1,none⟩ y1).setCell ⟨r,2,none⟩ y2).setCell ⟨r,3,none⟩ y3).setCell ⟨r,4,none⟩ y4).setCell ⟨r,5,none⟩ y5).setCell ⟨r,6,none⟩ y6).setCell ⟨r,7,none⟩ y7).heap[b]?=W.heap[b]?:=by
 rw [heap_setCell_other _ _ _ _ hb,heap_setCell_other _ _ _ _ hb,heap_setCell_other _ _ _ _ hb,heap_setCell_other _ _ _ _ hb,heap_setCell_other _ _ _ _ hb,heap_setCell_other _ _ _ _ hb,heap_setCell_other _ _ _ _ hb,heap_setCell_other _ _ _ _ hb]
theorem zcS {W:World} {b r:Nat} (hb:b≠r) (i:Nat) (y0 y1 y2 y3 y4 y5 y6 y7:Value) :
   ((((((((W.setCell ⟨r,0,none⟩ y0).setCell ⟨r,1,none⟩ y1).setCell ⟨r,2,none⟩ y2).setCell ⟨r,3,none⟩ y3).setCell ⟨r,4,none⟩ y4).setCell ⟨r,5,none⟩ y5).setCell ⟨r,6,none⟩ y6).setCell ⟨r,7,none⟩ y7).cell? ⟨b,i,none⟩=W.cell? ⟨b,i,none⟩:=by
 simp only [World.cell?]
 rw [set8_other hb]
theorem zap {w:World} {b:Nat} {x0 x1 x2 x3 x4 x5 x6 x7:Value} {t:TypeId} (h:w.heap[b]?=some (.cells #[x0,x1,x2,x3,x4,x5,x6,x7] t (0,0))) :
   (w.cell? ⟨b,0,none⟩=some x0∧w.cell? ⟨b,1,none⟩=some x1∧w.cell? ⟨b,2,none⟩=some x2∧w.cell? ⟨b,3,none⟩=some x3∧w.cell? ⟨b,4,none⟩=some x4∧w.cell? ⟨b,5,none⟩=some x5∧w.cell? ⟨b,6,none⟩=some x6∧w.cell? ⟨b,7,none⟩=some x7) ∧
   (w.frozen? ⟨b,0,none⟩=false∧w.frozen? ⟨b,1,none⟩=false∧w.frozen? ⟨b,2,none⟩=false∧w.frozen? ⟨b,3,none⟩=false∧w.frozen? ⟨b,4,none⟩=false∧w.frozen? ⟨b,5,none⟩=false∧w.frozen? ⟨b,6,none⟩=false∧w.frozen? ⟨b,7,none⟩=false):=by
 refine ⟨⟨?_,?_,?_,?_,?_,?_,?_,?_⟩,frozen_of_row w b 0 _ _ h,frozen_of_row w b 1 _ _ h,frozen_of_row w b 2 _ _ h,frozen_of_row w b 3 _ _ h,frozen_of_row w b 4 _ _ h,frozen_of_row w b 5 _ _ h,frozen_of_row w b 6 _ _ h,frozen_of_row w b 7 _ _ h⟩
 · rw [cell_of_row w b 0 _ _ _ h];rfl
 · rw [cell_of_row w b 1 _ _ _ h];rfl
 · rw [cell_of_row w b 2 _ _ _ h];rfl
 · rw [cell_of_row w b 3 _ _ _ h];rfl
 · rw [cell_of_row w b 4 _ _ _ h];rfl
 · rw [cell_of_row w b 5 _ _ _ h];rfl
 · rw [cell_of_row w b 6 _ _ _ h];rfl
 · rw [cell_of_row w b 7 _ _ _ h];rfl
theorem tok_err {w w':World} {S:Nat→Prop} {p:Nat} {X:Src} {V:Int×Tk×List UInt8} {er:Int} (hV:V.1=er) (hn:er≠0) (hk:Keeps S w w') (k vk vn:Int) (vs s:ByteArray) :
   zcp w S p X V (.returned (.tuple #[.agg (tokC k 0 0 vk vn vs s),.int .i64 er])) w' :=
 ⟨hk,k,vk,vn,vs,s,by rw [hV],fun h=>absurd (hV.symm.trans h) hn⟩
theorem tok_ok {w w':World} {S:Nat→Prop} {p:Nat} {X:Src} {V:Int×Tk×List UInt8} {x:Tk} {t:List UInt8} (hV:V=(0,x,t)) (hk:Keeps S w w') (ht:t.length≤X.bs.length) (hc:w'.cell? ⟨p,3,none⟩=some (.int .i64 ((X.bs.length-t.length:Nat):Int))) :
   zcp w S p X V (.returned (.tuple #[.agg (tokC x.kind 0 0 x.vk x.vn (mkB x.vs) (mkB x.s)),.int .i64 0])) w':=by
 subst hV;exact ⟨hk,_,_,_,_,_,rfl,fun _=>⟨rfl,rfl,rfl,rfl,rfl,ht,hc⟩⟩
def clV (X:Src) (k:Nat):Int×Tk×List UInt8:=match X.bs.drop k with
 | []=>(if X.last then 11 else 6,{ kind:=0 },[])
 | d::u=>if d=62 then (0,{ kind:=5 },u) else (11,{ kind:=0 },[])
theorem clV_in {X:Src} {k:Nat} (hk:k<X.bs.length):clV X k=if X.bs.getD k 0=62 then (0,{ kind:=5 },X.bs.drop (k+1)) else (11,{ kind:=0 },[]):=by
 unfold clV;rw [za6 hk]
theorem clV_out {X:Src} {k:Nat} (hk:¬k<X.bs.length):clV X k=(if X.last then 11 else 6,{ kind:=0 },[]):=by
 unfold clV;rw [zcu (by omega)]
theorem ScQ.facts {w:World} {S:Nat→Prop} {p:Nat} {X:Src} {out:List UInt8} {k:Nat} (h:ScQ w S p X out k):(∀b,S b→b<w.heap.size)∧S p∧k≤X.bs.length∧X.bs.length≤400000∧w.cell? ⟨p,3,none⟩=some (.int .i64 k)∧w.cell? ⟨p,4,none⟩=some (.bool X.last)∧(∀j,w.frozen? ⟨p,j,none⟩=false):=by
 obtain ⟨_,_,h⟩:=h
 exact ⟨fun b hb=>(h.lt b hb).2,h.own,h.le,h.small,h.cells.2.2.2.1,h.cells.2.2.2.2,h.free⟩
theorem ScQ.step {w:World} {S:Nat→Prop} {p:Nat} {X:Src} {out:List UInt8} {k:Nat} (h:ScQ w S p X out k) (hk:k<X.bs.length):zaj w S p X out (k+1) (w.setCell ⟨p,3,none⟩ (.int .i64 ((k:Int)+1))):=by
 obtain ⟨_,_,h⟩:=h
 exact h.move (k+1) hk (by omega)
structure Tm (w:World) (S:Nat→Prop) (p r:Nat) (X:Src) (k:Nat) (W:World):Prop where
 sc:ScQ W S p X [] k
 blk:W.heap[r]?=some (.cells #[.int .i64 0,.int .i64 0,.int .i64 0,.int .i64 0,.int .i64 0,.string ⟨#[]⟩,.slice none 0 0,.string ⟨#[]⟩] 112 (0,0))
 keeps:Keeps S w W
 pr:p≠r
 wr:w.heap.size≤r
 sr:¬S r
theorem Tm.start {w:World} {S:Nat→Prop} {p:Nat} {X:Src} {k:Nat} (h:ScQ w S p X [] k):Tm w S p w.heap.size X k (w.alloc (.cells #[.int .i64 0,.int .i64 0,.int .i64 0,.int .i64 0,.int .i64 0,.string ⟨#[]⟩,.slice none 0 0,.string ⟨#[]⟩] 112)) :=
 ⟨h.keep (zah w _),zac _ rfl,(Keeps.refl S w).alloc _,by have:=h.facts.1 p h.facts.2.1;omega,Nat.le_refl _,fun hS=>by have:=h.facts.1 _ hS;omega⟩
theorem Tm.drewN {w W:World} {S:Nat→Prop} {p r:Nat} {X:Src} {k:Nat} (h:Tm w S p r X k W) (q:Nat):Tm w S p r X k (W.drewN q) :=
 ⟨h.sc.drewN q,h.blk,h.keeps.drewN q,h.pr,h.wr,h.sr⟩
theorem ScQ.next {w:World} {S:Nat→Prop} {p:Nat} {X:Src} {k:Nat} (h:ScQ w S p X [] k) (hk:k<X.bs.length):ScQ (w.setCell ⟨p,3,none⟩ (.int .i64 ((k:Int)+1))) S p X [] (k+1):=by
 obtain ⟨ad,v,h⟩:=h
 have hb:=h.blk
 refine ⟨ad,v,⟨?_,h.ad_,?_,h.at_,h.own,fun b hS=>by have:=h.lt b hS;simpa using this,?_,h.srcb,hk,h.small,by simp,h.nil_⟩⟩
 · rw [heap_setCell_same _ _ 3 _ _ _ hb];rfl
 · exact ownsRow_setCell_other h.row (a:=⟨p,3,none⟩) (fun e=>by have:=(h.row.lt p e).1;omega) _
 · exact h.src.keeps (S:=fun b=>b=p) ((Keeps.refl (fun b=>b=p) w).setCell (a:=⟨p,3,none⟩) (.inl rfl) _) (fun x hx e=>by have:=h.srcb x hx;omega)
theorem Tm.next {w W:World} {S:Nat→Prop} {p r:Nat} {X:Src} {k:Nat} (h:Tm w S p r X k W) (hk:k<X.bs.length):Tm w S p r X (k+1) (W.setCell ⟨p,3,none⟩ (.int .i64 ((k:Int)+1))) :=
 ⟨h.sc.next hk,by rw [heap_setCell_other _ _ _ _ (Ne.symm h.pr)];exact h.blk,h.keeps.setCell (.inl h.sc.facts.2.1) _,h.pr,h.wr,h.sr⟩
theorem Tm.ok {w W:World} {S:Nat→Prop} {p r:Nat} {X:Src} {k:Nat} {V:Int×Tk×List UInt8} {x:Tk} (h:Tm w S p r X k W) (hV:V=(0,x,X.bs.drop k)) (y0 y1 y2 y3 y4 y5 y6 y7:Value) :
   zcp w S p X V (.returned (.tuple #[.agg (tokC x.kind 0 0 x.vk x.vn (mkB x.vs) (mkB x.s)),.int .i64 0]))
     ((((((((W.setCell ⟨r,0,none⟩ y0).setCell ⟨r,1,none⟩ y1).setCell ⟨r,2,none⟩ y2).setCell ⟨r,3,none⟩ y3).setCell ⟨r,4,none⟩ y4).setCell ⟨r,5,none⟩ y5).setCell ⟨r,6,none⟩ y6).setCell ⟨r,7,none⟩ y7) :=
 tok_ok hV (zbL h.keeps h.wr _ _ _ _ _ _ _ _) (by simp) (by
   rw [zcS h.pr,h.sc.facts.2.2.2.2.1,List.length_drop]
   have:=h.sc.facts.2.2.1
   congr 2;omega)
theorem Tm.err {w W:World} {S:Nat→Prop} {p r:Nat} {X:Src} {k:Nat} {V:Int×Tk×List UInt8} {er:Int} (h:Tm w S p r X k W) (hV:V.1=er) (hn:er≠0) (y0 y1 y2 y3 y4 y5 y6 y7:Value) (a b c:Int) (vs s:ByteArray) :
   zcp w S p X V (.returned (.tuple #[.agg (tokC a 0 0 b c vs s),.int .i64 er]))
     ((((((((W.setCell ⟨r,0,none⟩ y0).setCell ⟨r,1,none⟩ y1).setCell ⟨r,2,none⟩ y2).setCell ⟨r,3,none⟩ y3).setCell ⟨r,4,none⟩ y4).setCell ⟨r,5,none⟩ y5).setCell ⟨r,6,none⟩ y6).setCell ⟨r,7,none⟩ y7) :=
 tok_err hV hn (zbL h.keeps h.wr _ _ _ _ _ _ _ _) a b c vs s
structure Tn (w:World) (S:Nat→Prop) (p r:Nat) (W:World):Prop where
 blk:W.heap[r]?=some (.cells #[.int .i64 0,.int .i64 0,.int .i64 0,.int .i64 0,.int .i64 0,.string ⟨#[]⟩,.slice none 0 0,.string ⟨#[]⟩] 112 (0,0))
 keeps:Keeps S w W
 pr:p≠r
 wr:w.heap.size≤r
 sp:S p
theorem Tn.of {w W W':World} {S:Nat→Prop} {p r:Nat} {X:Src} {k:Nat} (h:Tm w S p r X k W) (hk:Keeps S W W'):Tn w S p r W' :=
 ⟨hk.obj h.blk h.sr,h.keeps.trans hk (fun _ hS=>.inl hS),h.pr,h.wr,h.sc.facts.2.1⟩
theorem Tn.on {w W W':World} {S:Nat→Prop} {p r:Nat} (h:Tn w S p r W) (hb:Below W.heap.size W W'):Tn w S p r W' :=
 ⟨zab hb h.blk,h.keeps.trans (Keeps.of_below (S:=fun b=>W.heap.size≤b) hb (fun _ h=>h)) (fun _ hS=>.inr (Nat.le_trans h.keeps.size hS)),h.pr,h.wr,h.sp⟩
theorem Tn.alloc {w W:World} {S:Nat→Prop} {p r:Nat} (h:Tn w S p r W) (o:Obj):Tn w S p r (W.alloc o):=h.on (zah W o)
theorem Tn.ok {w W:World} {S:Nat→Prop} {p r:Nat} {X:Src} {V:Int×Tk×List UInt8} {x:Tk} {t:List UInt8} (h:Tn w S p r W) (hV:V=(0,x,t)) (ht:t.length≤X.bs.length) (hc:W.cell? ⟨p,3,none⟩=some (.int .i64 ((X.bs.length-t.length:Nat):Int))) (y0 y1 y2 y3 y4 y5 y6 y7:Value) :
   zcp w S p X V (.returned (.tuple #[.agg (tokC x.kind 0 0 x.vk x.vn (mkB x.vs) (mkB x.s)),.int .i64 0]))
     ((((((((W.setCell ⟨r,0,none⟩ y0).setCell ⟨r,1,none⟩ y1).setCell ⟨r,2,none⟩ y2).setCell ⟨r,3,none⟩ y3).setCell ⟨r,4,none⟩ y4).setCell ⟨r,5,none⟩ y5).setCell ⟨r,6,none⟩ y6).setCell ⟨r,7,none⟩ y7) :=
 tok_ok hV (zbL h.keeps h.wr _ _ _ _ _ _ _ _) ht (by rw [zcS h.pr];exact hc)
theorem Tn.err {w W:World} {S:Nat→Prop} {p r:Nat} {X:Src} {V:Int×Tk×List UInt8} {er:Int} (h:Tn w S p r W) (hV:V.1=er) (hn:er≠0) (y0 y1 y2 y3 y4 y5 y6 y7:Value) (a b c:Int) (vs s:ByteArray) :
   zcp w S p X V (.returned (.tuple #[.agg (tokC a 0 0 b c vs s),.int .i64 er]))
     ((((((((W.setCell ⟨r,0,none⟩ y0).setCell ⟨r,1,none⟩ y1).setCell ⟨r,2,none⟩ y2).setCell ⟨r,3,none⟩ y3).setCell ⟨r,4,none⟩ y4).setCell ⟨r,5,none⟩ y5).setCell ⟨r,6,none⟩ y6).setCell ⟨r,7,none⟩ y7) :=
 tok_err hV hn (zbL h.keeps h.wr _ _ _ _ _ _ _ _) a b c vs s
theorem Tn.any {w W:World} {S:Nat→Prop} {p r:Nat} {X:Src} {V:Int×Tk×List UInt8} {x:Tk} {t:List UInt8} {er:Int} (h:Tn w S p r W) (hV:V=(er,x,t)) (ht:t.length≤X.bs.length) (hc:W.cell? ⟨p,3,none⟩=some (.int .i64 ((X.bs.length-t.length:Nat):Int))) (y0 y1 y2 y3 y4 y5 y6 y7:Value) :
   zcp w S p X V (.returned (.tuple #[.agg (tokC x.kind 0 0 x.vk x.vn (mkB x.vs) (mkB x.s)),.int .i64 er]))
     ((((((((W.setCell ⟨r,0,none⟩ y0).setCell ⟨r,1,none⟩ y1).setCell ⟨r,2,none⟩ y2).setCell ⟨r,3,none⟩ y3).setCell ⟨r,4,none⟩ y4).setCell ⟨r,5,none⟩ y5).setCell ⟨r,6,none⟩ y6).setCell ⟨r,7,none⟩ y7):=by
 by_cases he:er=0
 · subst he;exact h.ok hV ht hc _ _ _ _ _ _ _ _
 · exact h.err (by rw [hV]) he _ _ _ _ _ _ _ _ _ _ _ _ _
theorem zbh {w:World} {b o:Nat} {v:Value} (x:Obj) (h:w.cell? ⟨b,o,none⟩=some v):(w.alloc x).cell? ⟨b,o,none⟩=some v:=cell?_keep (zah w x) h
theorem closing_any {w:World} {S:Nat→Prop} {p:Nat} {X:Src} {k:Nat} (h:ScQ w S p X [] k) :
   Calls Tryz.prog 138 #[.pointer (some ⟨p,0,none⟩)] w (zcp w S p X (clV X k)):=by
 obtain ⟨V,hV⟩:∃V,V=clV X k:=⟨_,rfl⟩
 rw [←hV]
 have hT:=Tm.start h
 obtain ⟨r,hr⟩:∃r,r=w.heap.size:=⟨_,rfl⟩
 rw [←hr] at hT
 have HT0:=Lib.hid hT
 have HR:=Lib.hid hr
 have hP:=zcY hT.sc
 have hsm:=h.facts.2.2.2.1
 clear hT hr h
 by_cases hk:k<X.bs.length
 · have hv:=hV.trans (clV_in hk)
   unfold zft u8C at hP
   rw [if_pos hk] at hP
   have HK:=Lib.hid hk
   have hkb:k≤399999:=by omega
   clear hsm
   generalize X.bs.getD k 0=c at *
   have HP:=Lib.hid hP
   clear hP hV hk
   by_cases hc:c=62
   · rw [if_pos hc] at hv
     have HV:=Lib.hid hv
     have hc2:c.toNat=62:=by rw [hc];rfl
     rw [hc2] at HP
     clear hv hc hc2
     go_enter Tryz.func138,Tryz.ntmps138
     go_wp2_with fail
     refine HP.out.mono ?_
     rintro e w1 ⟨rfl,q,rfl⟩
     have HT1:=Lib.hid (HT0.out.drewN q)
     have HT2:=Lib.hid (HT1.out.next HK.out)
     obtain ⟨-,-,-,-,c3,c4,fr⟩:=HT1.out.sc.facts
     have f3:=fr 3
     rw [←HR.out]
     clear fr HT0
     generalize (w.alloc _).drewN q=W1 at *
     obtain ⟨⟨k0,k1,k2,k3,k4,k5,k6,k7⟩,f0,f1,f2,f3',f4,f5,f6,f7⟩:=zap HT2.out.blk
     go_wp2
     refine bodyPost_ret (zaa rfl _ _ _ 112 _ (0,0) _ rfl (set8 HT2.out.blk _ _ _ _ _ _ _ _) Tryz.underlying112 rfl zat _ rfl) rfl ?_
     exact HT2.out.ok HV.out _ _ _ _ _ _ _ _
   · rw [if_neg hc] at hv
     have HV:=Lib.hid hv
     have hc2:¬c.toNat=62:=fun h=>hc (UInt8.toNat_inj.1 h)
     have hc3:((c.toNat:Int)==62)=false:=by rw [beq_eq_false_iff_ne];omega
     generalize c.toNat=x at *
     clear hv hc
     go_enter Tryz.func138,Tryz.ntmps138
     go_wp2_with fail
     refine HP.out.mono ?_
     rintro e w1 ⟨rfl,q,rfl⟩
     have HT1:=Lib.hid (HT0.out.drewN q)
     rw [←HR.out]
     clear HT0
     generalize (w.alloc _).drewN q=W1 at *
     obtain ⟨⟨k0,k1,k2,k3,k4,k5,k6,k7⟩,f0,f1,f2,f3,f4,f5,f6,f7⟩:=zap HT1.out.blk
     go_wp2
     refine bodyPost_ret (zaa rfl _ _ _ 112 _ (0,0) _ rfl (set8 HT1.out.blk _ _ _ _ _ _ _ _) Tryz.underlying112 rfl zat _ rfl) rfl ?_
     exact HT1.out.err (by rw [HV.out]) (by decide) _ _ _ _ _ _ _ _ _ _ _ _ _
 · have hv:=hV.trans (clV_out hk)
   unfold zft at hP
   rw [if_neg hk] at hP
   have HP:=Lib.hid hP
   obtain ⟨l,hl⟩:∃l,X.last=l:=⟨_,rfl⟩
   rw [hl] at hv
   have HV:=Lib.hid hv
   have HL:=Lib.hid hl
   clear hv hV hk hP hsm hl
   cases l
   all_goals
     go_enter Tryz.func138,Tryz.ntmps138
     go_wp2_with fail
     refine HP.out.mono ?_
     rintro e w1 ⟨rfl,q,rfl⟩
     have HT1:=Lib.hid (HT0.out.drewN q)
     obtain ⟨-,-,-,-,-,c4,-⟩:=HT1.out.sc.facts
     rw [HL.out] at c4
     rw [←HR.out]
     clear HT0
     generalize (w.alloc _).drewN q=W1 at *
     obtain ⟨⟨k0,k1,k2,k3,k4,k5,k6,k7⟩,f0,f1,f2,f3,f4,f5,f6,f7⟩:=zap HT1.out.blk
     go_wp2
     refine bodyPost_ret (zaa rfl _ _ _ 112 _ (0,0) _ rfl (set8 HT1.out.blk _ _ _ _ _ _ _ _) Tryz.underlying112 rfl zat _ rfl) rfl ?_
     exact HT1.out.err (by rw [HV.out];rfl) (by decide) _ _ _ _ _ _ _ _ _ _ _ _ _
theorem zhi (l:Bool):zbb l≠0:=by cases l<;>decide
def hexK (last:Bool) (H:Int×List UInt8×List UInt8):Int×Tk×List UInt8:=if H.1=0 then (0,{ kind:=1,vk:=4,vs:=H.2.1 },H.2.2) else if H.1=1 then (zbb last,{ kind:=0 },[]) else (11,{ kind:=0 },[])
def opV (X:Src) (k:Nat):Int×Tk×List UInt8:=match X.bs.drop k with
 | []=>(zbb X.last,{ kind:=0 },[])
 | d::u=>if d=60 then (0,{ kind:=4 },u) else hexK X.last (hexV [] (-1) (d::u))
theorem opV_in {X:Src} {k:Nat} (hk:k<X.bs.length):opV X k=if X.bs.getD k 0=60 then (0,{ kind:=4 },X.bs.drop (k+1)) else hexK X.last (hexV [] (-1) (X.bs.drop k)):=by
 unfold opV;rw [za6 hk]
theorem opV_out {X:Src} {k:Nat} (hk:¬k<X.bs.length):opV X k=(zbb X.last,{ kind:=0 },[]):=by
 unfold opV;rw [zcu (by omega)]
theorem opening_any {w:World} {S:Nat→Prop} {p:Nat} {X:Src} {k:Nat} (h:ScQ w S p X [] k) (h1k:1≤k) :
   Calls Tryz.prog 137 #[.pointer (some ⟨p,0,none⟩)] w (zcp w S p X (opV X k)):=by
 obtain ⟨V,hV⟩:∃V,V=opV X k:=⟨_,rfl⟩
 rw [←hV]
 have hT:=Tm.start h
 obtain ⟨r,hr⟩:∃r,r=w.heap.size:=⟨_,rfl⟩
 rw [←hr] at hT
 have HT0:=Lib.hid hT
 have HR:=Lib.hid hr
 have hP:=zcY hT.sc
 have hsm:=h.facts.2.2.2.1
 clear hT hr h
 by_cases hk:k<X.bs.length
 · have hv:=hV.trans (opV_in hk)
   unfold zft u8C at hP
   rw [if_pos hk] at hP
   have HK:=Lib.hid hk
   have H1K:=Lib.hid h1k
   have hkb:k≤399999:=by omega
   clear hsm
   generalize X.bs.getD k 0=c at *
   have HP:=Lib.hid hP
   clear hP hV hk
   by_cases hc:c=60
   · rw [if_pos hc] at hv
     have HV:=Lib.hid hv
     have hc2:c.toNat=60:=by rw [hc];rfl
     rw [hc2] at HP
     clear hv hc hc2
     go_enter Tryz.func137,Tryz.ntmps137
     go_wp2_with fail
     refine HP.out.mono ?_
     rintro e w1 ⟨rfl,q,rfl⟩
     have HT1:=Lib.hid (HT0.out.drewN q)
     have HT2:=Lib.hid (HT1.out.next HK.out)
     obtain ⟨-,-,-,-,c3,c4,fr⟩:=HT1.out.sc.facts
     have f3:=fr 3
     rw [←HR.out]
     clear fr HT0
     generalize (w.alloc _).drewN q=W1 at *
     obtain ⟨⟨k0,k1,k2,k3,k4,k5,k6,k7⟩,f0,f1,f2,f3',f4,f5,f6,f7⟩:=zap HT2.out.blk
     go_wp2
     refine bodyPost_ret (zaa rfl _ _ _ 112 _ (0,0) _ rfl (set8 HT2.out.blk _ _ _ _ _ _ _ _) Tryz.underlying112 rfl zat _ rfl) rfl ?_
     exact HT2.out.ok HV.out _ _ _ _ _ _ _ _
   · rw [if_neg hc] at hv
     have HV:=Lib.hid hv
     have hc2:¬c.toNat=60:=fun h=>hc (UInt8.toNat_inj.1 h)
     have hc3:((c.toNat:Int)==60)=false:=by rw [beq_eq_false_iff_ne];omega
     generalize c.toNat=x at *
     clear hv hc
     go_enter Tryz.func137,Tryz.ntmps137
     go_wp2_with fail
     refine HP.out.mono ?_
     rintro e w1 ⟨rfl,q,rfl⟩
     have HT1:=Lib.hid (HT0.out.drewN q)
     rw [←HR.out]
     clear HT0
     generalize (w.alloc _).drewN q=W1 at *
     go_wp2_with fail
     refine (hexes_any HT1.out.sc H1K.out).mono ?_
     rintro e w2 ⟨hk2,hh⟩
     have HT2:=Lib.hid (Tn.of HT1.out hk2)
     generalize hexV [] (-1) (X.bs.drop k)=H at *
     rcases hh with ⟨h1,rfl⟩|⟨h1,rfl⟩|⟨h1,rfl,h2,h3⟩
     · have HL := Lib.hid (show V.1 = zbb X.last by rw [HV.out, hexK, h1]; rfl)
       have HN:=Lib.hid (zhi X.last)
       generalize zbb X.last=er at *
       clear h1
       have HT3:=Lib.hid (HT2.out.alloc (.cells (valC 0 0 zbU) 48))
       obtain ⟨⟨k0,k1,k2,k3,k4,k5,k6,k7⟩,f0,f1,f2,f3,f4,f5,f6,f7⟩:=zap HT3.out.blk
       unfold valC zbU at *
       go_wp2
       refine bodyPost_ret (zaa rfl _ _ _ 112 _ (0,0) _ rfl (set8 HT3.out.blk _ _ _ _ _ _ _ _) Tryz.underlying112 rfl zat _ rfl) rfl ?_
       exact HT3.out.err HL.out HN.out _ _ _ _ _ _ _ _ _ _ _ _ _
     · have HL := Lib.hid (show V.1 = 11 by rw [HV.out, hexK, h1]; rfl)
       clear h1
       have HT3:=Lib.hid (HT2.out.alloc (.cells (valC 0 0 zbU) 48))
       obtain ⟨⟨k0,k1,k2,k3,k4,k5,k6,k7⟩,f0,f1,f2,f3,f4,f5,f6,f7⟩:=zap HT3.out.blk
       unfold valC zbU at *
       go_wp2
       refine bodyPost_ret (zaa rfl _ _ _ 112 _ (0,0) _ rfl (set8 HT3.out.blk _ _ _ _ _ _ _ _) Tryz.underlying112 rfl zat _ rfl) rfl ?_
       exact HT3.out.err HL.out (by decide) _ _ _ _ _ _ _ _ _ _ _ _ _
     · have HL := Lib.hid (show V = (0, { kind := 1, vk := 4, vs := H.2.1 }, H.2.2) by rw [HV.out, hexK, if_pos h1])
       have HA:=Lib.hid (fun x=>zbh x h3)
       have HB:=Lib.hid h2
       obtain ⟨B,hB⟩:∃B,mkB H.2.1=B:=⟨_,rfl⟩
       rw [hB]
       have HBB:=Lib.hid hB
       have HT3:=Lib.hid (HT2.out.alloc (.cells (valC 4 0 B) 48))
       obtain ⟨⟨k0,k1,k2,k3,k4,k5,k6,k7⟩,f0,f1,f2,f3,f4,f5,f6,f7⟩:=zap HT3.out.blk
       unfold valC at *
       clear h1 h2 h3 hB
       go_wp2
       refine bodyPost_ret (zaa rfl _ _ _ 112 _ (0,0) _ rfl (set8 HT3.out.blk _ _ _ _ _ _ _ _) Tryz.underlying112 rfl zat _ rfl) rfl ?_
       have hbb:=HBB.out
       subst hbb
       exact HT3.out.ok (x:={ kind:=1,vk:=4,vs:=H.2.1 }) HL.out HB.out (HA.out _) _ _ _ _ _ _ _ _
 · have HV:=Lib.hid (hV.trans (opV_out hk))
   unfold zft at hP
   rw [if_neg hk] at hP
   have HP:=Lib.hid hP
   clear hV hk hP hsm
   go_enter Tryz.func137,Tryz.ntmps137
   go_wp2_with fail
   refine HP.out.mono ?_
   rintro e w1 ⟨rfl,q,rfl⟩
   have HT1:=Lib.hid (HT0.out.drewN q)
   rw [←HR.out]
   clear HT0
   generalize (w.alloc _).drewN q=W1 at *
   obtain ⟨⟨k0,k1,k2,k3,k4,k5,k6,k7⟩,f0,f1,f2,f3,f4,f5,f6,f7⟩:=zap HT1.out.blk
   go_wp2_with fail
   refine (zd8 HT1.out.sc).mono ?_
   rintro e w2 ⟨rfl,rfl⟩
   have HN:=Lib.hid (zhi X.last)
   go_wp2
   refine bodyPost_ret (zaa rfl _ _ _ 112 _ (0,0) _ rfl (set8 HT1.out.blk _ _ _ _ _ _ _ _) Tryz.underlying112 rfl zat _ rfl) rfl ?_
   exact HT1.out.err (by rw [HV.out]) HN.out _ _ _ _ _ _ _ _ _ _ _ _ _
def rgV (X:Src) (k:Nat):Int×Tk×List UInt8 :=
 if runN (X.bs.drop k)=(X.bs.drop k).length∧X.last=false then (6,{ kind:=0 },[])
 else if isDg (X.bs.getD k 0)=true∨X.bs.getD k 0=43∨X.bs.getD k 0=45∨X.bs.getD k 0=46 then ((zaF (regs (X.bs.drop k))).2.2,{ kind:=1,vk:=(zaF (regs (X.bs.drop k))).1,vn:=(zaF (regs (X.bs.drop k))).2.1 },(X.bs.drop k).drop (runN (X.bs.drop k)))
 else (0,{ kind:=6,s:=regs (X.bs.drop k) },(X.bs.drop k).drop (runN (X.bs.drop k)))
def firstB (x:Nat):Bool:=(((decide (48≤x)&&decide (x≤57))||decide (x=43))||decide (x=45))||decide (x=46)
theorem firstB_eq (c:UInt8):firstB c.toNat=decide (isDg c=true∨c=43∨c=45∨c=46):=by
 have h1:∀d:UInt8,(c=d)↔c.toNat=d.toNat:=fun d=>UInt8.toNat_inj.symm
 unfold firstB isDg
 simp only [h1,show (43:UInt8).toNat=43 from rfl,show (45:UInt8).toNat=45 from rfl,show (46:UInt8).toNat=46 from rfl]
 rw [Bool.eq_iff_iff]
 simp [or_assoc]
theorem regulars_any {w:World} {S:Nat→Prop} {p:Nat} {X:Src} {k:Nat} (h:ScQ w S p X [] k) (hk:k<X.bs.length) (hrg:isRg (X.bs.getD k 0)=true) :
   Calls Tryz.prog 136 #[.pointer (some ⟨p,0,none⟩)] w (zcp w S p X (rgV X k)):=by
 obtain ⟨V,hV⟩:∃V,V=rgV X k:=⟨_,rfl⟩
 rw [←hV]
 have hT:=Tm.start h
 obtain ⟨r,hr⟩:∃r,r=w.heap.size:=⟨_,rfl⟩
 rw [←hr] at hT
 have HT0:=Lib.hid hT
 have HR:=Lib.hid hr
 have HW:=Lib.hid (word_any hT.sc (by omega))
 have hsm:=h.facts.2.2.2.1
 have hdl:(X.bs.drop k).length=X.bs.length-k:=by simp
 have hm:=zhx (X.bs.drop k)
 have hm1:1≤runN (X.bs.drop k):=by rw [za6 hk,zhr _ hrg];omega
 have hlen:(regs (X.bs.drop k)).length=runN (X.bs.drop k):=rfl
 have hhd:(regs (X.bs.drop k)).head?=some (X.bs.getD k 0):=by
   rw [za6 hk];unfold regs;rw [List.takeWhile_cons_of_pos hrg];rfl
 have hpos:X.bs.length-((X.bs.drop k).drop (runN (X.bs.drop k))).length=k+runN (X.bs.drop k):=by
   rw [List.length_drop,hdl];omega
 have hle:((X.bs.drop k).drop (runN (X.bs.drop k))).length≤X.bs.length:=by rw [List.length_drop,hdl];omega
 have hBB:(decide (k+runN (X.bs.drop k)<X.bs.length)||X.last)=!decide (runN (X.bs.drop k)=(X.bs.drop k).length∧X.last=false):=by
   rw [hdl]
   cases X.last
   · simp only [Bool.or_false,and_true]
     rw [Bool.eq_iff_iff];simp;omega
   · simp
 have hfb:=firstB_eq (X.bs.getD k 0)
 unfold rgV at hV
 unfold zhS at HW
 rw [hBB] at HW
 rw [hdl] at hm
 clear hT hr h hBB hdl hrg
 generalize (X.bs.drop k).drop (runN (X.bs.drop k))=t at *
 generalize regs (X.bs.drop k)=R at *
 generalize runN (X.bs.drop k)=m at *
 generalize X.bs.getD k 0=c at *
 by_cases hb:m=(X.bs.drop k).length∧X.last=false
 · rw [if_pos hb] at hV
   rw [decide_eq_true hb] at HW
   have HV:=Lib.hid hV
   clear hV hb hhd hfb hpos hle hlen
   go_enter Tryz.func136,Tryz.ntmps136
   go_wp2_with fail
   rw [←HR.out]
   generalize w.alloc _=W1 at *
   refine HW.out.mono ?_
   rintro e w2 ⟨rfl,S2,hq2,hk2,-⟩
   have HT2:=Lib.hid (Tn.of HT0.out hk2)
   obtain ⟨⟨k0,k1,k2,k3,k4,k5,k6,k7⟩,f0,f1,f2,f3,f4,f5,f6,f7⟩:=zap HT2.out.blk
   clear hq2 hk2
   go_wp2
   refine bodyPost_ret (zaa rfl _ _ _ 112 _ (0,0) _ rfl (set8 HT2.out.blk _ _ _ _ _ _ _ _) Tryz.underlying112 rfl zat _ rfl) rfl ?_
   exact HT2.out.err (by rw [HV.out]) (by decide) _ _ _ _ _ _ _ _ _ _ _ _ _
 · rw [if_neg hb] at hV
   rw [decide_eq_false hb] at HW
   obtain ⟨s,hs⟩:∃s,mkB R=s:=⟨_,rfl⟩
   have hsR:bl s=R:=by rw [←hs];rfl
   have hsz:s.size=m:=by rw [←zaL,hsR,hlen]
   have hs1:0<s.size:=by omega
   have hs2:s.size≤400000:=by omega
   have hx:(s[0]'hs1).toNat=c.toNat:=by
     rw [←hsR] at hhd
     have h2:(bl s)[0]?=some c:=by rw [←List.head?_eq_getElem?];exact hhd
     have h3:s[0]=c:=by
       rw [List.getElem?_eq_getElem (by rw [zaL];omega),bl_get s 0 (by omega)] at h2
       exact Option.some.inj h2
     rw [h3]
   have hcx:c.toNat<256:=c.toNat_lt
   obtain ⟨x,hxx⟩:∃x,c.toNat=x:=⟨_,rfl⟩
   rw [hxx] at hx hcx hfb
   have HPOS:=Lib.hid hpos
   have HLE:=Lib.hid hle
   have HS:=Lib.hid hs
   have HSR:=Lib.hid hsR
   have hh:(48≤x∧x≤57)∨x=43∨x=45∨x=46∨(x<48∧x≠43∧x≠45∧x≠46)∨57<x:=by omega
   clear hlen hhd hb hpos hle hsR hsz hxx hm hm1
   rw [Bool.not_false,hs] at HW
   clear hs
   have HV0:=Lib.hid hV
   have HFB:=Lib.hid hfb
   clear hV hfb
   rcases hh with ⟨h1,h2⟩|rfl|rfl|rfl|⟨h1,h2,h3,h4⟩|h1
   case inr.inr.inr.inr.inl =>
     have HV:=Lib.hid (show V=(0,{ kind:=6,s:=R },t) by
       rw [HV0.out,if_neg (of_decide_eq_false (HFB.out.symm.trans (by unfold firstB;simp;omega)))])
     have e1:decide ((48:Int)≤x)=false:=by simp;omega
     have e2:((x:Int)==43)=false:=by rw [beq_eq_false_iff_ne];omega
     have e3:((x:Int)==45)=false:=by rw [beq_eq_false_iff_ne];omega
     have e4:((x:Int)==46)=false:=by rw [beq_eq_false_iff_ne];omega
     clear h1
     go_enter Tryz.func136,Tryz.ntmps136
     go_wp2_with fail
     rw [←HR.out]
     generalize w.alloc _=W1 at *
     refine HW.out.mono ?_
     rintro e w2 ⟨rfl,S2,hq2,hk2,-⟩
     have HT2:=Lib.hid (Tn.of HT0.out hk2)
     have HC:=Lib.hid (hq2.facts.2.2.2.2.1)
     rw [←HPOS.out] at HC
     obtain ⟨⟨k0,k1,k2,k3,k4,k5,k6,k7⟩,f0,f1,f2,f3,f4,f5,f6,f7⟩:=zap HT2.out.blk
     clear hq2 hk2 h2 h3 h4 hk hcx hsm
     go_wp2
     refine bodyPost_ret (zaa rfl _ _ _ 112 _ (0,0) _ rfl (set8 HT2.out.blk _ _ _ _ _ _ _ _) Tryz.underlying112 rfl zat _ rfl) rfl ?_
     have hss:=HS.out
     subst hss
     exact HT2.out.ok (x:={ kind:=6,s:=R }) HV.out HLE.out HC.out _ _ _ _ _ _ _ _
   case inr.inr.inr.inr.inr =>
     have HV:=Lib.hid (show V=(0,{ kind:=6,s:=R },t) by
       rw [HV0.out,if_neg (of_decide_eq_false (HFB.out.symm.trans (by unfold firstB;simp;omega)))])
     have e1:decide ((48:Int)≤x)=true:=by simp;omega
     have e0:decide ((x:Int)≤57)=false:=by simp;omega
     have e2:((x:Int)==43)=false:=by rw [beq_eq_false_iff_ne];omega
     have e3:((x:Int)==45)=false:=by rw [beq_eq_false_iff_ne];omega
     have e4:((x:Int)==46)=false:=by rw [beq_eq_false_iff_ne];omega
     clear h1
     go_enter Tryz.func136,Tryz.ntmps136
     go_wp2_with fail
     rw [←HR.out]
     generalize w.alloc _=W1 at *
     refine HW.out.mono ?_
     rintro e w2 ⟨rfl,S2,hq2,hk2,-⟩
     have HT2:=Lib.hid (Tn.of HT0.out hk2)
     have HC:=Lib.hid (hq2.facts.2.2.2.2.1)
     rw [←HPOS.out] at HC
     obtain ⟨⟨k0,k1,k2,k3,k4,k5,k6,k7⟩,f0,f1,f2,f3,f4,f5,f6,f7⟩:=zap HT2.out.blk
     clear hq2 hk2 hk hcx hsm
     go_wp2
     refine bodyPost_ret (zaa rfl _ _ _ 112 _ (0,0) _ rfl (set8 HT2.out.blk _ _ _ _ _ _ _ _) Tryz.underlying112 rfl zat _ rfl) rfl ?_
     have hss:=HS.out
     subst hss
     exact HT2.out.ok (x:={ kind:=6,s:=R }) HV.out HLE.out HC.out _ _ _ _ _ _ _ _
   all_goals
     have HV:=Lib.hid (show V=((zaF (bl s)).2.2,{ kind:=1,vk:=(zaF (bl s)).1,vn:=(zaF (bl s)).2.1 },t) by
       rw [HSR.out,HV0.out,if_pos (of_decide_eq_true (HFB.out.symm.trans (by unfold firstB;simp;try omega)))])
     try have e1:decide ((48:Int)≤x)=true:=by simp;omega
     try have e0:decide ((x:Int)≤57)=true:=by simp;omega
     try clear h1 h2
     go_enter Tryz.func136,Tryz.ntmps136
     go_wp2_with fail
     rw [←HR.out]
     generalize w.alloc _=W1 at *
     refine HW.out.mono ?_
     rintro e w2 ⟨rfl,S2,hq2,hk2,-⟩
     have HT2:=Lib.hid (Tn.of HT0.out hk2)
     have HC:=Lib.hid (hq2.facts.2.2.2.2.1)
     rw [←HPOS.out] at HC
     clear hq2 hk2 hk hcx hsm HT0 HW
     go_wp2_with fail
     refine (parse_any s w2 hs2).mono ?_
     rintro e w3 ⟨rfl,hb3⟩
     generalize zaF (bl s)=P at *
     have HT3:=Lib.hid ((HT2.out.on hb3).alloc (.cells (valC P.1 P.2.1 zbU) 48))
     have HC3:=Lib.hid (zbh (.cells (valC P.1 P.2.1 zbU) 48) (cell?_keep hb3 HC.out))
     obtain ⟨⟨k0,k1,k2,k3,k4,k5,k6,k7⟩,f0,f1,f2,f3,f4,f5,f6,f7⟩:=zap HT3.out.blk
     obtain ⟨P1,P2,P3⟩:=P
     simp only [] at *
     unfold valC zbU at *
     clear hb3 HT2 HC
     go_wp2
     refine bodyPost_ret (zaa rfl _ _ _ 112 _ (0,0) _ rfl (set8 HT3.out.blk _ _ _ _ _ _ _ _) Tryz.underlying112 rfl zat _ rfl) rfl ?_
     exact HT3.out.any (x:={ kind:=1,vk:=P1,vn:=P2 }) HV.out HLE.out HC3.out _ _ _ _ _ _ _ _
theorem zfi (t:List UInt8):t.drop (runN t)=[]↔runN t=t.length:=by
 rw [List.drop_eq_nil_iff]
 have:=zhx t
 omega
theorem tokV_reg {X:Src} {k:Nat} (hk:k<X.bs.length) (h:isRg (X.bs.getD k 0)=true):tokV X.last (X.bs.getD k 0) (X.bs.drop (k+1))=rgV X k:=by
 unfold tokV rgV
 rw [if_pos h,←za6 hk]
 simp only [regs_drop,zfi]
 rfl
def slV (last:Bool) (t:List UInt8):Int×Tk×List UInt8 :=
 if runN t=t.length∧last=false then (6,{ kind:=0 },[])
 else match zfK (regs t) with
   | none=>(17,{ kind:=0 },[])
   | some o=>(0,{ kind:=1,vk:=5,vs:=o },t.drop (runN t))
theorem tokV_slash (last:Bool) (t:List UInt8):tokV last 47 t=slV last t:=by
 unfold tokV slV
 rw [if_neg (by decide),if_neg (by decide),if_neg (by decide),if_neg (by decide),if_neg (by decide),if_neg (by decide),if_pos rfl]
 simp only [regs_drop,zfi]
 rfl
def txK (last:Bool) (H:Option (List UInt8×List UInt8)):Int×Tk×List UInt8:=match H with
 | none=>(zbb last,{ kind:=0 },[])
 | some (x,r)=>(0,{ kind:=1,vk:=4,vs:=x },r)
theorem tokV_text (last:Bool) (t:List UInt8):tokV last 40 t=txK last (zaX last 1 [] t):=by
 unfold tokV txK
 rw [if_neg (by decide),if_neg (by decide),if_neg (by decide),if_neg (by decide),if_neg (by decide),if_pos rfl]
 cases zaX last 1 [] t<;>rfl
theorem tokV_close (X:Src) (k:Nat):tokV X.last 62 (X.bs.drop k)=clV X k:=by
 unfold tokV clV
 rw [if_neg (by decide),if_neg (by decide),if_neg (by decide),if_neg (by decide),if_pos rfl]
 cases X.bs.drop k<;>rfl
theorem tokV_open (X:Src) (k:Nat):tokV X.last 60 (X.bs.drop k)=opV X k:=by
 unfold tokV opV
 rw [if_neg (by decide),if_neg (by decide),if_neg (by decide),if_pos rfl]
 cases X.bs.drop k with
 | nil=>rfl
 | cons d u=>rfl
theorem tokV_91 (last:Bool) (t:List UInt8):tokV last 91 t=(0,{ kind:=2 },t):=by
 unfold tokV;rw [if_neg (by decide),if_pos rfl]
theorem tokV_93 (last:Bool) (t:List UInt8):tokV last 93 t=(0,{ kind:=3 },t):=by
 unfold tokV;rw [if_neg (by decide),if_neg (by decide),if_pos rfl]
theorem tokV_no (last:Bool) (c:UInt8) (t:List UInt8) (h:isRg c=false) (h1:c≠91) (h2:c≠93) (h3:c≠60) (h4:c≠62) (h5:c≠40) (h6:c≠47):tokV last c t=(11,{ kind:=0 },[]):=by
 unfold tokV;rw [if_neg (by simp [h]),if_neg h1,if_neg h2,if_neg h3,if_neg h4,if_neg h5,if_neg h6]
theorem Tn.pass {w W:World} {S:Nat→Prop} {p r:Nat} {X:Src} {V:Int×Tk×List UInt8} (h:Tn w S p r W) {k vk vn:Int} {vs s:ByteArray} {er:Int} (he:V.1=er)
   (hf:V.1=0→k=V.2.1.kind∧vk=V.2.1.vk∧vn=V.2.1.vn∧vs=mkB V.2.1.vs∧s=mkB V.2.1.s∧V.2.2.length≤X.bs.length∧W.cell? ⟨p,3,none⟩=some (.int .i64 ((X.bs.length-V.2.2.length:Nat):Int))) (y0 y1 y2 y3 y4 y5 y6 y7:Value) :
   zcp w S p X V (.returned (.tuple #[.agg (tokC k 0 0 vk vn vs s),.int .i64 er]))
     ((((((((W.setCell ⟨r,0,none⟩ y0).setCell ⟨r,1,none⟩ y1).setCell ⟨r,2,none⟩ y2).setCell ⟨r,3,none⟩ y3).setCell ⟨r,4,none⟩ y4).setCell ⟨r,5,none⟩ y5).setCell ⟨r,6,none⟩ y6).setCell ⟨r,7,none⟩ y7):=by
 refine ⟨zbL h.keeps h.wr _ _ _ _ _ _ _ _,k,vk,vn,vs,s,by rw [he],fun h0=>?_⟩
 obtain ⟨a,b,c,d,e,f,g⟩:=hf h0
 exact ⟨a,b,c,d,e,f,by rw [zcS h.pr];exact g⟩
theorem token_any {w:World} {S:Nat→Prop} {p:Nat} {X:Src} {k:Nat} (h:ScQ w S p X [] k) (hk:k<X.bs.length) :
   Calls Tryz.prog 99 #[.pointer (some ⟨p,0,none⟩),.int .u8 (X.bs.getD k 0).toNat] w (zcp w S p X (tokV X.last (X.bs.getD k 0) (X.bs.drop (k+1)))):=by
 obtain ⟨V,hV⟩:∃V,V=tokV X.last (X.bs.getD k 0) (X.bs.drop (k+1)):=⟨_,rfl⟩
 rw [←hV]
 have hT:=Tm.start h
 obtain ⟨r,hr⟩:∃r,r=w.heap.size:=⟨_,rfl⟩
 rw [←hr] at hT
 have HT0:=Lib.hid hT
 have HR:=Lib.hid hr
 have hsm:=h.facts.2.2.2.1
 have hkb:k≤399999:=by omega
 have HRG:=Lib.hid (fun W=>zgh (X.bs.getD k 0) W)
 rw [←rgI_eq] at HRG
 clear hT hr h hsm
 by_cases hrg:isRg (X.bs.getD k 0)=true
 · have HV:=Lib.hid (hV.trans (tokV_reg hk hrg))
   have HK:=Lib.hid (show ∀W:World,Tm w S p r X k W→Calls Tryz.prog 136 #[.pointer (some ⟨p,0,none⟩)] W (zcp W S p X (rgV X k)) from fun _ h=>regulars_any h.sc hk hrg)
   rw [hrg] at HRG
   clear hV hrg hk
   generalize (X.bs.getD k 0).toNat=x at *
   go_enter Tryz.func99,Tryz.ntmps99
   go_wp2_with (go_at_call 135;refine (HRG.out _).mono ?_;rintro e w' ⟨rfl,rfl⟩)
   rw [←HR.out]
   generalize w.alloc _=W1 at *
   refine (HK.out _ HT0.out).mono ?_
   rintro e w2 ⟨hk2,a,b,c,s1,s2,rfl,hf⟩
   have HT2:=Lib.hid (Tn.of HT0.out hk2)
   obtain ⟨⟨k0,k1,k2,k3,k4,k5,k6,k7⟩,f0,f1,f2,f3,f4,f5,f6,f7⟩:=zap HT2.out.blk
   have HF:=Lib.hid hf
   rw [HV.out]
   obtain ⟨er,her⟩:∃er,(rgV X k).1=er:=⟨_,rfl⟩
   rw [her]
   have HE:=Lib.hid her
   unfold tokC
   clear hk2 hf her
   go_wp2
   refine bodyPost_ret (zaa rfl _ _ _ 112 _ (0,0) _ rfl (set8 HT2.out.blk _ _ _ _ _ _ _ _) Tryz.underlying112 rfl zat _ rfl) rfl ?_
   rw [HV.out]
   exact HT2.out.pass HE.out HF.out _ _ _ _ _ _ _ _
 · have hrg' : isRg (X.bs.getD k 0) = false := by simpa using hrg
   rw [hrg'] at HRG
   have HRF:=Lib.hid hrg'
   have HK:=Lib.hid hk
   clear hrg hrg'
   by_cases h91:X.bs.getD k 0=91
   · have hv:=hV
     rw [h91,tokV_91 _ _] at hv
     have HV:=Lib.hid hv
     have hx:(X.bs.getD k 0).toNat=91:=by rw [h91];rfl
     rw [hx] at HRG ⊢
     clear hV hv hx h91 hk
     go_enter Tryz.func99,Tryz.ntmps99
     go_wp2_with fail
     rw [←HR.out]
     generalize w.alloc _=W1 at *
     refine (HRG.out _).mono ?_
     rintro e w' ⟨rfl,rfl⟩
     have HT2:=Lib.hid (HT0.out.next HK.out)
     obtain ⟨-,-,-,-,c3,c4,fr⟩:=HT0.out.sc.facts
     have f3:=fr 3
     clear fr
     obtain ⟨⟨k0,k1,k2,k3,k4,k5,k6,k7⟩,f0,f1,f2,f3',f4,f5,f6,f7⟩:=zap HT2.out.blk
     go_wp2
     refine bodyPost_ret (zaa rfl _ _ _ 112 _ (0,0) _ rfl (set8 HT2.out.blk _ _ _ _ _ _ _ _) Tryz.underlying112 rfl zat _ rfl) rfl ?_
     exact HT2.out.ok (x:={ kind:=2 }) HV.out _ _ _ _ _ _ _ _
   by_cases h93:X.bs.getD k 0=93
   · have hv:=hV
     rw [h93,tokV_93 _ _] at hv
     have HV:=Lib.hid hv
     have hx:(X.bs.getD k 0).toNat=93:=by rw [h93];rfl
     rw [hx] at HRG ⊢
     clear hV hv hx h93 hk
     go_enter Tryz.func99,Tryz.ntmps99
     go_wp2_with fail
     rw [←HR.out]
     generalize w.alloc _=W1 at *
     refine (HRG.out _).mono ?_
     rintro e w' ⟨rfl,rfl⟩
     have HT2:=Lib.hid (HT0.out.next HK.out)
     obtain ⟨-,-,-,-,c3,c4,fr⟩:=HT0.out.sc.facts
     have f3:=fr 3
     clear fr
     obtain ⟨⟨k0,k1,k2,k3,k4,k5,k6,k7⟩,f0,f1,f2,f3',f4,f5,f6,f7⟩:=zap HT2.out.blk
     go_wp2
     refine bodyPost_ret (zaa rfl _ _ _ 112 _ (0,0) _ rfl (set8 HT2.out.blk _ _ _ _ _ _ _ _) Tryz.underlying112 rfl zat _ rfl) rfl ?_
     exact HT2.out.ok (x:={ kind:=3 }) HV.out _ _ _ _ _ _ _ _
   by_cases h60:X.bs.getD k 0=60
   · have hv:=hV
     rw [h60,tokV_open X (k+1)] at hv
     have HV:=Lib.hid hv
     have hx:(X.bs.getD k 0).toNat=60:=by rw [h60];rfl
     rw [hx] at HRG ⊢
     clear hV hv hx h60 hk
     go_enter Tryz.func99,Tryz.ntmps99
     go_wp2_with fail
     rw [←HR.out]
     generalize w.alloc _=W1 at *
     refine (HRG.out _).mono ?_
     rintro e w' ⟨rfl,rfl⟩
     have HT2:=Lib.hid (HT0.out.next HK.out)
     obtain ⟨-,-,-,-,c3,c4,fr⟩:=HT0.out.sc.facts
     have f3:=fr 3
     clear fr
     go_wp2_with fail
     refine (opening_any HT2.out.sc (by omega)).mono ?_
     rintro e w2 ⟨hk2,a,b,c,s1,s2,rfl,hf⟩
     have HT3:=Lib.hid (Tn.of HT2.out hk2)
     obtain ⟨⟨k0,k1,k2,k3,k4,k5,k6,k7⟩,f0,f1,f2,f3,f4,f5,f6,f7⟩:=zap HT3.out.blk
     have HF:=Lib.hid hf
     obtain ⟨er,her⟩:∃er,(opV X (k+1)).1=er:=⟨_,rfl⟩
     rw [her]
     have HE:=Lib.hid her
     unfold tokC
     clear hk2 hf her c3 c4
     go_wp2
     refine bodyPost_ret (zaa rfl _ _ _ 112 _ (0,0) _ rfl (set8 HT3.out.blk _ _ _ _ _ _ _ _) Tryz.underlying112 rfl zat _ rfl) rfl ?_
     rw [HV.out]
     exact HT3.out.pass HE.out HF.out _ _ _ _ _ _ _ _
   by_cases h62:X.bs.getD k 0=62
   · have hv:=hV
     rw [h62,tokV_close X (k+1)] at hv
     have HV:=Lib.hid hv
     have hx:(X.bs.getD k 0).toNat=62:=by rw [h62];rfl
     rw [hx] at HRG ⊢
     clear hV hv hx h62 hk
     go_enter Tryz.func99,Tryz.ntmps99
     go_wp2_with fail
     rw [←HR.out]
     generalize w.alloc _=W1 at *
     refine (HRG.out _).mono ?_
     rintro e w' ⟨rfl,rfl⟩
     have HT2:=Lib.hid (HT0.out.next HK.out)
     obtain ⟨-,-,-,-,c3,c4,fr⟩:=HT0.out.sc.facts
     have f3:=fr 3
     clear fr
     go_wp2_with fail
     refine (closing_any HT2.out.sc).mono ?_
     rintro e w2 ⟨hk2,a,b,c,s1,s2,rfl,hf⟩
     have HT3:=Lib.hid (Tn.of HT2.out hk2)
     obtain ⟨⟨k0,k1,k2,k3,k4,k5,k6,k7⟩,f0,f1,f2,f3,f4,f5,f6,f7⟩:=zap HT3.out.blk
     have HF:=Lib.hid hf
     obtain ⟨er,her⟩:∃er,(clV X (k+1)).1=er:=⟨_,rfl⟩
     rw [her]
     have HE:=Lib.hid her
     unfold tokC
     clear hk2 hf her c3 c4
     go_wp2
     refine bodyPost_ret (zaa rfl _ _ _ 112 _ (0,0) _ rfl (set8 HT3.out.blk _ _ _ _ _ _ _ _) Tryz.underlying112 rfl zat _ rfl) rfl ?_
     rw [HV.out]
     exact HT3.out.pass HE.out HF.out _ _ _ _ _ _ _ _
   by_cases h40:X.bs.getD k 0=40
   · have hv:=hV
     rw [h40,tokV_text _ _] at hv
     have HV:=Lib.hid hv
     have hx:(X.bs.getD k 0).toNat=40:=by rw [h40];rfl
     rw [hx] at HRG ⊢
     clear hV hv hx h40 hk
     go_enter Tryz.func99,Tryz.ntmps99
     go_wp2_with fail
     rw [←HR.out]
     generalize w.alloc _=W1 at *
     refine (HRG.out _).mono ?_
     rintro e w' ⟨rfl,rfl⟩
     have HT2:=Lib.hid (HT0.out.next HK.out)
     obtain ⟨-,-,-,-,c3,c4,fr⟩:=HT0.out.sc.facts
     have f3:=fr 3
     clear fr
     have HTX:=Lib.hid (text_any HT2.out.sc (by omega))
     generalize zaX X.last 1 [] (X.bs.drop (k+1))=H at *
     go_wp2_with fail
     refine HTX.out.mono ?_
     rintro e w2 ⟨hk2,hh⟩
     have HT3:=Lib.hid (Tn.of HT2.out hk2)
     clear hk2 c3 c4 f3 HTX
     cases H
     · obtain rfl:=hh
       have HN:=Lib.hid (zhi X.last)
       have HL:=Lib.hid (show V.1=zbb X.last by rw [HV.out];rfl)
       generalize zbb X.last=er at *
       have HT4:=Lib.hid (HT3.out.alloc (.cells (valC 0 0 zbU) 48))
       obtain ⟨⟨k0,k1,k2,k3,k4,k5,k6,k7⟩,f0,f1,f2,f3,f4,f5,f6,f7⟩:=zap HT4.out.blk
       unfold valC zbU at *
       go_wp2
       refine bodyPost_ret (zaa rfl _ _ _ 112 _ (0,0) _ rfl (set8 HT4.out.blk _ _ _ _ _ _ _ _) Tryz.underlying112 rfl zat _ rfl) rfl ?_
       exact HT4.out.err HL.out HN.out _ _ _ _ _ _ _ _ _ _ _ _ _
     · rename_i val
       obtain ⟨xs,t⟩:=val
       obtain ⟨rfl,h2,h3⟩:=hh
       have HL:=Lib.hid (show V=(0,{ kind:=1,vk:=4,vs:=xs },t) from HV.out)
       have HA:=Lib.hid (fun x=>zbh x h3)
       have HB:=Lib.hid h2
       obtain ⟨B,hB⟩:∃B,mkB xs=B:=⟨_,rfl⟩
       rw [hB]
       have HBB:=Lib.hid hB
       have HT4:=Lib.hid (HT3.out.alloc (.cells (valC 4 0 B) 48))
       obtain ⟨⟨k0,k1,k2,k3,k4,k5,k6,k7⟩,f0,f1,f2,f3,f4,f5,f6,f7⟩:=zap HT4.out.blk
       unfold valC at *
       clear h2 h3 hB
       go_wp2
       refine bodyPost_ret (zaa rfl _ _ _ 112 _ (0,0) _ rfl (set8 HT4.out.blk _ _ _ _ _ _ _ _) Tryz.underlying112 rfl zat _ rfl) rfl ?_
       have hbb:=HBB.out
       subst hbb
       exact HT4.out.ok (x:={ kind:=1,vk:=4,vs:=xs }) HL.out HB.out (HA.out _) _ _ _ _ _ _ _ _
   by_cases h47:X.bs.getD k 0=47
   · have hv:=hV
     rw [h47,tokV_slash _ _] at hv
     have HV:=Lib.hid hv
     have hx:(X.bs.getD k 0).toNat=47:=by rw [h47];rfl
     rw [hx] at HRG ⊢
     clear hV hv hx h47 hk
     go_enter Tryz.func99,Tryz.ntmps99
     go_wp2_with fail
     rw [←HR.out]
     generalize w.alloc _=W1 at *
     refine (HRG.out _).mono ?_
     rintro e w' ⟨rfl,rfl⟩
     have HT2:=Lib.hid (HT0.out.next HK.out)
     obtain ⟨-,-,-,-,c3,c4,fr⟩:=HT0.out.sc.facts
     have f3:=fr 3
     clear fr
     have HW:=Lib.hid (word_any HT2.out.sc (Nat.lt_of_le_of_lt (Nat.zero_le _) HK.out))
     have hdl:(X.bs.drop (k+1)).length=X.bs.length-(k+1):=by simp
     have hm:=zhx (X.bs.drop (k+1))
     have hlen:(regs (X.bs.drop (k+1))).length=runN (X.bs.drop (k+1)):=rfl
     have hpos:X.bs.length-((X.bs.drop (k+1)).drop (runN (X.bs.drop (k+1)))).length=k+1+runN (X.bs.drop (k+1)):=by
       have:=HK.out
       rw [List.length_drop,hdl];omega
     have hle:((X.bs.drop (k+1)).drop (runN (X.bs.drop (k+1)))).length≤X.bs.length:=by rw [List.length_drop,hdl];omega
     have hBB:(decide (k+1+runN (X.bs.drop (k+1))<X.bs.length)||X.last)=!decide (runN (X.bs.drop (k+1))=(X.bs.drop (k+1)).length∧X.last=false):=by
       have:=HK.out
       rw [hdl] at hm ⊢
       cases X.last
       · simp only [Bool.or_false,and_true]
         rw [Bool.eq_iff_iff];simp;omega
       · simp
     have hv:=HV.out
     unfold slV at hv
     unfold zhS at HW
     rw [hBB] at HW
     have hsm:=HT2.out.sc.facts.2.2.2.1
     rw [hdl] at hm
     clear hBB hdl
     generalize (X.bs.drop (k+1)).drop (runN (X.bs.drop (k+1)))=t at *
     generalize regs (X.bs.drop (k+1))=R at *
     generalize runN (X.bs.drop (k+1))=m at *
     have HPOS:=Lib.hid hpos
     have HLE:=Lib.hid hle
     have hR1:R.length≤400000:=by omega
     clear hpos hle hm hlen hsm
     by_cases hb:m=(X.bs.drop (k+1)).length∧X.last=false
     · rw [if_pos hb] at hv
       rw [decide_eq_true hb] at HW
       have HVV:=Lib.hid hv
       clear hv hb
       go_wp2_with fail
       refine HW.out.mono ?_
       rintro e w2 ⟨rfl,S2,hq2,hk2,-⟩
       have HT3:=Lib.hid (Tn.of HT2.out hk2)
       clear c3 c4 f3 hq2 hk2
       obtain ⟨⟨k0,k1,k2,k3,k4,k5,k6,k7⟩,f0,f1,f2,f3,f4,f5,f6,f7⟩:=zap HT3.out.blk
       go_wp2
       refine bodyPost_ret (zaa rfl _ _ _ 112 _ (0,0) _ rfl (set8 HT3.out.blk _ _ _ _ _ _ _ _) Tryz.underlying112 rfl zat _ rfl) rfl ?_
       exact HT3.out.err (by rw [HVV.out]) (by decide) _ _ _ _ _ _ _ _ _ _ _ _ _
     · rw [if_neg hb] at hv
       rw [decide_eq_false hb] at HW
       obtain ⟨s,hs⟩:∃s,mkB R=s:=⟨_,rfl⟩
       have hs2:s.size≤400000:=by rw [←hs,zaI];exact hR1
       rw [show R=bl s by rw [←hs];rfl] at hv
       rw [Bool.not_false,hs] at HW
       have HVV:=Lib.hid hv
       clear hv hb hs
       go_wp2_with fail
       refine HW.out.mono ?_
       rintro e w2 ⟨rfl,S2,hq2,hk2,-⟩
       have HT3:=Lib.hid (Tn.of HT2.out hk2)
       have HC:=Lib.hid (hq2.facts.2.2.2.2.1)
       rw [←HPOS.out] at HC
       clear c3 c4 f3 hq2 hk2
       go_wp2_with fail
       refine (name_any s w2 hs2).mono ?_
       rintro e w3 ⟨hb3,hh⟩
       have HT4:=Lib.hid (HT3.out.on hb3)
       have HC4:=Lib.hid (cell?_keep hb3 HC.out)
       clear hb3
       generalize zfK (bl s)=N at *
       cases N
       · obtain rfl:=hh
         have HT5:=Lib.hid (HT4.out.alloc (.cells (valC 0 0 zbU) 48))
         obtain ⟨⟨k0,k1,k2,k3,k4,k5,k6,k7⟩,f0,f1,f2,f3,f4,f5,f6,f7⟩:=zap HT5.out.blk
         unfold valC zbU at *
         go_wp2
         refine bodyPost_ret (zaa rfl _ _ _ 112 _ (0,0) _ rfl (set8 HT5.out.blk _ _ _ _ _ _ _ _) Tryz.underlying112 rfl zat _ rfl) rfl ?_
         exact HT5.out.err (by rw [HVV.out]) (by decide) _ _ _ _ _ _ _ _ _ _ _ _ _
       · rename_i o
         obtain rfl:=hh
         obtain ⟨B,hB⟩:∃B,mkB o=B:=⟨_,rfl⟩
         rw [hB]
         have HBB:=Lib.hid hB
         have HA:=Lib.hid (fun x=>zbh x HC4.out)
         have HT5:=Lib.hid (HT4.out.alloc (.cells (valC 5 0 B) 48))
         obtain ⟨⟨k0,k1,k2,k3,k4,k5,k6,k7⟩,f0,f1,f2,f3,f4,f5,f6,f7⟩:=zap HT5.out.blk
         unfold valC at *
         clear hB
         go_wp2
         refine bodyPost_ret (zaa rfl _ _ _ 112 _ (0,0) _ rfl (set8 HT5.out.blk _ _ _ _ _ _ _ _) Tryz.underlying112 rfl zat _ rfl) rfl ?_
         have hbb:=HBB.out
         subst hbb
         exact HT5.out.ok (x:={ kind:=1,vk:=5,vs:=o }) HVV.out HLE.out (HA.out _) _ _ _ _ _ _ _ _
   have HV:=Lib.hid (hV.trans (tokV_no _ _ _ HRF.out h91 h93 h60 h62 h40 h47))
   have hne : ∀ d : UInt8, X.bs.getD k 0 ≠ d → ((((X.bs.getD k 0).toNat : Nat) : Int) == (d.toNat : Int)) = false := fun d hd => by
     rw [beq_eq_false_iff_ne];exact fun e=>hd (UInt8.toNat_inj.1 (Int.ofNat_inj.1 e))
   have e1:=hne 91 h91
   have e2:=hne 93 h93
   have e3:=hne 60 h60
   have e4:=hne 62 h62
   have e5:=hne 40 h40
   have e6:=hne 47 h47
   simp only [show (91:UInt8).toNat=91 from rfl,show (93:UInt8).toNat=93 from rfl,show (60:UInt8).toNat=60 from rfl,show (62:UInt8).toNat=62 from rfl,show (40:UInt8).toNat=40 from rfl,show (47:UInt8).toNat=47 from rfl] at e1 e2 e3 e4 e5 e6
   clear hV h91 h93 h60 h62 h40 h47 hne hk
   generalize (X.bs.getD k 0).toNat=x at *
   go_enter Tryz.func99,Tryz.ntmps99
   go_wp2_with fail
   rw [←HR.out]
   generalize w.alloc _=W1 at *
   refine (HRG.out _).mono ?_
   rintro e w' ⟨rfl,rfl⟩
   have HT2:=Lib.hid (HT0.out.next HK.out)
   obtain ⟨-,-,-,-,c3,c4,fr⟩:=HT0.out.sc.facts
   have f3:=fr 3
   clear fr
   obtain ⟨⟨k0,k1,k2,k3,k4,k5,k6,k7⟩,f0,f1,f2,f3',f4,f5,f6,f7⟩:=zap HT2.out.blk
   go_wp2
   refine bodyPost_ret (zaa rfl _ _ _ 112 _ (0,0) _ rfl (set8 HT2.out.blk _ _ _ _ _ _ _ _) Tryz.underlying112 rfl zat _ rfl) rfl ?_
   exact HT2.out.err (by rw [HV.out]) (by decide) _ _ _ _ _ _ _ _ _ _ _ _ _
def skN (bs:List UInt8) (b:Bool) (j:Nat):Nat:=if bs.length≤j then bs.length else j+zaP b (bs.drop j)
theorem skN_end {bs:List UInt8} {b:Bool} {j:Nat} (h:bs.length≤j):skN bs b j=bs.length:=by unfold skN;rw [if_pos h]
theorem skN_go {bs:List UInt8} {b b':Bool} {j:Nat} (h:j<bs.length) (hs:zaP b (bs.getD j 0::bs.drop (j+1))=1+zaP b' (bs.drop (j+1))):skN bs b j=skN bs b' (j+1):=by
 unfold skN
 rw [if_neg (by omega)]
 have hd:bs.drop j=bs.getD j 0::bs.drop (j+1):=by
   rw [List.drop_eq_getElem_cons h];simp [List.getD,h]
 rw [hd,hs]
 by_cases h1:bs.length≤j+1
 · rw [if_pos h1,List.drop_eq_nil_of_le h1]
   simp only [zaP]
   omega
 · rw [if_neg h1];omega
theorem skN_stop {bs:List UInt8} {j:Nat} (h:j<bs.length) (h1:bs.getD j 0≠37) (h2:isSp (bs.getD j 0)=false):skN bs false j=j:=by
 unfold skN
 rw [if_neg (by omega)]
 have hd:bs.drop j=bs.getD j 0::bs.drop (j+1):=by
   rw [List.drop_eq_getElem_cons h];simp [List.getD,h]
 rw [hd,zaP,if_neg h1,if_neg (by rw [h2];decide),Nat.add_zero]
theorem skipV_skN {bs:List UInt8} {k:Int} (h:0≤k):zaW bs k=skN bs false k.toNat:=by
 unfold zaW skN
 rw [if_neg (by omega)]
 by_cases h1:(bs.length:Int)≤k
 · rw [if_pos h1,if_pos (by omega)]
 · rw [if_neg h1,if_neg (by omega)]
theorem skip_any {w:World} {a:Option Addr} {cap:Nat} {bs:List UInt8} (hr:Row w 1 a bs.length cap (bs.map u8C)) (hn:bs.length≤400000) (k:Int) :
   Calls Tryz.prog 98 #[.slice a bs.length cap,.int .i64 k] w fun e w'=>e=.returned (.int .i64 (zaW bs k:Nat))∧w=w':=by
 obtain ⟨V,hV⟩:∃V,V=zaW bs k:=⟨_,rfl⟩
 rw [←hV]
 by_cases hk:k<0
 · have HV := Lib.hid (show V = 0 by rw [hV]; unfold zaW; rw [if_pos hk])
   have hkd:decide (k<0)=true:=decide_eq_true hk
   clear hV hr
   go_enter Tryz.func98,Tryz.ntmps98
   go_wp2
   go_ret
   exact ⟨by rw [HV.out];rfl,rfl⟩
 · have hv := hV.trans (skipV_skN (by omega))
   obtain ⟨j0,hj0⟩:∃j:Nat,k=j:=⟨k.toNat,by omega⟩
   subst hj0
   rw [Int.toNat_natCast] at hv
   have HV:=Lib.hid hv
   have hkd:decide ((j0:Int)<0)=false:=decide_eq_false (by omega)
   have HC:=Lib.hid (fun j (hj:j<bs.length)=>hr.at 0 j hj)
   clear hV hr hv hk
   go_enter Tryz.func98,Tryz.ntmps98
   go_wp2
   go_loop [1, 5] (fun i c => ∃ (j : Nat) (b : Bool), i = .int .i64 j ∧ c = .bool b ∧ Hid (V = skN bs b j))
     (fun i _=>bs.length-(intOf i).toNat)
   case atStart=>exact ⟨j0,false,rfl,rfl,HV⟩
   case round =>
     obtain ⟨j,b,rfl,rfl,HJ⟩:=hrel
     by_cases hj:j<bs.length
     · obtain ⟨b0,off,rfl,-,hc⟩:=HC.out j hj
       have hcj:=hc j hj
       unfold u8C at hcj
       have hji:decide ((j:Int)<bs.length)=true:=by simp;exact hj
       have hjm:j≤399999:=by omega
       have HSP:=Lib.hid (fun W=>zfT (bs.getD j 0).toNat W)
       rw [←spI_eq] at HSP
       have HG:=Lib.hid (fun b b'=>@skN_go bs b b' j hj)
       have HST:=Lib.hid (fun h1 h2=>@skN_stop bs j hj h1 h2)
       have HM:=Lib.hid (show bs.length-(j+1)<bs.length-j by omega)
       have hjd:decide (j<bs.length)=true:=decide_eq_true hj
       clear hc HC hn hkd
       generalize bs.getD j 0=c at *
       cases b
       · by_cases h37:c=37
         · have hx : c.toNat = 37 := by rw [h37]; rfl
           have HV2:=Lib.hid (HJ.out.trans (HG.out false true (by rw [h37];simp [zaP])))
           rw [hx] at hcj
           clear hx h37
           go_wp2
           go_round
           case rel=>exact ⟨j+1,true,by go_num,rfl,HV2⟩
           case measure=>simpa [intOf] using HM.out
         · have hx : ((c.toNat : Int) == 37) = false := by rw [beq_eq_false_iff_ne]; exact fun e => h37 (UInt8.toNat_inj.1 (Int.ofNat_inj.1 e))
           obtain ⟨sp,hsp⟩:∃sp,isSp c=sp:=⟨_,rfl⟩
           rw [hsp] at HSP
           have HS:=Lib.hid hsp
           have H37:=Lib.hid h37
           clear h37 hsp
           cases sp
           · have HV2:=Lib.hid (HJ.out.trans (HST.out H37.out HS.out))
             generalize c.toNat=x at *
             go_wp2_with (go_at_call 134;refine (HSP.out _).mono ?_;rintro e w' ⟨rfl,rfl⟩)
             go_ret
             exact ⟨by rw [HV2.out];rfl,rfl⟩
           · have HV2 := Lib.hid (HJ.out.trans (HG.out false false (by rw [zaP, if_neg H37.out, if_pos HS.out])))
             generalize c.toNat=x at *
             go_wp2_with (go_at_call 134;refine (HSP.out _).mono ?_;rintro e w' ⟨rfl,rfl⟩)
             go_round
             case rel=>exact ⟨j+1,false,by go_num,rfl,HV2⟩
             case measure=>simpa [intOf] using HM.out
       · have HV2 := Lib.hid (HJ.out.trans (HG.out true (c != 10 && c != 13) (by rw [zaP])))
         by_cases h10:c=10
         · have hx : c.toNat = 10 := by rw [h10]; rfl
           rw [hx] at hcj
           rw [show (c != 10&&c != 13)=false by rw [h10];rfl] at HV2
           clear hx h10
           go_wp2
           go_round
           case rel=>exact ⟨j+1,false,by go_num,rfl,HV2⟩
           case measure=>simpa [intOf] using HM.out
         · by_cases h13:c=13
           · have hx : c.toNat = 13 := by rw [h13]; rfl
             rw [hx] at hcj
             rw [show (c != 10&&c != 13)=false by rw [h13];rfl] at HV2
             clear hx h10 h13
             go_wp2
             go_round
             case rel=>exact ⟨j+1,false,by go_num,rfl,HV2⟩
             case measure=>simpa [intOf] using HM.out
           · rw [show (c != 10 && c != 13) = true by simp [h10, h13]] at HV2
             have e1:((c.toNat:Int)==10)=false:=by rw [beq_eq_false_iff_ne];exact fun e=>h10 (UInt8.toNat_inj.1 (Int.ofNat_inj.1 e))
             have e2:((c.toNat:Int)==13)=false:=by rw [beq_eq_false_iff_ne];exact fun e=>h13 (UInt8.toNat_inj.1 (Int.ofNat_inj.1 e))
             have e3:((c.toNat:Int) != 10)=true:=by simp only [bne,e1,Bool.not_false]
             have e4:((c.toNat:Int) != 13)=true:=by simp only [bne,e2,Bool.not_false]
             clear h10 h13
             generalize c.toNat=x at *
             go_wp2
             go_round
             case rel=>exact ⟨j+1,true,by go_num,rfl,HV2⟩
             case measure=>simpa [intOf] using HM.out
     · have hji : decide ((j : Int) < bs.length) = false := decide_eq_false (by omega)
       have HV2:=Lib.hid (HJ.out.trans (skN_end (by omega)))
       have hjd:decide (j<bs.length)=false:=decide_eq_false hj
       clear hj HC
       go_wp2
       go_ret
       exact ⟨by rw [HV2.out];rfl,rfl⟩
def tokN (x:Tk) (f t:Int):Array Value:=#[.int .i64 x.kind,.int .i64 f,.int .i64 t,.int .i64 x.vk,.int .i64 x.vn,.string (mkB x.vs),.slice none 0 0,.string (mkB x.s)]
def zeT (w:World) (V:Tk×Int×Int×Int) (e:Ending) (w':World):Prop :=
 e=.returned (.tuple #[.agg (tokN V.1 V.2.1 V.2.2.1),.int .i64 V.2.2.2])∧Below w.heap.size w w'
structure Nx (w:World) (r:Nat) (W:World):Prop where
 blk:W.heap[r]?=some (.cells #[.int .i64 0,.int .i64 0,.int .i64 0,.int .i64 0,.int .i64 0,.string ⟨#[]⟩,.slice none 0 0,.string ⟨#[]⟩] 112 (0,0))
 bel:Below w.heap.size w W
 wr:w.heap.size≤r
theorem Nx.start (w:World):Nx w w.heap.size (w.alloc (.cells #[.int .i64 0,.int .i64 0,.int .i64 0,.int .i64 0,.int .i64 0,.string ⟨#[]⟩,.slice none 0 0,.string ⟨#[]⟩] 112)) :=
 ⟨zac _ rfl,zah _ _,Nat.le_refl _⟩
theorem Nx.on {w W W':World} {r:Nat} (h:Nx w r W) (hb:Below W.heap.size W W'):Nx w r W':=⟨zab hb h.blk,h.bel.trans (hb.mono h.bel.size),h.wr⟩
theorem Nx.alloc {w W:World} {r:Nat} (h:Nx w r W) (o:Obj):Nx w r (W.alloc o):=h.on (zah W o)
theorem Nx.set {w W:World} {r:Nat} (h:Nx w r W) {b:Nat} (hb:w.heap.size≤b) (hn:b≠r) (i:Nat) (v:Value):Nx w r (W.setCell ⟨b,i,none⟩ v) :=
 ⟨by rw [heap_setCell_other _ _ _ _ (Ne.symm hn)];exact h.blk,h.bel.setCell hb v,h.wr⟩
theorem Nx.drewN {w W:World} {r:Nat} (h:Nx w r W) (q:Nat):Nx w r (W.drewN q):=⟨h.blk,zad h.bel q,h.wr⟩
theorem Nx.keeps {w W W' : World} {r p : Nat} (h : Nx w r W) (hk : Keeps (fun b => b = p) W W') (hp : w.heap.size ≤ p) (hn : p ≠ r) : Nx w r W' :=
 ⟨hk.obj h.blk (Ne.symm hn),h.bel.trans (hk.below h.bel.size (fun b hb=>by rw [hb];exact hp)),h.wr⟩
theorem zbj {B:Nat} {w0 w:World} (h:Below B w0 w) {b:Nat} (hb:B≤b) (y0 y1 y2 y3 y4 y5 y6 y7:Value) :
   Below B w0 ((((((((w.setCell ⟨b,0,none⟩ y0).setCell ⟨b,1,none⟩ y1).setCell ⟨b,2,none⟩ y2).setCell ⟨b,3,none⟩ y3).setCell ⟨b,4,none⟩ y4).setCell ⟨b,5,none⟩ y5).setCell ⟨b,6,none⟩ y6).setCell ⟨b,7,none⟩ y7) :=
 (((((((h.setCell hb _).setCell hb _).setCell hb _).setCell hb _).setCell hb _).setCell hb _).setCell hb _).setCell hb _
theorem Nx.fin {w W:World} {r:Nat} {V:Tk×Int×Int×Int} {x:Tk} {f t er:Int} (h:Nx w r W) (hV:V=(x,f,t,er)) (y0 y1 y2 y3 y4 y5 y6 y7:Value) :
   zeT w V (.returned (.tuple #[.agg (tokN x f t),.int .i64 er]))
     ((((((((W.setCell ⟨r,0,none⟩ y0).setCell ⟨r,1,none⟩ y1).setCell ⟨r,2,none⟩ y2).setCell ⟨r,3,none⟩ y3).setCell ⟨r,4,none⟩ y4).setCell ⟨r,5,none⟩ y5).setCell ⟨r,6,none⟩ y6).setCell ⟨r,7,none⟩ y7):=by
 subst hV;exact ⟨rfl,zbj h.bel h.wr _ _ _ _ _ _ _ _⟩
theorem sc_new {w:World} {a:Option Addr} {cap:Nat} {bs:List UInt8} (hr:Row w 1 a bs.length cap (bs.map u8C)) (hn:bs.length≤400000) (last:Bool) {f:Nat} (hf:f<bs.length) :
   ScQ (w.alloc (.cells #[.pointer none,.slice none 0 0,.slice a bs.length cap,.int .i64 f,.bool last] 171)) (fun b=>b=w.heap.size) w.heap.size ⟨a,cap,bs,last⟩ [] f:=by
 refine ⟨.pointer none,.slice none 0 0,⟨zac _ rfl,.inl rfl,World.ownsRow_nil _ _ _ _,fun b hb=>(by cases hb),rfl,fun b hb=>⟨by omega,by rw [zal];omega⟩,hr.mono (zah _ _),fun x hx=>?_,by show f≤bs.length;omega,hn,by simp,fun _=>rfl⟩⟩
 obtain ⟨b,off,ha,hb,-⟩:=hr.2.2.2.2 (by omega)
 have hx':a=some x:=hx
 rw [ha] at hx'
 cases hx'
 exact hb
theorem skipV_le (bs:List UInt8) (k:Int):zaW bs k≤bs.length:=by
 unfold zaW
 split
 · omega
 · split
   · omega
   · have:=zeg false (bs.drop k.toNat)
     rw [List.length_drop] at this;omega
theorem zel {w:World} {a:Option Addr} {cap:Nat} {bs:List UInt8} (hr:Row w 1 a bs.length cap (bs.map u8C)) (hn:bs.length≤400000) (k:Int) (last:Bool) :
   Calls Tryz.prog 56 #[.slice a bs.length cap,.int .i64 k,.bool last] w (zeT w (zae bs k last)):=by
 obtain ⟨V,hV⟩:∃V,V=zae bs k last:=⟨_,rfl⟩
 rw [←hV]
 unfold zae at hV
 have hT:=Nx.start w
 obtain ⟨r,hrr⟩:∃r,r=w.heap.size:=⟨_,rfl⟩
 rw [←hrr] at hT
 have HT0:=Lib.hid hT
 have HR:=Lib.hid hrr
 clear hT hrr
 have HRW:=Lib.hid hr
 have HN:=Lib.hid hn
 clear hr
 by_cases hk:k<0∨(bs.length:Int)<k
 · rw [if_pos hk] at hV
   have HV:=Lib.hid hV
   clear hV HT0 HR
   by_cases hk0:k<0
   · have hkd:decide (k<0)=true:=decide_eq_true hk0
     clear hk
     go_enter Tryz.func56,Tryz.ntmps56
     go_wp2
     refine bodyPost_ret (zaa rfl _ _ w.heap.size 112 _ (0,0) _ rfl (zac _ rfl) Tryz.underlying112 rfl (by exact zat) _ rfl) rfl ?_
     rw [HV.out]
     exact ⟨rfl,zah _ _⟩
   · have hk1 : (bs.length : Int) < k := by omega
     have hkd:decide (k<0)=false:=decide_eq_false hk0
     have hkd2:decide ((bs.length:Int)<k)=true:=decide_eq_true hk1
     clear hk
     go_enter Tryz.func56,Tryz.ntmps56
     go_wp2
     refine bodyPost_ret (zaa rfl _ _ w.heap.size 112 _ (0,0) _ rfl (zac _ rfl) Tryz.underlying112 rfl (by exact zat) _ rfl) rfl ?_
     rw [HV.out]
     exact ⟨rfl,zah _ _⟩
 · rw [if_neg hk] at hV
   have hkd:decide (k<0)=false:=decide_eq_false (by omega)
   have hkd2:decide ((bs.length:Int)<k)=false:=decide_eq_false (by omega)
   have hk0:0≤k:=by omega
   have hk1:k≤bs.length:=by omega
   clear hk
   have HS:=Lib.hid (fun (W:World) (h:Below w.heap.size w W)=>skip_any (HRW.out.mono h) hn k)
   have hfl:=skipV_le bs k
   generalize zaW bs k=f at *
   have HV0:=Lib.hid hV
   clear hV hk0 hk1
   go_enter Tryz.func56,Tryz.ntmps56
   go_wp2_with fail
   refine (HS.out _ HT0.out.bel).mono ?_
   rintro e w' ⟨rfl,rfl⟩
   rw [←HR.out]
   generalize w.alloc _=W1 at *
   have hV:=HV0.out
   clear HV0
   by_cases hf:f=bs.length
   · subst hf
     rw [zcu (by omega)] at hV
     have HV:=Lib.hid hV
     obtain ⟨⟨k0,k1,k2,k3,k4,k5,k6,k7⟩,f0,f1,f2,f3,f4,f5,f6,f7⟩:=zap HT0.out.blk
     clear hV HS
     cases last
     all_goals
       go_wp2
       refine bodyPost_ret (zaa rfl _ _ _ 112 _ (0,0) _ rfl (set8 HT0.out.blk _ _ _ _ _ _ _ _) Tryz.underlying112 rfl zat _ rfl) rfl ?_
       exact HT0.out.fin HV.out _ _ _ _ _ _ _ _
   · have hf2 : f < bs.length := by omega
     rw [za6 hf2] at hV
     have hff:decide (f=bs.length)=false:=decide_eq_false hf
     have hfe:((f:Int)==(bs.length:Int))=false:=by rw [beq_eq_false_iff_ne];omega
     have HSC:=Lib.hid (sc_new (HRW.out.mono HT0.out.bel) hn last hf2)
     have HF:=Lib.hid hf2
     obtain ⟨b0,off,ha,hb0,hc⟩:=HRW.out.at 0 f hf2
     have hcj:=cell?_keep (HT0.out.alloc (.cells #[.pointer none,.slice none 0 0,.slice a bs.length cap,.int .i64 f,.bool last] 171)).bel (hc f hf2)
     have hcj1:=cell?_keep HT0.out.bel (hc f hf2)
     have hb1:¬b0=W1.heap.size:=by have:=HT0.out.bel.size;omega
     unfold u8C at hcj hcj1
     subst ha
     have hb2:b0<W1.heap.size:=by have:=HT0.out.bel.size;omega
     have hfi:(f:Int)<bs.length:=by omega
     have hTK:Calls Tryz.prog 99 #[.pointer (some ⟨W1.heap.size,0,none⟩),.int .u8 (bs.getD f 0).toNat] (W1.alloc (.cells #[.pointer none,.slice none 0 0,.slice (some ⟨b0,off,none⟩) bs.length cap,.int .i64 f,.bool last] 171)) (zcp _ (fun b=>b=W1.heap.size) W1.heap.size ⟨some ⟨b0,off,none⟩,cap,bs,last⟩ (tokV last (bs.getD f 0) (bs.drop (f+1)))):=token_any HSC.out hf2
     have hV2:V=if (tokV last (bs.getD f 0) (bs.drop (f+1))).1=0 then ((tokV last (bs.getD f 0) (bs.drop (f+1))).2.1,(f:Int),(bs.length:Int)-((tokV last (bs.getD f 0) (bs.drop (f+1))).2.2.length:Int),0) else ({ kind:=0 },(f:Int),(f:Int),(tokV last (bs.getD f 0) (bs.drop (f+1))).1):=hV
     generalize tokV last (bs.getD f 0) (bs.drop (f+1))=T at *
     generalize bs.getD f 0=cc at *
     have HV:=Lib.hid hV2
     have HTK:=Lib.hid hTK
     have hrr:=(Array.getElem?_eq_some_iff.1 HT0.out.blk).1
     have hpw:w.heap.size≤W1.heap.size:=HT0.out.bel.size
     have HT1:=Lib.hid (HT0.out.alloc (.cells #[.pointer none,.slice none 0 0,.slice (some ⟨b0,off,none⟩) bs.length cap,.int .i64 f,.bool last] 171))
     have HPR:=Lib.hid (show W1.heap.size≠r by omega)
     have HPW:=Lib.hid hpw
     have HRR:=Lib.hid hrr
     have HSZ:=Lib.hid (zal W1 (.cells #[.pointer none,.slice none 0 0,.slice (some ⟨b0,off,none⟩) bs.length cap,.int .i64 f,.bool last] 171))
     clear hV hV2 hTK HS hc hrr hpw HSC hb0
     go_wp2_with fail
     refine HTK.out.mono ?_
     rintro e w2 ⟨hk2,kk,vk,vn,vs,s,rfl,hfx⟩
     have HT2:=Lib.hid (HT1.out.keeps hk2 HPW.out HPR.out)
     have hws:W1.heap.size<w2.heap.size:=by have:=hk2.size;rw [HSZ.out] at this;omega
     have HWS:=Lib.hid hws
     have HFX:=Lib.hid hfx
     clear HTK HT1 HSZ hk2 hcj hcj1 hb1 hb2 hfx hws
     generalize W1.alloc _=W1' at *
     generalize W1.heap.size=p at *
     have HT3:=Lib.hid (HT2.out.alloc (.cells (tokC kk 0 0 vk vn vs s) 112))
     obtain ⟨er,her⟩:∃er,T.1=er:=⟨_,rfl⟩
     have HE:=Lib.hid her
     rw [her]
     clear her
     have hr2:r<w2.heap.size:=(Array.getElem?_eq_some_iff.1 HT2.out.blk).1
     have HR2:=Lib.hid hr2
     clear hr2
     by_cases h0:er=0
     · subst h0
       obtain ⟨hkk,hvk,hvn,hvs,hs,htl,hc3⟩:=HFX.out HE.out
       obtain ⟨t,ht⟩:∃t:Nat,t=bs.length-T.2.2.length:=⟨_,rfl⟩
       have hc3':w2.cell? ⟨p,3,none⟩=some (.int .i64 (t:Int)):=by rw [ht];exact hc3
       have HVV:=Lib.hid (show V=(T.2.1,(f:Int),(t:Int),0) by
         rw [HV.out,if_pos HE.out,ht]
         have h2:T.2.2.length≤bs.length:=htl
         congr 3;omega)
       have hcp:=zbh (.cells (tokC kk 0 0 vk vn vs s) 112) hc3'
       have hbr2:(w2.alloc (.cells (tokC kk 0 0 vk vn vs s) 112)).heap[w2.heap.size]?=some (.cells #[.int .i64 kk,.int .i64 0,.int .i64 0,.int .i64 vk,.int .i64 vn,.string vs,.slice none 0 0,.string s] 112 (0,0)):=zac _ rfl
       have HBR2:=Lib.hid hbr2
       have HCP:=Lib.hid hcp
       have HW2:=Lib.hid (show w.heap.size≤w2.heap.size from HT2.out.bel.size)
       have HNR:=Lib.hid (show w2.heap.size≠r from Nat.ne_of_gt HR2.out)
       have HNP:=Lib.hid (show p≠w2.heap.size from Nat.ne_of_lt HWS.out)
       have HKK:=Lib.hid hkk
       have HVK:=Lib.hid hvk
       have HVN:=Lib.hid hvn
       have HVS:=Lib.hid hvs
       have HSS:=Lib.hid hs
       clear hkk hvk hvn hvs hs htl hc3 hc3' hcp hbr2 HE HFX HV ht
       unfold tokC at *
       go_wp2
       generalize w2.alloc _=W3 at *
       generalize w2.heap.size=r2 at *
       have hcp:=HCP.out
       have hnr:=HNR.out
       have hnp:=HNP.out
       obtain ⟨⟨g0,g1,g2,g3,g4,g5,g6,g7⟩,m0,m1,m2,m3,m4,m5,m6,m7⟩:=zap HBR2.out
       have HO1:=Lib.hid (show Nx w r ((W3.setCell ⟨r2,1,none⟩ (.int .i64 f)).setCell ⟨r2,2,none⟩ (.int .i64 t)).drew∧((W3.setCell ⟨r2,1,none⟩ (.int .i64 f)).setCell ⟨r2,2,none⟩ (.int .i64 t)).drew.heap[r2]?=some (.cells #[.int .i64 kk,.int .i64 f,.int .i64 t,.int .i64 vk,.int .i64 vn,.string vs,.slice none 0 0,.string s] 112 (0,0)) from
         ⟨((HT3.out.set HW2.out hnr 1 _).set HW2.out hnr 2 _).drewN 1,heap_setCell_same _ _ 2 _ _ _ (heap_setCell_same W3 _ 1 _ _ _ HBR2.out)⟩)
       have HO2:=Lib.hid (show Nx w r ((W3.setCell ⟨r2,2,none⟩ (.int .i64 t)).setCell ⟨r2,1,none⟩ (.int .i64 f)).drew∧((W3.setCell ⟨r2,2,none⟩ (.int .i64 t)).setCell ⟨r2,1,none⟩ (.int .i64 f)).drew.heap[r2]?=some (.cells #[.int .i64 kk,.int .i64 f,.int .i64 t,.int .i64 vk,.int .i64 vn,.string vs,.slice none 0 0,.string s] 112 (0,0)) from
         ⟨((HT3.out.set HW2.out hnr 2 _).set HW2.out hnr 1 _).drewN 1,heap_setCell_same _ _ 1 _ _ _ (heap_setCell_same W3 _ 2 _ _ _ HBR2.out)⟩)
       go_region
       all_goals
         clear hcp hnp g0 g1 g2 g3 g4 g5 g6 g7 m0 m1 m2 m3 m4 m5 m6 m7
         first
           | (obtain ⟨W4,hW4⟩:∃W4,W4=((W3.setCell ⟨r2,1,none⟩ (.int .i64 f)).setCell ⟨r2,2,none⟩ (.int .i64 t)).drew:=⟨_,rfl⟩;rw [←hW4];have HX4:=Lib.hid (show Nx w r W4 by rw [hW4];exact HO1.out.1);have HB4:=Lib.hid (show W4.heap[r2]?=some (.cells #[.int .i64 kk,.int .i64 f,.int .i64 t,.int .i64 vk,.int .i64 vn,.string vs,.slice none 0 0,.string s] 112 (0,0)) by rw [hW4];exact HO1.out.2))
           | (obtain ⟨W4,hW4⟩:∃W4,W4=((W3.setCell ⟨r2,2,none⟩ (.int .i64 t)).setCell ⟨r2,1,none⟩ (.int .i64 f)).drew:=⟨_,rfl⟩;rw [←hW4];have HX4:=Lib.hid (show Nx w r W4 by rw [hW4];exact HO2.out.1);have HB4:=Lib.hid (show W4.heap[r2]?=some (.cells #[.int .i64 kk,.int .i64 f,.int .i64 t,.int .i64 vk,.int .i64 vn,.string vs,.slice none 0 0,.string s] 112 (0,0)) by rw [hW4];exact HO2.out.2))
         clear hW4
         obtain ⟨⟨g0,g1,g2,g3,g4,g5,g6,g7⟩,m0,m1,m2,m3,m4,m5,m6,m7⟩:=zap HB4.out
         obtain ⟨⟨k0,k1,k2,k3,k4,k5,k6,k7⟩,f0,f1,f2,f3,f4,f5,f6,f7⟩:=zap HX4.out.blk
         go_wp2
         refine bodyPost_ret (zaa rfl _ _ _ 112 _ (0,0) _ rfl (set8 HX4.out.blk _ _ _ _ _ _ _ _) Tryz.underlying112 rfl zat _ rfl) rfl ?_
         have e1:=HKK.out
         have e2:=HVK.out
         have e3:=HVN.out
         have e4:=HVS.out
         have e5:=HSS.out
         subst e1 e2 e3 e4 e5
         exact HX4.out.fin HVV.out _ _ _ _ _ _ _ _
     · have HVV := Lib.hid (show V = ({ kind := 0 }, (f : Int), (f : Int), er) by rw [HV.out, HE.out, if_neg h0])
       have e1:(er==0)=false:=by rw [beq_eq_false_iff_ne];exact h0
       have e2:(er != 0)=true:=by simp only [bne,e1,Bool.not_false]
       clear h0
       obtain ⟨⟨k0,k1,k2,k3,k4,k5,k6,k7⟩,f0,f1,f2,f3,f4,f5,f6,f7⟩:=zap HT3.out.blk
       unfold tokC at *
       go_wp2
       refine bodyPost_ret (zaa rfl _ _ _ 112 _ (0,0) _ rfl (set8 HT3.out.blk _ _ _ _ _ _ _ _) Tryz.underlying112 rfl zat _ rfl) rfl ?_
       exact HT3.out.fin HVV.out _ _ _ _ _ _ _ _
end Go.Proofs.YtkhcjoomijkfbaaGreatDoor
