/-
  Our texts Xr3 to LexM, in one.
-/
import Derived.Test.YtfafdeemfeaedaaGreatPkZ4
import Derived.Deep.LoopGhost
import Derived.Deep.CutBlock
import Derived.BigQuiet
import Derived.Deep.QuietTactic
set_option maxRecDepth 8000
set_option maxHeartbeats 8000000
namespace Go.Proofs.YtfafdeemfeaedaaGreat
open Go.RowKit
theorem zdo {w:World} {a:Option Addr} {cap:Nat} {bs:List UInt8} (hr:Row w 1 a bs.length cap (bs.map u8C)):(convert 22 9 (.slice a bs.length cap)).run Tryz.prog w=.ok (.string (mkB bs)) w:=by
 cases a with
 | none =>
   have h0:=hr.2.2.2.1 rfl
   have h1:=hr.2.1
   have ho:bs=[]:=List.eq_nil_of_length_eq_zero (by omega)
   subst ho
   rw [h0]
   exact run_convert_bytes_string w 22 9 5 none 0 0 Tryz.underlying22 Tryz.underlying5 Tryz.underlying9
 | some x =>
   refine run_convert_bytes_back (P:=Tryz.prog) w 22 9 5 x cap bs Tryz.underlying22 Tryz.underlying5 Tryz.underlying9 (fun j hj=>?_)
   obtain ⟨b,o,hx,-,hc⟩:=hr.2.2.2.2 (by omega)
   cases hx
   rw [Addr.add_lit]
   exact hc j (u8C bs[j]) (by simp [hj])
theorem xdig_any {w:World} {a:Option Addr} {n cap:Nat} {l:List UInt8} (hr:Row w 1 a n cap (l.map u8C)) (hl:l.length=n) (most:Int) :
   Calls Tryz.prog 157 #[.slice a n cap,.int .i64 most] w fun e w'=>e=.returned (.int .i64 (dig1 l most))∧Below w.heap.size w w':=by
 subst hl
 have hcv:=zdo hr
 have HD:=Lib.hid (zcm (mkB l) w)
 rw [show bl (mkB l)=l from rfl] at HD
 unfold dig1
 generalize zaJ l=V at *
 obtain ⟨n,e⟩:=V
 unfold DigEnd at HD
 simp only at HD ⊢
 clear hr
 generalize l.length=L at *
 generalize mkB l=s at *
 by_cases he:e=0
 · subst he
   by_cases hn:most<n
   · rw [if_pos (.inr hn)]
     go_enter Tryz.func157,Tryz.ntmps157
     go_wp2_with (go_at_call 184;refine HD.out.mono ?_;rintro e w' ⟨rfl,hb⟩;have HB:=Lib.hid hb;clear hb)
     go_ret
     exact ⟨rfl,HB.out⟩
   · rw [if_neg (by simpa using hn)]
     go_enter Tryz.func157,Tryz.ntmps157
     go_wp2_with (go_at_call 184;refine HD.out.mono ?_;rintro e w' ⟨rfl,hb⟩;have HB:=Lib.hid hb;clear hb)
     go_ret
     exact ⟨rfl,HB.out⟩
 · rw [if_pos (.inl he)]
   have e0:(e==0)=false:=by rw [beq_eq_false_iff_ne];exact he
   have e1:(e != 0)=true:=by simp only [bne,e0,Bool.not_false]
   clear he
   go_enter Tryz.func157,Tryz.ntmps157
   go_wp2_with (go_at_call 184;refine HD.out.mono ?_;rintro e w' ⟨rfl,hb⟩;have HB:=Lib.hid hb;clear hb)
   go_ret
   exact ⟨rfl,HB.out⟩
theorem set3a {w:World} {b:Nat} {x0 x1 x2:Value} {t:TypeId} (h:w.heap[b]?=some (.cells #[x0,x1,x2] t (0,0))) (y0 y1 y2:Value) :
   (((w.setCell ⟨b,0,none⟩ y0).setCell ⟨b,1,none⟩ y1).setCell ⟨b,2,none⟩ y2).heap[b]?=some (.cells #[y0,y1,y2] t (0,0)):=by
 rw [heap_setCell_same _ _ 2 _ _ _ (heap_setCell_same _ _ 1 _ _ _ (heap_setCell_same w _ 0 _ _ _ h))];rfl
theorem ze2 {w:World} {b:Nat} {x0 x1 x2:Value} {t:TypeId} (h:w.heap[b]?=some (.cells #[x0,x1,x2] t (0,0))) :
   (w.cell? ⟨b,0,none⟩=some x0∧w.cell? ⟨b,1,none⟩=some x1∧w.cell? ⟨b,2,none⟩=some x2)∧(w.frozen? ⟨b,0,none⟩=false∧w.frozen? ⟨b,1,none⟩=false∧w.frozen? ⟨b,2,none⟩=false):=by
 refine ⟨⟨?_,?_,?_⟩,frozen_of_row w b 0 _ _ h,frozen_of_row w b 1 _ _ h,frozen_of_row w b 2 _ _ h⟩
 · rw [cell_of_row w b 0 _ _ _ h];rfl
 · rw [cell_of_row w b 1 _ _ _ h];rfl
 · rw [cell_of_row w b 2 _ _ _ h];rfl
theorem u8_of {c d:UInt8} {n:Nat} (h:c.toNat=n) (hd:d.toNat=n):c=d:=UInt8.toNat_inj.1 (h.trans hd.symm)
theorem u8_beq (c d:UInt8) (n:Nat) (hd:d.toNat=n):(c==d)=((c.toNat:Int)==(n:Int)):=by
 by_cases h:c=d
 · subst h;rw [hd];simp
 · have h2:c.toNat≠n:=fun e=>h (u8_of e hd)
   rw [beq_eq_false_iff_ne.2 h,eq_comm,beq_eq_false_iff_ne]
   omega
theorem ent_isNone {s:List UInt8} (h:true=(entS s).isNone):entS s=none:=by
 cases hs:entS s with
 | none=>rfl
 | some x=>rw [hs] at h;cases h
theorem zfa:(Tryz.prog.info? 44).map (·.size)=some 3:=by kernel_rfl
theorem skip_go {bs:List UInt8} {j:Nat} (hj:j<bs.length) (h:isSp (bs.getD j 0)=true):zcW bs j=zcW bs (j+1):=by
 unfold zcW
 rw [zat hj,List.takeWhile_cons,if_pos h,List.length_cons]
 omega
theorem skip_stop {bs:List UInt8} {j:Nat} (hj:j<bs.length) (h:isSp (bs.getD j 0)=false):zcW bs j=j:=by
 unfold zcW
 rw [zat hj,List.takeWhile_cons,if_neg (by rw [h];decide)]
 rfl
theorem skip_end (bs:List UInt8):zcW bs bs.length=bs.length:=by
 unfold zcW
 rw [List.drop_length]
 rfl
theorem zdO {s:List UInt8} (h:dig1 (s.take 10) 2147483647<0∨dig1 ((s.drop 11).take 5) 65535<0∨s.getD 10 0≠32∨s.getD 16 0≠32∨(s.getD 17 0≠110∧s.getD 17 0≠102)∨(s.getD 18 0≠32∧s.getD 18 0≠10∧s.getD 18 0≠13)):entS s=none:=by
 unfold entS
 rw [if_pos]
 rcases h with h|h|h|h|h|h
 · left
   unfold dig1 at h
   split at h
   · rename_i hq
     rcases hq with hq|hq
     · exact hq
     · have:=zcN (s.take 10)
       omega
   · have:=zcN (s.take 10)
     omega
 · unfold dig1 at h
   split at h
   · rename_i hq
     rcases hq with hq|hq
     · exact .inr (.inl hq)
     · exact .inr (.inr (.inl hq))
   · have:=zcN ((s.drop 11).take 5)
     omega
 · exact .inr (.inr (.inr (.inl h)))
 · exact .inr (.inr (.inr (.inr (.inl h))))
 · exact .inr (.inr (.inr (.inr (.inr (.inl h)))))
 · exact .inr (.inr (.inr (.inr (.inr (.inr h)))))
theorem zeR {w:World} {b o n cap:Nat} {bs:List UInt8} (h:Row w 1 (some ⟨b,o,none⟩) n cap (bs.map u8C)) (u m:Nat) (hm:u+m≤n):Row w 1 (some ⟨b,o+u,none⟩) m (cap-u) (((bs.drop u).take m).map u8C):=by
 obtain ⟨h1,h2,h3,-,h5⟩:=h
 rw [List.length_map] at h1
 refine ⟨by rw [List.length_map,List.length_take,List.length_drop];omega,by omega,by omega,fun h=>(by cases h),fun hm0=>?_⟩
 obtain ⟨b',o',e,hb,hc⟩:=h5 (by omega)
 cases e
 refine ⟨b,o+u,rfl,hb,fun j x hj=>?_⟩
 rw [Nat.add_assoc]
 refine hc _ _ ?_
 rw [List.getElem?_map] at hj ⊢
 rw [List.getElem?_take] at hj
 split at hj
 · rw [List.getElem?_drop] at hj;exact hj
 · cases hj
theorem entV_cut {bs:List UInt8} {last:Bool} {k j:Nat} (h:zcW bs k=j) (hl:bs.length<j+19):entV bs last k=({},0,zaX last):=by unfold entV;rw [h,if_pos hl]
theorem entV_bad {bs:List UInt8} {last:Bool} {k j:Nat} (h:zcW bs k=j) (hl:¬bs.length<j+19) (hs:entS ((bs.drop j).take 19)=none):entV bs last k=({},0,20):=by unfold entV;rw [h,if_neg hl,hs]
theorem entV_ok {bs:List UInt8} {last:Bool} {k j:Nat} (h:zcW bs k=j) (hl:¬bs.length<j+19) {x:Ent} (hs:entS ((bs.drop j).take 19)=some x):entV bs last k=(x,j+19,0):=by unfold entV;rw [h,if_neg hl,hs]
theorem ent_some {s:List UInt8} (h:false=(entS s).isNone):entS s=some { at_:=dig1 (s.take 10) 2147483647,gen:=dig1 ((s.drop 11).take 5) 65535,used:=s.getD 17 0==110 }:=by
 unfold entS at h ⊢
 split at h
 · cases h
 · rename_i hn
   rw [if_neg hn]
   have e1:¬((zaJ (s.take 10)).2≠0∨2147483647<(zaJ (s.take 10)).1):=by
     have:=zcN (s.take 10)
     rintro (h|h)
     · exact hn (.inl h)
     · omega
   have e2:¬((zaJ ((s.drop 11).take 5)).2≠0∨65535<(zaJ ((s.drop 11).take 5)).1):=by
     rintro (h|h)
     · exact hn (.inr (.inl h))
     · exact hn (.inr (.inr (.inl h)))
   unfold dig1
   rw [if_neg e1,if_neg e2]
theorem ent_good {s:List UInt8} (h1:0≤dig1 (s.take 10) 2147483647) (h2:0≤dig1 ((s.drop 11).take 5) 65535) (h3:s.getD 10 0=32) (h4:s.getD 16 0=32) (h5:s.getD 17 0=110∨s.getD 17 0=102) (h6:s.getD 18 0=32∨s.getD 18 0=10∨s.getD 18 0=13) :
   entS s=some { at_:=dig1 (s.take 10) 2147483647,gen:=dig1 ((s.drop 11).take 5) 65535,used:=s.getD 17 0==110 }:=by
 unfold dig1 at *
 have e1:¬((zaJ (s.take 10)).2≠0∨2147483647<(zaJ (s.take 10)).1):=by intro hn;rw [if_pos hn] at h1;exact absurd h1 (by decide)
 have e2:¬((zaJ ((s.drop 11).take 5)).2≠0∨65535<(zaJ ((s.drop 11).take 5)).1):=by intro hn;rw [if_pos hn] at h2;exact absurd h2 (by decide)
 rw [if_neg e1,if_neg e2]
 unfold entS
 rw [if_neg]
 rintro (hn|hn|hn|hn|hn|hn|hn)
 · exact e1 (.inl hn)
 · exact e2 (.inl hn)
 · exact e2 (.inr hn)
 · exact hn h3
 · exact hn h4
 · rcases h5 with h|h
   · exact hn.1 h
   · exact hn.2 h
 · rcases h6 with h|h|h
   · exact hn.1 h
   · exact hn.2.1 h
   · exact hn.2.2 h
section
variable {w0 w w' : World} {p : Nat} {a : Option Addr} {cap : Nat} {bs : List UInt8} {last : Bool} {at_ : Int}
theorem IsRd.set3r (h:IsRd w0 w p a cap bs last at_) {r:Nat} (hr:p≠r) (h0:w0.heap.size≤r) (y0 y1 y2:Value):IsRd w0 (((w.setCell ⟨r,0,none⟩ y0).setCell ⟨r,1,none⟩ y1).setCell ⟨r,2,none⟩ y2) p a cap bs last at_ :=
 ⟨by rw [heap_setCell_other _ _ _ _ hr,heap_setCell_other _ _ _ _ hr,heap_setCell_other _ _ _ _ hr];exact h.blk,h.new,h.row,((h.bel.setCell h0 _).setCell h0 _).setCell h0 _,h.small⟩
theorem zdN {S:Nat→Prop} {W:World} (h:zaf S w W) {r:Nat} (hr:w.heap.size≤r) (y0 y1 y2:Value):zaf S w (((W.setCell ⟨r,0,none⟩ y0).setCell ⟨r,1,none⟩ y1).setCell ⟨r,2,none⟩ y2) :=
 ((h.setCell (.inr hr) _).setCell (.inr hr) _).setCell (.inr hr) _
theorem xopen_any (h:IsRd w0 w p a cap bs last at_):Calls Tryz.prog 156 #[.pointer (some ⟨p,0,none⟩)] w fun e w'=>e=.returned (.int .i64 (zaX last))∧w=w':=by
 obtain ⟨⟨-,-,c2⟩,-⟩:=h.cells
 clear h
 cases last
 · go_enter Tryz.func156,Tryz.ntmps156
   go_wp2
   go_ret
   exact ⟨rfl,rfl⟩
 · go_enter Tryz.func156,Tryz.ntmps156
   go_wp2
   go_ret
   exact ⟨rfl,rfl⟩
def EntEnd (w0 w:World) (p:Nat) (a:Option Addr) (cap:Nat) (bs:List UInt8) (last:Bool) (V:Ent×Nat×Int) (e:Ending) (w':World):Prop :=
 e=.returned (.tuple #[entA V.1,.int .i64 V.2.2])∧(∃at2:Int,IsRd w0 w' p a cap bs last at2∧(V.2.2=0→at2=V.2.1))∧zaf (fun b=>b=p) w w'
theorem xentry_any {k:Nat} (h:IsRd w0 w p a cap bs last (k:Int)) (hk:k≤bs.length):Calls Tryz.prog 117 #[.pointer (some ⟨p,0,none⟩)] w (EntEnd w0 w p a cap bs last (entV bs last k)):=by
 obtain ⟨V,hV⟩:∃V,V=entV bs last k:=⟨_,rfl⟩
 rw [←hV]
 have HV:=Lib.hid hV
 have hsm:=h.small
 have hcp:=h.row.2.1
 have hcm:=h.row.i64c
 have HR:=Lib.hid h
 clear h hV
 go_enter Tryz.func117,Tryz.ntmps117
 go_upto_block 0 with fail
 have HB1:=Lib.hid (zak w (.cells #[.int .i64 0,.int .i64 0,.bool false] 44))
 have HS1:=Lib.hid (HR.out.mono HB1.out)
 obtain ⟨r,hr⟩:∃r,r=w.heap.size:=⟨_,rfl⟩
 have HZ1:=Lib.hid (zac (w:=w) (b:=r) (.cells #[.int .i64 0,.int .i64 0,.bool false] 44) hr)
 have hpr:p≠r:=by have:=HR.out.lt;omega
 have HPR:=Lib.hid hpr
 have HRR:=Lib.hid (Nat.le_of_eq hr.symm)
 have HR0:=Lib.hid (Nat.le_trans HR.out.bel.size HRR.out)
 rw [←hr]
 clear hr hpr
 generalize w.alloc _=W1 at *
 obtain ⟨J,hJ⟩:∃J,J=zcW bs k:=⟨_,rfl⟩
 have HJ:=Lib.hid hJ
 clear hJ
 go_cut [] from 8 (fun wx=>∃j:Nat,k≤j∧j≤bs.length∧Hid (J=j)∧Hid (IsRd w0 wx p a cap bs last (j:Int))∧Hid (zaf (fun b=>b=p) W1 wx))
 case first =>
   go_wp2_with fail
   go_loopg [] (bs.length-k) (fun g wr=>∃j:Nat,g=bs.length-j∧k≤j∧j≤bs.length∧Hid (zcW bs j=J)∧Hid (IsRd w0 wr p a cap bs last (j:Int))∧Hid (zaf (fun b=>b=p) W1 wr))
   case atStart=>exact ⟨k,rfl,Nat.le_refl _,hk,Lib.hid HJ.out.symm,HS1,Lib.hid (zaf.refl _ _)⟩
   case round =>
     obtain ⟨j,hg,hkj,hj,HSK,HI,HKP⟩:=hrel
     have HG:=Lib.hid hg
     obtain ⟨⟨c0,c1,c2⟩,f0,f1,f2⟩:=HI.out.cells
     clear hg
     have hck:(j:Int)≤400000:=by omega
     by_cases hjl:j<bs.length
     · obtain ⟨b,off,rfl,-,hcc⟩:=HI.out.bytes.at 0 j hjl
       have hcj:=hcc j hjl
       unfold u8C at hcj
       have hjd:decide ((j:Int)<bs.length)=true:=by simp;omega
       have hjd2:decide (j<bs.length)=true:=by simp;omega
       have HSP:=Lib.hid (fun W=>zde (bs.getD j 0).toNat W)
       rw [←zeJ] at HSP
       have HG2:=Lib.hid (fun h=>skip_go (bs:=bs) hjl h)
       have HST:=Lib.hid (fun h=>skip_stop (bs:=bs) hjl h)
       clear hcc
       generalize bs.getD j 0=c at *
       obtain ⟨sp,hsp⟩:∃sp,isSp c=sp:=⟨_,rfl⟩
       rw [hsp] at HSP
       have HSB:=Lib.hid hsp
       clear hsp
       generalize c.toNat=x at *
       cases sp
       · go_wp2
         go_quiet ((go_at_call 155;exact (HSP.out _).mono fun _ _ ⟨he,hm⟩=>⟨he,_,hm.symm⟩))
         go_wp2_with fail
         go_meet
         exact ⟨j,hkj,hj,Lib.hid (HSK.out.symm.trans (HST.out HSB.out)),Lib.hid (HI.out.mono (zae (Below.refl _ _) _)),Lib.hid (HKP.out.drewN _)⟩
       · go_wp2
         go_quiet ((go_at_call 155;exact (HSP.out _).mono fun _ _ ⟨he,hm⟩=>⟨he,_,hm.symm⟩))
         go_wp2
         go_roundg (bs.length-(j+1))
         case rel=>exact ⟨j+1,rfl,by omega,by omega,Lib.hid ((HG2.out HSB.out).symm.trans HSK.out),Lib.hid ((HI.out.mono (zae (Below.refl _ _) _)).setAt _),Lib.hid ((HKP.out.drewN _).setCell (.inl rfl) _)⟩
         case measure=>have:=HG.out;omega
     · have hje:j=bs.length:=by omega
       have HJE:=Lib.hid (show J=j by rw [←HSK.out,hje];exact skip_end bs)
       have hjd:decide ((j:Int)<bs.length)=false:=decide_eq_false (by omega)
       have hjd2:decide (j<bs.length)=false:=decide_eq_false (by omega)
       clear hje
       go_wp2
       go_quiet (fail)
       go_wp2_with fail
       go_meet
       exact ⟨j,hkj,hj,HJE,Lib.hid (HI.out.mono (zae (Below.refl _ _) _)),Lib.hid (HKP.out.drewN _)⟩
 case rest =>
   obtain ⟨j,hkj,hj,HJE,HI2,HK2⟩:=hcut
   have hck:(j:Int)≤400000:=by omega
   generalize wc=W2 at *
   obtain ⟨⟨c0,c1,c2⟩,f0,f1,f2⟩:=HI2.out.cells
   have HZ2:=Lib.hid (HK2.out.obj HZ1.out (fun e=>HPR.out e.symm))
   have HKW:=Lib.hid (zaf.trans (S:=fun b=>b=p) (zaw HB1.out) HK2.out (fun x h=>.inl h))
   obtain ⟨⟨z0,z1,z2⟩,y0,y1,y2⟩:=ze2 HZ2.out
   by_cases hlen:bs.length<j+19
   · have HV3:=Lib.hid (HV.out.trans (entV_cut (last:=last) (HJ.out.symm.trans HJE.out) hlen))
     have hld:decide ((bs.length:Int)-j<19)=true:=decide_eq_true (by omega)
     have HOP:=Lib.hid (fun q=>xopen_any (HI2.out.mono (zae (Below.refl _ _) q)))
     clear hlen
     go_wp2
     go_quiet (fail)
     go_wp2_with (go_at_call 156;refine (HOP.out _).mono ?_;rintro e w' ⟨rfl,rfl⟩)
     refine bodyPost_ret (zaa rfl _ _ r 44 _ (0,0) _ rfl (by exact set3a HZ2.out _ _ _) Tryz.underlying44 rfl (by exact zfa) _ rfl) rfl ?_
     rw [HV3.out]
     exact ⟨rfl,⟨_,(HI2.out.mono (zae (Below.refl _ _) _)).set3r HPR.out HR0.out _ _ _,fun h=>absurd h (zcq last)⟩,zdN (HKW.out.drewN _) HRR.out _ _ _⟩
   · have hjl:j<bs.length:=by omega
     have hld:decide ((bs.length:Int)-j<19)=false:=decide_eq_false (by omega)
     have HRB:=HI2.out.bytes
     obtain ⟨b2,off2,ha,-,hcc⟩:=HRB.at 0 j hjl
     have HBP:=Lib.hid (show ¬b2=p from fun e=>by have h1:b2<w0.heap.size:=HI2.out.row.lt (by omega) ⟨b2,off2,none⟩ ha;have h2:=HI2.out.new;omega)
     rw [ha] at c0 HRB
     have hj19:j+19≤bs.length:=by omega
     have HR1:=Lib.hid (zeR HRB j 19 hj19)
     have HSL:=Lib.hid (show ((bs.drop j).take 19).length=19 by rw [List.length_take,List.length_drop];omega)
     have HEB:=Lib.hid (fun h=>HV.out.trans (entV_bad (last:=last) (HJ.out.symm.trans HJE.out) hlen h))
     have HEO:=Lib.hid (fun x h=>HV.out.trans (entV_ok (last:=last) (x:=x) (HJ.out.symm.trans HJE.out) hlen h))
     generalize (bs.drop j).take 19=s at *
     clear hcc ha hlen HJE HJ HV HRB
     go_wp2
     go_quiet (fail)
     generalize nq=nqa
     go_wp2
     go_quiet (fail)
     generalize nq=nqb
     go_wp2
     have e19:j+18+1-j=19:=by omega
     rw [e19]
     have HI3:=Lib.hid (HI2.out.mono (zae (zae (Below.refl _ _) nqa) nqb))
     have HK3:=Lib.hid ((HKW.out.drewN nqa).drewN nqb)
     have HZ3:=Lib.hid (zab (zae (zae (Below.refl W2.heap.size W2) nqa) nqb) HZ2.out)
     have HR3:=Lib.hid (HR1.out.mono (zae (zae (Below.refl W2.heap.size W2) nqa) nqb))
     generalize (W2.drewN nqa).drewN nqb=W3 at *
     clear HI2 HK2 HKW HZ2 HR1 c0 c1 c2 f0 f1 f2 z0 z1 z2 y0 y1 y2
     have hC1:19≤cap-j:=by omega
     have hC2:((cap-j:Nat):Int)≤9223372036854775807:=by omega
     generalize cap-j=C at *
     have HRA:=Lib.hid (zeR HR3.out 0 10 (by omega))
     have HRG:=Lib.hid (zeR HR3.out 11 5 (by omega))
     simp only [List.drop_zero,Nat.add_zero,Nat.sub_zero] at HRA
     have HDA:=Lib.hid (fun q:zb5 W3=>xdig_any (HRA.out.mono q.h) (by rw [List.length_take];have:=HSL.out;omega) 2147483647)
     have HDG:=Lib.hid (fun q:zb5 W3=>xdig_any (HRG.out.mono q.h) (by rw [List.length_take,List.length_drop];have:=HSL.out;omega) 65535)
     obtain ⟨A,hA⟩:∃A,A=dig1 (s.take 10) 2147483647:=⟨_,rfl⟩
     obtain ⟨G,hG⟩:∃G,G=dig1 ((s.drop 11).take 5) 65535:=⟨_,rfl⟩
     rw [←hA] at HDA
     rw [←hG] at HDG
     have HA:=Lib.hid hA
     have HGG:=Lib.hid hG
     clear hA hG
     refine zcD (by kernel_rfl) (by kernel_rfl) ?_
     repeat (go_big_quiet_step ((first
       | (go_at_call_of 157 (Value.slice (some ⟨b2,off2+j,none⟩) 10 C);with_reducible exact Calls.below_of (HDA.out _))
       | (go_at_call 157;with_reducible exact Calls.below_of (HDG.out _)))))
     refine wpQuiet_nil ?_
     rintro W4 ⟨⟨w4,hb4⟩,hw⟩
     replace hw:W4=w4:=hw
     subst hw
     have HI4:=Lib.hid (HI3.out.mono hb4)
     have HK4:=Lib.hid (zaf.trans HK3.out (zaw (S:=fun _=>False) hb4) (fun x h=>(by cases h)))
     have HZ4:=Lib.hid (zab hb4 HZ3.out)
     obtain ⟨_,_,ha,-,hcc⟩:=(HR3.out.mono hb4).at 0 0 (by decide)
     cases ha
     have hc10:=hcc 10 (by decide)
     have hc16:=hcc 16 (by decide)
     have hc17:=hcc 17 (by decide)
     have hc18:=hcc 18 (by decide)
     unfold u8C at hc10 hc16 hc17 hc18
     clear hcc hb4 HI3 HK3 HZ3 HR3 HRA HRG HDA HDG
     obtain ⟨⟨c0,c1,c2⟩,f0,f1,f2⟩:=HI4.out.cells
     obtain ⟨⟨z0,z1,z2⟩,y0,y1,y2⟩:=ze2 HZ4.out
     obtain ⟨x10,hx10⟩:∃x,(s.getD 10 0).toNat=x:=⟨_,rfl⟩
     obtain ⟨x16,hx16⟩:∃x,(s.getD 16 0).toNat=x:=⟨_,rfl⟩
     obtain ⟨x17,hx17⟩:∃x,(s.getD 17 0).toNat=x:=⟨_,rfl⟩
     obtain ⟨x18,hx18⟩:∃x,(s.getD 18 0).toNat=x:=⟨_,rfl⟩
     rw [hx10] at hc10
     rw [hx16] at hc16
     rw [hx17] at hc17
     rw [hx18] at hc18
     have HX10:=Lib.hid hx10
     have HX16:=Lib.hid hx16
     have HX17:=Lib.hid hx17
     have HX18:=Lib.hid hx18
     clear hx10 hx16 hx17 hx18
     obtain ⟨bd,hbd⟩:∃bd,bd=(entS s).isNone:=⟨_,rfl⟩
     have HBD:=Lib.hid hbd
     clear hbd
     go_upto_region 8 with fail
     go_cut [130] from 89 (fun v wx=>v=.bool bd∧wx=W4)
     case first =>
       clear c0 c1 c2 f0 f1 f2 z0 z1 z2 y0 y1 y2 HEB HEO
       by_cases hA0:A<0
       case pos =>
         obtain rfl:bd=true:=by rw [HBD.out,zdO (.inl (by rw [←HA.out];exact hA0))];rfl
         go_wp2_with fail
         go_meet
         exact ⟨rfl,rfl⟩
       by_cases hG0:G<0
       case pos =>
         obtain rfl:bd=true:=by rw [HBD.out,zdO (.inr (.inl (by rw [←HGG.out];exact hG0)))];rfl
         go_wp2_with fail
         go_meet
         exact ⟨rfl,rfl⟩
       by_cases h10:x10=32
       case neg =>
         obtain rfl:bd=true:=by rw [HBD.out,zdO (.inr (.inr (.inl (fun e=>h10 (by rw [←HX10.out,e];rfl)))))];rfl
         have e32:((x10:Int)==32)=false:=by rw [beq_eq_false_iff_ne];omega
         have f32:((x10:Int) != 32)=true:=by simp only [bne,e32,Bool.not_false]
         go_wp2_with fail
         go_meet
         exact ⟨rfl,rfl⟩
       subst h10
       by_cases h16:x16=32
       case neg =>
         obtain rfl:bd=true:=by rw [HBD.out,zdO (.inr (.inr (.inr (.inl (fun e=>h16 (by rw [←HX16.out,e];rfl))))))];rfl
         have e32:((x16:Int)==32)=false:=by rw [beq_eq_false_iff_ne];omega
         have f32:((x16:Int) != 32)=true:=by simp only [bne,e32,Bool.not_false]
         go_wp2_with fail
         go_meet
         exact ⟨rfl,rfl⟩
       subst h16
       by_cases h17:x17=110∨x17=102
       case neg =>
         obtain rfl:bd=true:=by rw [HBD.out,zdO (.inr (.inr (.inr (.inr (.inl ⟨fun e=>h17 (.inl (by rw [←HX17.out,e];rfl)),fun e=>h17 (.inr (by rw [←HX17.out,e];rfl))⟩)))))];rfl
         have e110:((x17:Int)==110)=false:=by rw [beq_eq_false_iff_ne];omega
         have f110:((x17:Int) != 110)=true:=by simp only [bne,e110,Bool.not_false]
         have e102:((x17:Int)==102)=false:=by rw [beq_eq_false_iff_ne];omega
         have f102:((x17:Int) != 102)=true:=by simp only [bne,e102,Bool.not_false]
         go_wp2_with fail
         go_meet
         exact ⟨rfl,rfl⟩
       by_cases h18:x18=32∨x18=10∨x18=13
       case neg =>
         obtain rfl:bd=true:=by rw [HBD.out,zdO (.inr (.inr (.inr (.inr (.inr (⟨fun e=>h18 (.inl (by rw [←HX18.out,e];rfl)),fun e=>h18 (.inr (.inl (by rw [←HX18.out,e];rfl))),fun e=>h18 (.inr (.inr (by rw [←HX18.out,e];rfl)))⟩))))))];rfl
         have e32:((x18:Int)==32)=false:=by rw [beq_eq_false_iff_ne];omega
         have f32:((x18:Int) != 32)=true:=by simp only [bne,e32,Bool.not_false]
         have e10:((x18:Int)==10)=false:=by rw [beq_eq_false_iff_ne];omega
         have f10:((x18:Int) != 10)=true:=by simp only [bne,e10,Bool.not_false]
         have e13:((x18:Int)==13)=false:=by rw [beq_eq_false_iff_ne];omega
         have f13:((x18:Int) != 13)=true:=by simp only [bne,e13,Bool.not_false]
         rcases h17 with rfl|rfl
         all_goals (go_wp2_with fail;go_meet;exact ⟨rfl,rfl⟩)
       obtain rfl:bd=false:=by rw [HBD.out,ent_good (by rw [←HA.out];omega) (by rw [←HGG.out];omega) (u8_of HX10.out rfl) (u8_of HX16.out rfl) (h17.imp (fun e=>u8_of (HX17.out.trans e) rfl) (fun e=>u8_of (HX17.out.trans e) rfl)) (h18.imp (fun e=>u8_of (HX18.out.trans e) rfl) (fun h=>h.imp (fun e=>u8_of (HX18.out.trans e) rfl) (fun e=>u8_of (HX18.out.trans e) rfl)))];rfl
       rcases h17 with rfl|rfl<;>rcases h18 with rfl|rfl|rfl
       all_goals (go_wp2_with fail;go_meet;exact ⟨rfl,rfl⟩)
     case rest =>
       obtain ⟨rfl,rfl⟩:=hcut
       cases bd
       case true =>
         have HVB:=Lib.hid (HEB.out (ent_isNone HBD.out))
         clear HEB HEO hc10 hc16 hc17 hc18
         go_wp2
         refine bodyPost_ret (zaa rfl _ _ r 44 _ (0,0) _ rfl (by exact set3a HZ4.out _ _ _) Tryz.underlying44 rfl (by exact zfa) _ rfl) rfl ?_
         rw [HVB.out]
         exact ⟨rfl,⟨_,HI4.out.set3r HPR.out HR0.out _ _ _,fun h=>(by cases h)⟩,zdN HK4.out HRR.out _ _ _⟩
       have HVO:=Lib.hid (HEO.out _ (ent_some HBD.out))
       rw [←HA.out,←HGG.out] at HVO
       have HU:=Lib.hid (show (s.getD 17 0==110)=((x17:Int)==110) by rw [←HX17.out];exact u8_beq _ 110 110 rfl)
       rw [HU.out] at HVO
       have hbp:=HBP.out
       have hrp:¬r=p:=Ne.symm HPR.out
       clear HEB HEO HU HA HGG hc10 hc16 hc18
       go_wp2
       refine bodyPost_ret (zaa rfl _ _ r 44 _ (0,0) _ rfl (by exact set3a ((heap_setCell_other _ _ _ _ (show r≠(⟨p,1,none⟩:Addr).block from Ne.symm HPR.out)).trans HZ4.out) _ _ _) Tryz.underlying44 rfl (by exact zfa) _ rfl) rfl ?_
       rw [HVO.out]
       exact ⟨rfl,⟨_,(HI4.out.setAt _).set3r HPR.out HR0.out _ _ _,fun _=>rfl⟩,zdN (HK4.out.setCell (a:=⟨p,1,none⟩) (.inl rfl) _) HRR.out _ _ _⟩
end
theorem own_new {P:Program} {w:World} {t ty e:TypeId} {z:Value} {size bytes:Nat} (T:zc6 P t e z size bytes) {base:Nat} {v:Value} {n:Nat} {xs:List Value} (hown:w.ownsRow base e size v n xs)
   {a:Addr} {c:Nat} {news:List Value} (hl:news.length=1 * size) (hnews:∀j u,news[j]?=some u→w.cell? (a.add j)=some u) (h1:∀u∈news,u.oneCell'=true) (h63:n+1≤maxLen) (hbytes:(n+1) * bytes≤140737488355328)
   {v':Value} {w':World} (hr:(Builtin.append_ #[t,t] ty #[v,.slice (some a) 1 c]).run P w=.ok v' w'):∀b,v'.ownBlock=some b→v.ownBlock=some b∨w.heap.size≤b:=by
 obtain ⟨i,hi,hz,hs,hb⟩:=info_parts T.info
 subst hb
 subst hs
 have hsmall:n+1≤9223372036854775807:=by simp only [maxLen] at h63;omega
 intro b hb
 rcases hown.2 with ⟨rfl,rfl⟩|⟨g,cap,cur,rfl,hbg,hg,hnc,hcm,hcs,htake⟩
 · rw [run_append_nil (P:=P) w t ty e i z T.und hi hz a 1 c news hl hnews (by omega) (by omega) (by omega)] at hr
   cases hr
   right
   simp [Value.ownBlock] at hb
   omega
 · by_cases hroom:n+1≤cap
   · have hfit:n * i.size+news.length≤cur.size:=by rw [hl,hcs,←Nat.add_mul];exact Nat.mul_le_mul_right _ hroom
     rw [run_append_room (P:=P) w t ty e i T.und hi g n cap cur hg a 1 c news hl hnews h1 hroom hfit] at hr
     cases hr
     left
     simpa [Value.ownBlock] using hb
   · have holds:∀j u,xs[j]?=some u→w.cell? ((⟨g,0,none⟩:Addr).add j)=some u:=hown.cells (g:=g) rfl
     rw [run_append_grow (P:=P) w t ty e i z T.und hi hz ⟨g,0,none⟩ n cap xs hown.1 holds a 1 c news hl hnews (by omega) (by omega) (growslice_fits (by omega) hbytes)] at hr
     cases hr
     right
     simp [Value.ownBlock] at hb
     omega
theorem zdW {P:Program} {w:World} {ops:Array Oper} {rest:List Oper} {o:Oper} {a:Act} {Q:Exit→Act→World→Prop} {t e:TypeId} {z:Value} {size bytes:Nat} (T:zc6 P t e z size bytes)
   (hgd:o.guard=none) (s x:Operand) (ho:o.op=.call { callee:=.builtin .append,args:=#[s,x],argTypes:=#[t,t] })
   (base:Nat) (v:Value) (n:Nat) (xs:List Value) (hs:a.eval s=v) (hown:w.ownsRow base e size v n xs)
   (ad:Addr) (c:Nat) (news:List Value) (hx:a.eval x=.slice (some ad) 1 c) (hr:Row w size (some ad) 1 c news) (h1:∀u∈news,u.oneCell'=true)
   (h63:n+1≤maxLen) (hbytes:(n+1) * bytes≤140737488355328) (hbase:base≤w.heap.size)
   (h:∀v' w',w'.ownsRow base e size v' (n+1) (xs++news)→w.grownBy w' v.ownBlock→(∀b,v'.ownBlock=some b→v.ownBlock=some b∨w.heap.size≤b)→wpList P ops Q rest (a.put o.dst v') w'):wpList P ops Q (o::rest) a w:=by
 obtain ⟨i,hi,hz,hs',hb⟩:=info_parts T.info
 have hl:news.length=1 * size:=hr.1
 have hnews:∀j u,news[j]?=some u→w.cell? (ad.add j)=some u:=fun j u hj=>by
   obtain ⟨b,off,hab,_,hc⟩:=hr.2.2.2.2 (by omega)
   obtain rfl:=Option.some.inj hab
   rw [Addr.add_lit];exact hc j u hj
 obtain ⟨v',w',hrun,h2,h3,h4⟩:=run_append_own (P:=P) w base t o.type e i z size bytes T.und hi hz hs' hb T.cells T.pos v n xs hown ad 1 c news hl hnews h1 h63 hbytes hbase
 have h5:=own_new T hown hl hnews h1 h63 hbytes hrun
 refine wpList_plain hgd fun K hK=>?_
 unfold Oper.wp execOp
 simp only [ho,resolve,invoke,builtin,Sem.run_bind,Sem.run_pure,Result.andThen_ok,List.map_toArray,List.map_cons,List.map_nil,hs,hx,hrun]
 exact hK _ _ (h v' w' h2 h3 h5)
theorem zgE (w:World) (cs:Array Value) (e:TypeId) (n:Nat) (hn:cs.size=n) {b:Nat} (hb:w.heap.size=b):Row (w.alloc (.cells cs e)) n (some ⟨b,0,none⟩) 1 1 cs.toList:=by
 subst hb
 exact ⟨by simp [hn],Nat.le_refl _,by simp [maxLen],fun h=>(by cases h),fun _=>⟨w.heap.size,0,rfl,by rw [zap];omega,fun j u hj=>by
   rw [Nat.zero_add,cell_of_row _ _ _ _ _ _ (zac _ rfl)];simpa using hj⟩⟩
def grp1 (bs:List UInt8) (last:Bool) (x:Tk) (k:Int):Grp×Int×Int :=
 if zaE x=false then (⟨0,[]⟩,0,20)
 else if (nxtV bs last k).2.2.2≠0 then (⟨0,[]⟩,0,(nxtV bs last k).2.2.2)
 else if zaE (nxtV bs last k).1=false∨zfi x.vn (nxtV bs last k).1.vn=false then (⟨0,[]⟩,0,20)
 else if (zdZ bs last (nxtV bs last k).1.vn.toNat (nxtV bs last k).2.2.1.toNat []).2.2≠0 then (⟨0,[]⟩,0,(zdZ bs last (nxtV bs last k).1.vn.toNat (nxtV bs last k).2.2.1.toNat []).2.2)
 else (⟨x.vn,(zdZ bs last (nxtV bs last k).1.vn.toNat (nxtV bs last k).2.2.1.toNat []).1⟩,(zdZ bs last (nxtV bs last k).1.vn.toNat (nxtV bs last k).2.2.1.toNat []).2.1,0)
theorem zcV {w:World} {b:Nat} {x0 x1:Value} {t:TypeId} (h:w.heap[b]?=some (.cells #[x0,x1] t (0,0))) (y0 y1:Value) :
   ((w.setCell ⟨b,0,none⟩ y0).setCell ⟨b,1,none⟩ y1).heap[b]?=some (.cells #[y0,y1] t (0,0)):=by
 rw [heap_setCell_same _ _ 1 _ _ _ (heap_setCell_same w _ 0 _ _ _ h)];rfl
theorem zaV {w:World} {b:Nat} {x0 x1:Value} {t:TypeId} (h:w.heap[b]?=some (.cells #[x0,x1] t (0,0))) :
   (w.cell? ⟨b,0,none⟩=some x0∧w.cell? ⟨b,1,none⟩=some x1)∧(w.frozen? ⟨b,0,none⟩=false∧w.frozen? ⟨b,1,none⟩=false):=by
 refine ⟨⟨?_,?_⟩,frozen_of_row w b 0 _ _ h,frozen_of_row w b 1 _ _ h⟩
 · rw [cell_of_row w b 0 _ _ _ h];rfl
 · rw [cell_of_row w b 1 _ _ _ h];rfl
theorem zd9:(Tryz.prog.info? 42).map (·.size)=some 2:=by kernel_rfl
theorem EEnt:zc6 Tryz.prog 40 44 (.agg #[.int .i64 0,.int .i64 0,.bool false]) 3 24:=⟨Tryz.underlying40,by kernel_rfl,rfl,by omega⟩
theorem entV_le {bs:List UInt8} {last:Bool} {k:Nat} (_hk:k≤bs.length) (_h:(entV bs last k).2.2=0):(entV bs last k).2.1≤bs.length:=by
 unfold entV
 split
 · exact Nat.zero_le _
 · split
   · exact Nat.zero_le _
   · show zcW bs k+19≤_;omega
section
variable {w0 w w' : World} {p : Nat} {a : Option Addr} {cap : Nat} {bs : List UInt8} {last : Bool} {at_ : Int}
theorem IsRd.set2r (h:IsRd w0 w p a cap bs last at_) {r:Nat} (hr:p≠r) (h0:w0.heap.size≤r) (y0 y1:Value):IsRd w0 ((w.setCell ⟨r,0,none⟩ y0).setCell ⟨r,1,none⟩ y1) p a cap bs last at_ :=
 ⟨by rw [heap_setCell_other _ _ _ _ hr,heap_setCell_other _ _ _ _ hr];exact h.blk,h.new,h.row,(h.bel.setCell h0 _).setCell h0 _,h.small⟩
theorem zfN {S:Nat→Prop} {W:World} (h:zaf S w W) {r:Nat} (hr:w.heap.size≤r) (y0 y1:Value):zaf S w ((W.setCell ⟨r,0,none⟩ y0).setCell ⟨r,1,none⟩ y1) :=
 (h.setCell (.inr hr) _).setCell (.inr hr) _
theorem IsRd.grown (h:IsRd w0 w p a cap bs last at_) {row:Option Nat} (hg:w.grownBy w' row) (hr:∀b,row=some b→b≠p∧w0.heap.size≤b):IsRd w0 w' p a cap bs last at_ :=
 ⟨(hg.block p h.lt (fun e=>(hr p e.symm).1 rfl)).trans h.blk,h.new,h.row,h.bel.grown hg h.bel.size (fun b hb=>(hr b hb).2),h.small⟩
theorem IsRd.set (h:IsRd w0 w p a cap bs last at_) {r:Nat} (hr:p≠r) (h0:w0.heap.size≤r) (i:Nat) (y:Value):IsRd w0 (w.setCell ⟨r,i,none⟩ y) p a cap bs last at_ :=
 ⟨by rw [heap_setCell_other _ _ _ _ hr];exact h.blk,h.new,h.row,h.bel.setCell h0 _,h.small⟩
structure GrM (w W:World) (r g:Nat) (n:Int) (es:List Ent) (sv:Value):Prop where
 blk:W.heap[g]?=some (.cells #[.int .i64 n,sv] 42 (0,0))
 res:W.heap[r]?=some (.cells #[.int .i64 0,.slice none 0 0] 42 (0,0))
 own:W.ownsRow w.heap.size 44 3 sv es.length (zcT es)
 kps:zaf (fun b=>b=p) w W
 gne:w.heap.size≤g∧r≠g∧g≠p
theorem GrM.ne {W:World} {r g:Nat} {n:Int} {es:List Ent} {sv:Value} (h:GrM (p:=p) w W r g n es sv) {b:Nat} (hb:sv.ownBlock=some b):b≠g∧b≠r:=by
 obtain ⟨cs,hc⟩:=zaN h.own hb
 exact ⟨za5 hc h.blk (by decide),za5 hc h.res (by decide)⟩
theorem GrM.on {W W':World} {r g:Nat} {n:Int} {es:List Ent} {sv:Value} (h:GrM (p:=p) w W r g n es sv) (hr:r≠p) (hp:p<w.heap.size) (hk:zaf (fun b=>b=p) W W'):GrM (p:=p) w W' r g n es sv :=
 ⟨hk.obj h.blk h.gne.2.2,hk.obj h.res hr,zaO h.own fun b hb=>hk.block b (h.own.lt b hb).2 (by have:=(h.own.lt b hb).1;omega),h.kps.trans hk (fun x hx=>.inl hx),h.gne⟩
theorem GrM.atG {W W8:World} {o:Obj} {r g:Nat} {n:Int} {es:List Ent} {sv:Value} (h:GrM (p:=p) w W r g n es sv) (hg8:(W.alloc o).grownBy W8 sv.ownBlock):W8.heap[g]?=some (.cells #[.int .i64 n,sv] 42 (0,0)) :=
 (hg8.block g (by rw [zap];have:=zai h.blk;omega) (fun e=>(h.ne e.symm).1 rfl)).trans (zal _ h.blk)
theorem GrM.app {W W8:World} {o:Obj} {r g:Nat} {n:Int} {es:List Ent} {sv:Value} (h:GrM (p:=p) w W r g n es sv) (hg8:(W.alloc o).grownBy W8 sv.ownBlock) {x:Ent} {v':Value} (hO:W8.ownsRow w.heap.size 44 3 v' (es.length+1) (zcT es++entC x)) :
   GrM (p:=p) w (W8.setCell ⟨g,1,none⟩ v') r g n (es++[x]) v':=by
 have hG:=h.atG hg8
 refine ⟨by rw [heap_setCell_same _ g 1 _ _ _ hG];rfl,?_,?_,((h.kps.alloc o).grown hg8 (fun k hk=>.inr (h.own.lt k hk).1)).setCell (.inr h.gne.1) _,h.gne⟩
 · rw [heap_setCell_other _ _ _ _ h.gne.2.1]
   exact (hg8.block r (by rw [zap];have:=zai h.res;omega) (fun e=>(h.ne e.symm).2 rfl)).trans (zal _ h.res)
 · have h2:zcT (es++[x])=zcT es++entC x:=by rw [entsC_append];simp [zcT]
   rw [h2,List.length_append]
   refine zaO hO fun b hb=>?_
   obtain ⟨cs,hc⟩:=zaN hO hb
   exact heap_setCell_other _ _ _ _ (za5 hc hG (by decide))
theorem isE_own {W:World} {B:Nat} {es:List Ent} {sv:Value} (h:W.ownsRow B 44 3 sv es.length (zcT es)):IsE W (fun b=>B≤b) es sv:=by
 obtain ⟨a,cap,e,-,-⟩:=zaD h
 subst e
 exact ⟨a,cap,rfl,(Row.of_own h).2,fun h0 x hx=>(h.lt x.block (by rw [hx];rfl)).1⟩
theorem GrM.fin {W:World} {r g:Nat} {n:Int} {es:List Ent} {sv:Value} (h:GrM (p:=p) w W r g n es sv) (y0 y1:Value):IsE ((W.setCell ⟨r,0,none⟩ y0).setCell ⟨r,1,none⟩ y1) (fun b=>w.heap.size≤b) es sv :=
 isE_own (zaO h.own fun b hb=>by rw [heap_setCell_other _ _ _ _ (show b≠r from (h.ne hb).2),heap_setCell_other _ _ _ _ (show b≠r from (h.ne hb).2)])
def GrpEnd (w0 w:World) (p:Nat) (a:Option Addr) (cap:Nat) (bs:List UInt8) (last:Bool) (V:Grp×Int×Int) (e:Ending) (w':World):Prop :=
 ∃v,e=.returned (.tuple #[.agg #[.int .i64 V.1.first,v],.int .i64 V.2.2])∧IsE w' (fun b=>w.heap.size≤b) V.1.es v∧(∃at2:Int,IsRd w0 w' p a cap bs last at2∧(V.2.2=0→at2=V.2.1))∧zaf (fun b=>b=p) w w'
theorem grp_no {V:Grp×Int×Int} {W:World} {r:Nat} {e:Int} (hV:V=(⟨0,[]⟩,0,e)) (he:e≠0) (hI:∃at2:Int,IsRd w0 W p a cap bs last at2) (hk:zaf (fun b=>b=p) w W) (hpr:p≠r) (h0:w0.heap.size≤r) (hr:w.heap.size≤r) (y0 y1:Value) :
   GrpEnd w0 w p a cap bs last V (.returned (.tuple #[.agg #[.int .i64 0,.slice none 0 0],.int .i64 e])) ((W.setCell ⟨r,0,none⟩ y0).setCell ⟨r,1,none⟩ y1):=by
 subst hV
 obtain ⟨at2,hI⟩:=hI
 exact ⟨_,rfl,IsE.nil _ _,⟨at2,hI.set2r hpr h0 _ _,fun h=>absurd h he⟩,zfN hk hr _ _⟩
theorem xgroup_any {k:Int} (h:IsRd w0 w p a cap bs last k) (h0:0≤k) (h1:k≤bs.length) (x:Tk) (f t:Int):Calls Tryz.prog 80 #[.pointer (some ⟨p,0,none⟩),.agg (tokN x f t)] w (GrpEnd w0 w p a cap bs last (grp1 bs last x k)):=by
 have HWX:=Lib.hid (fun W=>ze0 x f t W)
 have hto:=za2 (bs:=bs) (k:=k) last h0 h1
 rw [←nxt_3] at hto
 have hsm:=h.small
 have HN:=Lib.hid (fun (W:World) (hI:IsRd w0 W p a cap bs last k)=>ze4 hI)
 obtain ⟨V,hV⟩:∃V,V=grp1 bs last x k:=⟨_,rfl⟩
 rw [←hV]
 unfold grp1 at hV
 generalize nxtV bs last k=U at *
 obtain ⟨y,f2,t2,E⟩:=U
 simp only at hV hto HN
 have HWY:=Lib.hid (fun W=>ze0 y f2 t2 W)
 have HV:=Lib.hid hV
 have HR:=Lib.hid h
 clear hV h
 unfold tokN at HWX HWY HN ⊢
 generalize zaE x=wx at *
 generalize zaE y=wy at *
 generalize x.kind=a0 at *
 generalize x.vk=a1 at *
 generalize x.vn=a2 at *
 generalize mkB x.vs=s1 at *
 generalize mkB x.s=s2 at *
 generalize y.kind=b0 at *
 generalize y.vk=b1 at *
 generalize y.vn=b2 at *
 generalize mkB y.vs=q1 at *
 generalize mkB y.s=q2 at *
 obtain ⟨B,hB⟩:∃B,B=w.heap.size:=⟨_,rfl⟩
 have HB1:=Lib.hid (zbD w (.cells #[.int .i64 a0,.int .i64 f,.int .i64 t,.int .i64 a1,.int .i64 a2,.string s1,.slice none 0 0,.string s2] 150) (.cells #[.int .i64 0,.slice none 0 0] 42))
 have HX1:=Lib.hid (zal (w:=w.alloc (.cells #[.int .i64 a0,.int .i64 f,.int .i64 t,.int .i64 a1,.int .i64 a2,.string s1,.slice none 0 0,.string s2] 150)) (.cells #[.int .i64 0,.slice none 0 0] 42) (zac (w:=w) (b:=B) (.cells #[.int .i64 a0,.int .i64 f,.int .i64 t,.int .i64 a1,.int .i64 a2,.string s1,.slice none 0 0,.string s2] 150) hB))
 have HZ1:=Lib.hid (zac (w:=w.alloc (.cells #[.int .i64 a0,.int .i64 f,.int .i64 t,.int .i64 a1,.int .i64 a2,.string s1,.slice none 0 0,.string s2] 150)) (b:=B+1) (.cells #[.int .i64 0,.slice none 0 0] 42) (by rw [zap,hB]))
 have HI1:=Lib.hid (HR.out.mono HB1.out)
 have HPR:=Lib.hid (show p≠B+1 by have:=HR.out.lt;omega)
 have HPB:=Lib.hid (show p≠B by have:=HR.out.lt;omega)
 have HRW:=Lib.hid (show w.heap.size≤B+1 by omega)
 have HR0:=Lib.hid (Nat.le_trans HR.out.bel.size HRW.out)
 have HK1:=Lib.hid (zaw (S:=fun b=>b=p) HB1.out)
 go_enter Tryz.func80,Tryz.ntmps80
 go_upto_region 1 with fail
 try rw [←hB]
 generalize World.alloc _ _=W1 at *
 clear hB
 generalize B+1=r at *
 obtain ⟨⟨x0,x1,x2,x3,x4,x5,x6,x7⟩,-⟩:=zag HX1.out
 obtain ⟨⟨z0,z1⟩,y0,y1⟩:=zaV HZ1.out
 go_wp2_with fail
 refine (HWX.out _).mono ?_
 rintro e w2 ⟨rfl,hb2⟩
 have HX2:=Lib.hid (zab hb2 HX1.out)
 have HZ2:=Lib.hid (zab hb2 HZ1.out)
 have HI2:=Lib.hid (HI1.out.mono hb2)
 have HK2:=Lib.hid (zaf.trans HK1.out (zaw (S:=fun _=>False) hb2) (fun x h=>(by cases h)))
 clear HX1 HZ1 HI1 HK1 HB1 HWX hb2 x0 x1 x2 x3 x4 x5 x6 x7 z0 z1 y0 y1
 obtain ⟨⟨x0,x1,x2,x3,x4,x5,x6,x7⟩,-⟩:=zag HX2.out
 obtain ⟨⟨z0,z1⟩,y0,y1⟩:=zaV HZ2.out
 cases wx
 case false =>
   have HV2:=Lib.hid (HV.out.trans (if_pos rfl))
   go_wp2
   refine bodyPost_ret (zaa rfl _ _ r 42 _ (0,0) _ rfl (by exact zcV HZ2.out _ _) Tryz.underlying42 rfl (by exact zd9) _ rfl) rfl ?_
   exact grp_no HV2.out (by decide) ⟨_,HI2.out⟩ HK2.out HPR.out HR0.out HRW.out _ _
 have HV2:=Lib.hid (HV.out.trans (if_neg (by decide)))
 clear HV
 go_wp2_with fail
 refine (HN.out _ HI2.out).mono ?_
 rintro e w3 ⟨rfl,hi3,hk3⟩
 have HT3:=Lib.hid (zac (w:=w3) (b:=w3.heap.size) (.cells #[.int .i64 b0,.int .i64 f2,.int .i64 t2,.int .i64 b1,.int .i64 b2,.string q1,.slice none 0 0,.string q2] 150) rfl)
 have HX3:=Lib.hid (zal (.cells #[.int .i64 b0,.int .i64 f2,.int .i64 t2,.int .i64 b1,.int .i64 b2,.string q1,.slice none 0 0,.string q2] 150) (hk3.obj HX2.out (Ne.symm HPB.out)))
 have HZ3:=Lib.hid (zal (.cells #[.int .i64 b0,.int .i64 f2,.int .i64 t2,.int .i64 b1,.int .i64 b2,.string q1,.slice none 0 0,.string q2] 150) (hk3.obj HZ2.out (Ne.symm HPR.out)))
 have HI3:=Lib.hid (hi3.mono (zak w3 (.cells #[.int .i64 b0,.int .i64 f2,.int .i64 t2,.int .i64 b1,.int .i64 b2,.string q1,.slice none 0 0,.string q2] 150)))
 have HK3:=Lib.hid ((zaf.trans HK2.out hk3 (fun x h=>.inl h)).alloc (.cells #[.int .i64 b0,.int .i64 f2,.int .i64 t2,.int .i64 b1,.int .i64 b2,.string q1,.slice none 0 0,.string q2] 150))
 have HTW:=Lib.hid (Nat.le_trans HK2.out.size hk3.size)
 have HTP:=Lib.hid (show p≠w3.heap.size by have:=hi3.lt;omega)
 have HTX:=Lib.hid (show r<w3.heap.size∧B<w3.heap.size from ⟨zai (hk3.obj HZ2.out (Ne.symm HPR.out)),zai (hk3.obj HX2.out (Ne.symm HPB.out))⟩)
 clear HX2 HZ2 HI2 HK2 hi3 hk3 HN x0 x1 x2 x3 x4 x5 x6 x7 z0 z1 y0 y1
 go_upto_region 4 with fail
 obtain ⟨T,hT⟩:∃T,T=w3.heap.size:=⟨_,rfl⟩
 rw [←hT] at HT3 HTW HTP HTX ⊢
 clear hT
 generalize World.alloc _ _=W3 at *
 obtain ⟨⟨x0,x1,x2,x3,x4,x5,x6,x7⟩,-⟩:=zag HX3.out
 obtain ⟨⟨v0,v1,v2,v3,v4,v5,v6,v7⟩,-⟩:=zag HT3.out
 obtain ⟨⟨z0,z1⟩,y0,y1⟩:=zaV HZ3.out
 by_cases hE:E=0
 case neg =>
   have HV3:=Lib.hid (HV2.out.trans (if_pos hE))
   have e0:(E==0)=false:=by rw [beq_eq_false_iff_ne];exact hE
   have e1:(E != 0)=true:=by simp only [bne,e0,Bool.not_false]
   have HE:=Lib.hid hE
   clear hE
   go_wp2
   refine bodyPost_ret (zaa rfl _ _ r 42 _ (0,0) _ rfl (by exact zcV HZ3.out _ _) Tryz.underlying42 rfl (by exact zd9) _ rfl) rfl ?_
   exact grp_no HV3.out HE.out ⟨_,HI3.out⟩ HK3.out HPR.out HR0.out HRW.out _ _
 subst hE
 have HV3:=Lib.hid (HV2.out.trans (if_neg (by decide)))
 clear HV2
 rw [if_pos rfl] at HI3
 obtain ⟨N,hN⟩:∃N,N=b2.toNat:=⟨_,rfl⟩
 have HFT:=Lib.hid (fun W=>fits_any a2 b2 W)
 obtain ⟨fv,hfv⟩:∃fv,fv=zfi a2 b2:=⟨_,rfl⟩
 rw [←hfv] at HFT HV3
 have HFV:=Lib.hid hfv
 clear hfv
 rw [←hN] at HV3
 obtain ⟨Q,hQ⟩:∃Q,Q=zdZ bs last N t2.toNat []:=⟨_,rfl⟩
 rw [←hQ] at HV3
 have HQ:=Lib.hid hQ
 have HNN:=Lib.hid hN
 clear hQ hN
 go_wp2_with fail
 refine (HWY.out _).mono ?_
 rintro e w4 ⟨rfl,hb4⟩
 have HX4:=Lib.hid (zab hb4 HX3.out)
 have HT4:=Lib.hid (zab hb4 HT3.out)
 have HZ4:=Lib.hid (zab hb4 HZ3.out)
 have HI4:=Lib.hid (HI3.out.mono hb4)
 have HK4:=Lib.hid (zaf.trans HK3.out (zaw (S:=fun _=>False) hb4) (fun x h=>(by cases h)))
 clear HX3 HT3 HZ3 HI3 HK3 hb4 HWY x0 x1 x2 x3 x4 x5 x6 x7 v0 v1 v2 v3 v4 v5 v6 v7 z0 z1 y0 y1
 obtain ⟨⟨x0,x1,x2,x3,x4,x5,x6,x7⟩,-⟩:=zag HX4.out
 obtain ⟨⟨v0,v1,v2,v3,v4,v5,v6,v7⟩,-⟩:=zag HT4.out
 obtain ⟨⟨z0,z1⟩,y0,y1⟩:=zaV HZ4.out
 cases wy
 case false =>
   have HV4:=Lib.hid (HV3.out.trans (if_pos (.inl rfl)))
   go_wp2
   refine bodyPost_ret (zaa rfl _ _ r 42 _ (0,0) _ rfl (by exact zcV HZ4.out _ _) Tryz.underlying42 rfl (by exact zd9) _ rfl) rfl ?_
   exact grp_no HV4.out (by decide) ⟨_,HI4.out⟩ HK4.out HPR.out HR0.out HRW.out _ _
 cases fv
 case false =>
   have HV4:=Lib.hid (HV3.out.trans (if_pos (.inr rfl)))
   go_wp2_with (go_at_call 116;refine (HFT.out _).mono ?_;rintro e w5 ⟨rfl,rfl⟩)
   refine bodyPost_ret (zaa rfl _ _ r 42 _ (0,0) _ rfl (by exact zcV HZ4.out _ _) Tryz.underlying42 rfl (by exact zd9) _ rfl) rfl ?_
   exact grp_no HV4.out (by decide) ⟨_,HI4.out⟩ HK4.out HPR.out HR0.out HRW.out _ _
 have HV4:=Lib.hid (HV3.out.trans (if_neg (by simp)))
 have hfb:0≤b2∧b2≤4097:=by
   have h:=HFV.out
   unfold zfi at h
   simp only [eq_comm (a:=true),Bool.and_eq_true,decide_eq_true_eq] at h
   omega
 have hb2N:b2=(N:Int):=by have:=HNN.out;omega
 subst hb2N
 have hN7:N≤4097:=by omega
 clear HV3 HFV HNN hfb
 go_upto_region 9 with (go_at_call 116;refine (HFT.out _).mono ?_;rintro e w5 ⟨rfl,rfl⟩)
 have HT5:=Lib.hid (zal (.cells #[.int .i64 a2,.slice none 0 0] 42) HT4.out)
 have HG5:=Lib.hid (show GrM (p:=p) w (w4.alloc (.cells #[.int .i64 a2,.slice none 0 0] 42)) r w4.heap.size a2 [] (.slice none 0 0) from ⟨zac _ rfl,zal _ HZ4.out,World.ownsRow_nil _ _ _ _,HK4.out.alloc _,HK4.out.size,Nat.ne_of_lt (zai HZ4.out),fun e=>by have:=HI4.out.lt;omega⟩)
 have HI5:=Lib.hid (HI4.out.mono (zak w4 (.cells #[.int .i64 a2,.slice none 0 0] 42)))
 have HPW:=Lib.hid (show p<w.heap.size from HR.out.lt)
 have HWR0:=Lib.hid (Nat.le_trans HR.out.bel.size (Nat.le_refl _))
 generalize w4.heap.size=g at *
 generalize World.alloc _ _=W5 at *
 clear HX4 HT4 HZ4 HI4 HK4 x0 x1 x2 x3 x4 x5 x6 x7 v0 v1 v2 v3 v4 v5 v6 v7 z0 z1 y0 y1
 obtain ⟨⟨v0,v1,v2,v3,v4,v5,v6,v7⟩,-⟩:=zag HT5.out
 go_wp2_with fail
 clear v0 v1 v2 v3 v4 v5 v6 v7 HT5
 go_loopw [49] (fun v wr=>∃(c k2:Nat) (es:List Ent) (sv:Value),v=.int .i64 c∧c≤N∧k2≤bs.length∧Hid (es.length=c)∧Hid (IsRd w0 wr p a cap bs last (k2:Int))∧Hid (GrM (p:=p) w wr r g a2 es sv)∧Hid (Q=zdZ bs last (N-c) k2 es)) (fun v _=>N-(intOf v).toNat)
 case atStart=>exact ⟨0,t2.toNat,[],.slice none 0 0,rfl,by omega,by omega,Lib.hid rfl,Lib.hid (by rw [Int.toNat_of_nonneg (by omega)];exact HI5.out),HG5,HQ⟩
 case round =>
   obtain ⟨c,k2,es,sv,rfl,hcN,hk2,HES,HI,HGM,HQR⟩:=hrel
   by_cases hlt:c<N
   · have hcd:decide ((c:Int)<(N:Int))=true:=by simp;omega
     have hcd2:decide (c<N)=true:=by simp;omega
     have HEN:=Lib.hid (xentry_any HI.out hk2)
     obtain ⟨m,hm⟩:∃m,m+1=N-c:=⟨N-c-1,by omega⟩
     have HM:=Lib.hid hm
     have hQ1:=HQR.out
     rw [←hm,zdZ] at hQ1
     have htl:(entV bs last k2).2.2=0→(entV bs last k2).2.1≤bs.length:=fun h=>entV_le hk2 h
     generalize entV bs last k2=Y at *
     obtain ⟨ee,kk,er⟩:=Y
     simp only at hQ1 htl
     have HQ1:=Lib.hid hQ1
     unfold EntEnd entA at HEN
     simp only at HEN
     have HEE:=Lib.hid (show entC ee=[.int .i64 ee.at_,.int .i64 ee.gen,.bool ee.used] from rfl)
     generalize ee.at_=ea at *
     generalize ee.gen=eg at *
     generalize ee.used=eu at *
     clear hm hQ1 HQR
     go_wp2_with fail
     refine HEN.out.mono ?_
     rintro e w6 ⟨rfl,⟨at2,hi6,hat⟩,hk6⟩
     have HE7:=Lib.hid (zac (w:=w6) (b:=w6.heap.size) (.cells #[.int .i64 ea,.int .i64 eg,.bool eu] 44) rfl)
     have HI7:=Lib.hid (hi6.mono (zak w6 (.cells #[.int .i64 ea,.int .i64 eg,.bool eu] 44)))
     have HG7:=Lib.hid ((HGM.out.on (Ne.symm HPR.out) HPW.out hk6).on (Ne.symm HPR.out) HPW.out (zaw (zak w6 (.cells #[.int .i64 ea,.int .i64 eg,.bool eu] 44))))
     have HAT:=Lib.hid hat
     clear hi6 hk6 hat HEN HI HGM
     go_upto_region 12 with fail
     obtain ⟨z,hz⟩:∃z,z=w6.heap.size:=⟨_,rfl⟩
     rw [←hz] at HE7 ⊢
     clear hz
     generalize w6.alloc _=W7 at *
     obtain ⟨⟨l0,l1,l2⟩,-⟩:=ze2 HE7.out
     obtain ⟨⟨g0,g1⟩,gf0,gf1⟩:=zaV HG7.out.blk
     obtain ⟨⟨z0,z1⟩,y0,y1⟩:=zaV HG7.out.res
     by_cases her:er=0
     case neg =>
       have e0:(er==0)=false:=by rw [beq_eq_false_iff_ne];exact her
       have e1:(er != 0)=true:=by simp only [bne,e0,Bool.not_false]
       have HVF:=Lib.hid (HV4.out.trans (show _=((⟨0,[]⟩,0,er):Grp×Int×Int) by rw [HQ1.out,if_pos her];exact if_pos her))
       have HER:=Lib.hid her
       clear her HQ1 HAT htl
       go_wp2
       refine bodyPost_ret (zaa rfl _ _ r 42 _ (0,0) _ rfl (by exact zcV HG7.out.res _ _) Tryz.underlying42 rfl (by exact zd9) _ rfl) rfl ?_
       exact grp_no HVF.out HER.out ⟨_,HI7.out⟩ HG7.out.kps HPR.out HR0.out HRW.out _ _
     subst her
     obtain ⟨sa,sc,rfl,-,-⟩:=zaD HG7.out.own
     have hL:es.length≤4097:=by have:=HES.out;omega
     have hone:∀u∈[Value.int .i64 ea,.int .i64 eg,.bool eu],u.oneCell'=true:=by
       intro u hu
       simp at hu
       rcases hu with rfl|rfl|rfl<;>rfl
     have HONE:=Lib.hid hone
     have HQ2:=Lib.hid (HQ1.out.trans (if_neg (by decide)))
     have HKK:=Lib.hid (htl rfl)
     clear hone HQ1 htl
     go_wp2_with (at_builtin;go_loud (refine zdW EEnt rfl (.tmp 61) (.tmp 63) rfl w.heap.size _ es.length _ rfl (HG7.out.own.alloc _) _ 1 _ rfl (zgE _ #[.int .i64 ea,.int .i64 eg,.bool eu] _ 3 rfl rfl) HONE.out (by unfold maxLen;omega) (by omega) (by rw [zap];have:=HG7.out.kps.size;omega) ?_);intro v' w8 hO8 hg8 hn8;obtain ⟨va,vc,rfl,-,-⟩:=zaD hO8;have HG8:=Lib.hid (HG7.out.app hg8 (by rw [HEE.out];exact hO8));have HI8:=Lib.hid (((HI7.out.mono (zak _ _)).grown hg8 (fun b hb=>⟨fun e=>by have:=(HG7.out.own.lt b hb).1;have:=HPW.out;omega,Nat.le_trans HR.out.bel.size (HG7.out.own.lt b hb).1⟩)).set (r:=g) (Ne.symm HG7.out.gne.2.2) (Nat.le_trans HR.out.bel.size HG7.out.gne.1) 1 (.slice va (es.length+1) vc));obtain ⟨⟨q0,q1⟩,qf0,qf1⟩:=zaV (HG7.out.atG hg8);clear hO8 hg8 hn8)
     go_roundw
     case rel=>exact ⟨c+1,kk,es++[ee],_,by go_num,by omega,HKK.out,Lib.hid (by rw [List.length_append,HES.out];rfl),by rw [←HAT.out rfl];exact HI8,HG8,Lib.hid (by rw [HQ2.out,show N-(c+1)=m by have:=HM.out;omega])⟩
     case measure=>simp [intOf];omega
   · have hce:c=N:=by omega
     subst hce
     have hcd:decide ((c:Int)<(c:Int))=false:=decide_eq_false (by omega)
     have hcd2:decide (c<c)=false:=decide_eq_false (by omega)
     have HQ2:=Lib.hid (HQR.out.trans (show zdZ bs last (c-c) k2 es=(es,k2,0) by rw [Nat.sub_self];rfl))
     have HVF:=Lib.hid (HV4.out.trans (show _=((⟨a2,es⟩,k2,0):Grp×Int×Int) by rw [HQ2.out];exact if_neg (fun h=>h rfl)))
     obtain ⟨⟨g0,g1⟩,gf0,gf1⟩:=zaV HGM.out.blk
     obtain ⟨⟨z0,z1⟩,y0,y1⟩:=zaV HGM.out.res
     obtain ⟨sa,sc,hsv,-,-⟩:=zaD HGM.out.own
     subst hsv
     go_wp2
     refine bodyPost_ret (zaa rfl _ _ r 42 _ (0,0) _ rfl (by exact zcV HGM.out.res _ _) Tryz.underlying42 rfl (by exact zd9) _ rfl) rfl ?_
     rw [HVF.out]
     refine ⟨_,rfl,?_,⟨_,HI.out.set2r HPR.out HR0.out _ _,fun _=>rfl⟩,zfN HGM.out.kps HRW.out _ _⟩
     exact HGM.out.fin _ _
end
theorem nextK_go {kn:List Bool} {j:Nat} (h:kn.getD j false=true):zaR kn j=zaR kn (j+1):=by
 have hj:j<kn.length:=by
   rcases Nat.lt_or_ge j kn.length with h2|h2
   · exact h2
   · rw [List.getD_eq_getElem?_getD,List.getElem?_eq_none h2] at h;cases h
 have hx:kn[j]=true:=by rw [List.getD_eq_getElem?_getD,List.getElem?_eq_getElem hj] at h;exact h
 unfold zaR
 rw [List.drop_eq_getElem_cons hj,hx]
 simp
 omega
theorem zfQ {kn:List Bool} {j:Nat} (h:kn.getD j false=false):zaR kn j=j:=by
 unfold zaR
 rcases Nat.lt_or_ge j kn.length with hj|hj
 · have hx:kn[j]=false:=by rw [List.getD_eq_getElem?_getD,List.getElem?_eq_getElem hj] at h;exact h
   rw [List.drop_eq_getElem_cons hj,hx]
   simp
 · rw [List.drop_eq_nil_of_le hj];rfl
structure FlM (w:World) (a:Option Addr) (cap:Nat) (bs:List UInt8) (ka:Option Addr) (kc:Nat) (kn:List Bool):Prop where
 row:Row w 1 a bs.length cap (bs.map u8C)
 kno:Row w 1 ka kn.length kc (kn.map Value.bool)
 len:kn.length=bs.length
theorem FlM.mono {w w':World} {a:Option Addr} {cap:Nat} {bs:List UInt8} {ka:Option Addr} {kc:Nat} {kn:List Bool} (h:FlM w a cap bs ka kc kn) (hb:Below w.heap.size w w'):FlM w' a cap bs ka kc kn:=⟨h.row.mono hb,h.kno.mono hb,h.len⟩
theorem rnext16_any {w:World} {a:Option Addr} {cap:Nat} {bs:List UInt8} {ka:Option Addr} {kc:Nat} {kn:List Bool} (h:FlM w a cap bs ka kc kn) {k:Nat} (hk:k≤bs.length) :
   Calls Tryz.prog 60 #[.agg #[.slice a bs.length cap,.slice ka bs.length kc],.int .i64 k] w fun e w'=>e=.returned (.int .i64 (zaR kn k:Nat))∧Below w.heap.size w w':=by
 have hi:=h.row.i64
 have HK:=Lib.hid (show Row w 1 ka bs.length kc (kn.map Value.bool) by rw [←h.len];exact h.kno)
 have HKL:=Lib.hid h.len
 obtain ⟨R,hR⟩:∃R,R=zaR kn k:=⟨_,rfl⟩
 have HR:=Lib.hid hR
 rw [←hR]
 clear hR h
 obtain ⟨B,hB⟩:∃B,B=w.heap.size:=⟨_,rfl⟩
 have HB1:=Lib.hid (zak w (.cells #[.slice a bs.length cap,.slice ka bs.length kc] 59))
 have HZ1:=Lib.hid (zac (w:=w) (b:=B) (.cells #[.slice a bs.length cap,.slice ka bs.length kc] 59) hB)
 have HK1:=Lib.hid (HK.out.mono HB1.out)
 go_enter Tryz.func60,Tryz.ntmps60
 go_upto_region 1 with fail
 try rw [←hB]
 clear hB HK
 generalize w.alloc _=W1 at *
 obtain ⟨⟨z0,z1⟩,-⟩:=zaV HZ1.out
 go_loop [1] (fun v=>∃j:Nat,v=.int .i64 j∧j≤bs.length∧Hid (R=zaR kn j)) (fun v=>bs.length-(intOf v).toNat)
 case atStart=>exact ⟨k,rfl,hk,HR⟩
 case round =>
   obtain ⟨j,rfl,hj,HQ⟩:=hrel
   by_cases hlt:j<bs.length
   · have hcd:decide ((j:Int)<(bs.length:Int))=true:=decide_eq_true (by omega)
     have hcd2:decide (j<bs.length)=true:=decide_eq_true hlt
     obtain ⟨b,off,rfl,-,hcc⟩:=HK1.out.at false j hlt
     have hcj:=hcc j hlt
     have HGO:=Lib.hid (fun h=>nextK_go (kn:=kn) (j:=j) h)
     have HST:=Lib.hid (fun h=>zfQ (kn:=kn) (j:=j) h)
     clear hcc
     generalize kn.getD j false=q at *
     cases q
     · have HE:=Lib.hid (HQ.out.trans (HST.out rfl))
       clear HQ HST HGO
       go_wp2_with fail
       go_ret
       exact ⟨by rw [HE.out];rfl,HB1.out⟩
     · have HE:=Lib.hid (HQ.out.trans (HGO.out rfl))
       clear HQ HST HGO
       go_wp2_with fail
       go_round
       case rel=>exact ⟨j+1,by go_num,by omega,HE⟩
       case measure=>simp [intOf];omega
   · have hcd:decide ((j:Int)<(bs.length:Int))=false:=decide_eq_false (by omega)
     have hcd2:decide (j<bs.length)=false:=decide_eq_false hlt
     have HE:=Lib.hid (show R=j by rw [HQ.out];exact zfQ (by rw [List.getD_eq_getElem?_getD,List.getElem?_eq_none (by have:=HKL.out;omega)];rfl))
     clear HQ
     go_wp2_with fail
     go_ret
     exact ⟨by rw [HE.out];rfl,HB1.out⟩
def FromEnd (w:World) (bs:List UInt8) (kn:List Bool) (k:Nat) (e:Ending) (w':World):Prop :=
 ∃a c,e=.returned (.tuple #[.slice a ((bs.drop k).take (zaR kn k-k)).length c,.bool (zaR kn k==bs.length)])∧Row w' 1 a ((bs.drop k).take (zaR kn k-k)).length c (((bs.drop k).take (zaR kn k-k)).map u8C)∧Below w.heap.size w w'
theorem grps_err {bs:List UInt8} {last:Bool} {g:Nat} {gs:List Grp} {k:Int} (he:(nxtV bs last k).2.2.2≠0):zbN bs last (g+1) gs k=([],0,(nxtV bs last k).2.2.2):=by
 unfold zbN;simp only;rw [if_pos he]
theorem zft {bs:List UInt8} {last:Bool} {g:Nat} {gs:List Grp} {k:Int} (he:(nxtV bs last k).2.2.2=0) (ht:zek (nxtV bs last k).1=true):zbN bs last (g+1) gs k=(gs,(nxtV bs last k).2.2.1,0):=by
 unfold zbN;simp only;rw [if_neg (by rw [he];decide),if_pos ht]
theorem grps_bad {bs:List UInt8} {last:Bool} {g:Nat} {gs:List Grp} {k:Int} (he:(nxtV bs last k).2.2.2=0) (ht:zek (nxtV bs last k).1=false) (hw:zaE (nxtV bs last k).1=false):zbN bs last (g+1) gs k=([],0,20):=by
 unfold zbN;simp only;rw [if_neg (by rw [he];decide),if_neg (by rw [ht];decide),if_pos hw]
theorem grps_full {bs:List UInt8} {last:Bool} {g:Nat} {gs:List Grp} {k:Int} (he:(nxtV bs last k).2.2.2=0) (ht:zek (nxtV bs last k).1=false) (hw:zaE (nxtV bs last k).1=true) (hl:gs.length=64) :
   zbN bs last (g+1) gs k=([],0,if (nxtV bs last (nxtV bs last k).2.2.1).2.2.2≠0 then (nxtV bs last (nxtV bs last k).2.2.1).2.2.2 else 20):=by
 unfold zbN;simp only
 rw [if_neg (by rw [he];decide),if_neg (by rw [ht];decide),if_neg (by rw [hw];decide)]
 split
 · rfl
 · rw [if_pos (.inr (.inl hl))]
theorem grps_step {bs:List UInt8} {last:Bool} {g:Nat} {gs:List Grp} {k:Int} (he:(nxtV bs last k).2.2.2=0) (ht:zek (nxtV bs last k).1=false) (hl:gs.length≠64) :
   zbN bs last (g+1) gs k=if (grp1 bs last (nxtV bs last k).1 (nxtV bs last k).2.2.1).2.2≠0 then ([],0,(grp1 bs last (nxtV bs last k).1 (nxtV bs last k).2.2.1).2.2)
     else zbN bs last g (gs++[(grp1 bs last (nxtV bs last k).1 (nxtV bs last k).2.2.1).1]) (grp1 bs last (nxtV bs last k).1 (nxtV bs last k).2.2.1).2.1:=by
 conv=>lhs;unfold zbN
 simp only
 rw [if_neg (by rw [he];decide),if_neg (by rw [ht];decide)]
 unfold grp1
 generalize nxtV bs last (nxtV bs last k).2.2.1=u
 generalize nxtV bs last k=t
 by_cases hw:zaE t.1=false
 · simp [hw]
 rw [if_neg hw,if_neg hw]
 by_cases hu:u.2.2.2≠0
 · rw [if_pos hu,if_pos hu]
   simp [hu]
 rw [if_neg hu,if_neg hu]
 by_cases hf:zaE u.1=false∨zfi t.1.vn u.1.vn=false
 · rw [if_pos (hf.imp id fun h=>.inr h),if_pos hf]
   simp
 rw [if_neg (fun h=>h.elim (fun a=>hf (.inl a)) (fun b=>b.elim hl (fun c=>hf (.inr c)))),if_neg hf]
 by_cases hq:(zdZ bs last u.1.vn.toNat u.2.2.1.toNat []).2.2≠0
 · rw [if_pos hq,if_pos hq]
   simp [hq]
 · rw [if_neg hq,if_neg hq]
   simp
theorem grp1_le {bs:List UInt8} {last:Bool} {x:Tk} {k:Int} (h0:0≤k) (h1:k≤bs.length):0≤(grp1 bs last x k).2.1∧(grp1 bs last x k).2.1≤bs.length:=by
 have hto:=za2 (bs:=bs) (k:=k) last h0 h1
 rw [←nxt_3] at hto
 have hen:∀(m a:Nat) (l:List Ent),a≤bs.length→(zdZ bs last m a l).2.1≤bs.length:=by
   intro m
   induction m with
   | zero=>intro a l h;exact h
   | succ m ih =>
     intro a l h
     rw [zdZ]
     split
     · exact Nat.zero_le _
     · rename_i he
       exact ih _ _ (entV_le h (by simpa using he))
 unfold grp1
 split
 · exact ⟨Int.le_refl _,by show (0:Int)≤_;omega⟩
 split
 · exact ⟨Int.le_refl _,by show (0:Int)≤_;omega⟩
 split
 · exact ⟨Int.le_refl _,by show (0:Int)≤_;omega⟩
 split
 · exact ⟨Int.le_refl _,by show (0:Int)≤_;omega⟩
 · have:=hen (nxtV bs last k).1.vn.toNat (nxtV bs last k).2.2.1.toNat [] (by omega)
   exact ⟨by show (0:Int)≤((_:Nat):Int);omega,by show ((_:Nat):Int)≤_;omega⟩
theorem EGrp:zc6 Tryz.prog 24 42 (.agg #[.int .i64 0,.slice none 0 0]) 2 32:=⟨Tryz.underlying24,by kernel_rfl,rfl,by omega⟩
theorem trail_iff (x:Tk):zek x=(x.kind==6&&decide (x.s=[116,114,97,105,108,101,114])):=by
 unfold zek
 congr 1
 by_cases h:x.s=[116,114,97,105,108,101,114]<;>simp [h]
theorem zci (W:World) (o:Obj) {b:Nat} (hb:b<W.heap.size):(W.alloc o).heap[b]?=W.heap[b]?:=(zak W o).block b hb
structure GsM (w W:World) (p:Nat) (gs:List Grp) (cs:List Value) (v:Value):Prop where
 own:W.ownsRow w.heap.size 42 2 v gs.length cs
 hold:IsGs W (fun b=>w.heap.size≤b∧v.ownBlock≠some b) gs cs
 kps:zaf (fun b=>b=p) w W
theorem GsM.on {w W W':World} {p:Nat} {gs:List Grp} {cs:List Value} {v:Value} (h:GsM w W p gs cs v) (hp:p<w.heap.size) (hk:zaf (fun b=>b=p) W W'):GsM w W' p gs cs v :=
 ⟨zaO h.own fun b hb=>hk.block b (h.own.lt b hb).2 (by have:=(h.own.lt b hb).1;omega),h.hold.keep ⟨hk.size,fun b hb hF=>hk.block b hb (by have:=hF.1;omega)⟩ (fun _ h=>h),h.kps.trans hk (fun x hx=>.inl hx)⟩
theorem GsM.fin {w W:World} {p:Nat} {gs:List Grp} {cs:List Value} {v:Value} (h:GsM w W p gs cs v):IsG W (fun b=>w.heap.size≤b) gs v:=by
 obtain ⟨a,cap,e,-,-⟩:=zaD h.own
 subst e
 exact ⟨a,cap,cs,rfl,(Row.of_own h.own).2,fun h0 x hx=>(h.own.lt x.block (by rw [hx];rfl)).1,h.hold.keep (zaL.refl _ _) (fun b hb=>hb.1)⟩
theorem GsM.app {w W W8:World} {p:Nat} {o:Obj} {gs:List Grp} {cs:List Value} {v v':Value} (h:GsM w W p gs cs v) (hg8:(W.alloc o).grownBy W8 v.ownBlock) {n:Int} {es:List Ent} {sv:Value} {B:Nat} (he:IsE W (fun b=>B≤b) es sv) (hB:w.heap.size≤B) (hv:∀b,v.ownBlock=some b→b<B) (_hBW:B≤W.heap.size)
   (hO:W8.ownsRow w.heap.size 42 2 v' (gs.length+1) (cs++[.int .i64 n,sv])) (hn:∀b,v'.ownBlock=some b→v.ownBlock=some b∨(W.alloc o).heap.size≤b):GsM w W8 p (gs++[⟨n,es⟩]) (cs++[.int .i64 n,sv]) v':=by
 have hst:zaL (fun b=>v.ownBlock≠some b∧b<W.heap.size) W W8:=⟨by have:=hg8.size;rw [zap] at this;omega,fun b hb hF=>by
   rw [hg8.block b (by rw [zap];omega) (fun e=>hF.1 e.symm)]
   exact (zci W o hb)⟩
 refine ⟨by rw [List.length_append];exact hO,?_,(h.kps.alloc o).grown hg8 (fun k hk=>.inr (h.own.lt k hk).1)⟩
 have hnew:∀b,b<W.heap.size→v.ownBlock≠some b→v'.ownBlock≠some b:=fun b hb hne e=>by
   rcases hn b e with h1|h1
   · exact hne h1
   · rw [zap] at h1;omega
 have lt_e:∀ {es:List Ent} {sv:Value} {F:Nat→Prop},IsE W F es sv→IsE W (fun b=>F b∧b<W.heap.size) es sv:=fun {es sv F} h=>by
   obtain ⟨a,cap,e,hr,hF⟩:=h
   exact ⟨a,cap,e,hr,fun h0 x hx=>⟨hF h0 x hx,hr.lt h0 x hx⟩⟩
 have lt_g:∀ {gs:List Grp} {cs:List Value} {F:Nat→Prop},IsGs W F gs cs→IsGs W (fun b=>F b∧b<W.heap.size) gs cs:=fun {gs}=>by
   induction gs with
   | nil=>exact fun h=>h
   | cons g gs ih=>exact fun ⟨v,t,e,h1,h2⟩=>⟨v,t,e,lt_e h1,ih h2⟩
 refine IsGs.snoc ?_ ?_
 · have h2:=(lt_g h.hold)
   have h3:IsGs W8 (fun b=>(w.heap.size≤b∧v.ownBlock≠some b)∧b<W.heap.size) gs cs:=h2.keep ⟨hst.1,fun b hb hF=>hst.2 b hb ⟨hF.1.2,hF.2⟩⟩ (fun _ h=>h)
   exact h3.keep (zaL.refl _ _) (fun b hb=>⟨hb.1.1,hnew b hb.2 hb.1.2⟩)
 · have h2:IsE W (fun b=>B≤b∧b<W.heap.size) es sv:=lt_e he
   have hne:∀b,B≤b→v.ownBlock≠some b:=fun b hb e=>by have:=hv b e;omega
   have h3:IsE W8 (fun b=>B≤b∧b<W.heap.size) es sv:=h2.keep ⟨hst.1,fun b hb hF=>hst.2 b hb ⟨hne b hF.1,hF.2⟩⟩ (fun _ h=>h)
   exact h3.keep (zaL.refl _ _) (fun b hb=>⟨Nat.le_trans hB hb.1,hnew b hb.2 (hne b hb.1)⟩)
section
variable {w0 w : World} {p : Nat} {a : Option Addr} {cap : Nat} {bs : List UInt8} {last : Bool}
def GsEnd (w0 w:World) (p:Nat) (a:Option Addr) (cap:Nat) (bs:List UInt8) (last:Bool) (V:List Grp×Int×Int) (e:Ending) (w':World):Prop :=
 ∃v,e=.returned (.tuple #[v,.int .i64 V.2.2])∧IsG w' (fun b=>w.heap.size≤b) V.1 v∧(∃at2:Int,IsRd w0 w' p a cap bs last at2∧(V.2.2=0→at2=V.2.1))∧zaf (fun b=>b=p) w w'
theorem gs_no {V:List Grp×Int×Int} {W:World} {e:Int} (hV:V=([],0,e)) (he:e≠0) (hI:∃at2:Int,IsRd w0 W p a cap bs last at2) (hk:zaf (fun b=>b=p) w W):GsEnd w0 w p a cap bs last V (.returned (.tuple #[.slice none 0 0,.int .i64 e])) W:=by
 subst hV
 obtain ⟨at2,hI⟩:=hI
 exact ⟨_,rfl,IsG.nil _ _,⟨at2,hI,fun h=>absurd h he⟩,hk⟩
def lenV:Value→Nat | .slice _ n _=>n|_=>0
theorem xgroups_any {k:Int} (h:IsRd w0 w p a cap bs last k) (h0:0≤k) (h1:k≤bs.length):Calls Tryz.prog 44 #[.pointer (some ⟨p,0,none⟩)] w (GsEnd w0 w p a cap bs last (zbN bs last 65 [] k)):=by
 have hsm:=h.small
 have HPW:=Lib.hid (show p<w.heap.size from h.lt)
 obtain ⟨R,hR⟩:∃R,R=zbN bs last 65 [] k:=⟨_,rfl⟩
 rw [←hR]
 have HRR:=Lib.hid hR
 have HR:=Lib.hid h
 clear h hR
 go_enter Tryz.func44,Tryz.ntmps44
 go_wp2
 go_loopw [4] (fun v wr=>∃(gs:List Grp) (k2:Int) (cs:List Value),gs.length≤64∧0≤k2∧k2≤bs.length∧Hid (IsRd w0 wr p a cap bs last k2)∧Hid (GsM w wr p gs cs v)∧Hid (R=zbN bs last (65-gs.length) gs k2)) (fun v _=>65-lenV v)
 case atStart=>exact ⟨[],k,[],by simp,h0,h1,HR,Lib.hid ⟨World.ownsRow_nil _ _ _ _,rfl,zaf.refl _ _⟩,HRR⟩
 case round =>
   obtain ⟨gs,k2,cs,hgl,hk0,hk1,HI,HGM,HQ⟩:=hrel
   obtain ⟨sa,sc,rfl,-,-⟩:=zaD HGM.out.own
   have HN:=Lib.hid (ze4 HI.out)
   have hto:=za2 (bs:=bs) (k:=k2) last hk0 hk1
   rw [←nxt_3] at hto
   obtain ⟨m,hm⟩:∃m,m+1=65-gs.length:=⟨64-gs.length,by omega⟩
   have hQ:=HQ.out
   rw [←hm] at hQ
   have HM:=Lib.hid hm
   have HQE:=Lib.hid (fun he=>hQ.trans (grps_err he))
   have HQT:=Lib.hid (fun he ht=>hQ.trans (zft he ht))
   have HQB:=Lib.hid (fun he ht hw=>hQ.trans (grps_bad he ht hw))
   have HQF:=Lib.hid (fun he ht hw hl=>hQ.trans (grps_full he ht hw hl))
   have HQS:=Lib.hid (fun he ht hl=>hQ.trans (grps_step he ht hl))
   have HN2:=Lib.hid (fun (W:World) (hI:IsRd w0 W p a cap bs last (nxtV bs last k2).2.2.1)=>ze4 hI)
   have HGR:=Lib.hid (fun (W:World) (hI:IsRd w0 W p a cap bs last (nxtV bs last k2).2.2.1)=>xgroup_any hI (by omega) hto.2 (nxtV bs last k2).1 (nxtV bs last k2).2.1 (nxtV bs last k2).2.2.1)
   have HGL:=Lib.hid (grp1_le (bs:=bs) (last:=last) (x:=(nxtV bs last k2).1) (k:=(nxtV bs last k2).2.2.1) (by omega) hto.2)
   have HGB:=Lib.hid (fun (h:zaE (nxtV bs last k2).1=false)=>show (grp1 bs last (nxtV bs last k2).1 (nxtV bs last k2).2.2.1).2.2=20 by unfold grp1;rw [if_pos h])
   have HTI:=Lib.hid (trail_iff (nxtV bs last k2).1)
   have HWX:=Lib.hid (fun W=>ze0 (nxtV bs last k2).1 (nxtV bs last k2).2.1 (nxtV bs last k2).2.2.1 W)
   have HSQ:=Lib.hid (zdB (nxtV bs last k2).1.s [116,114,97,105,108,101,114])
   clear hm hQ HQ
   generalize nxtV bs last k2=U at *
   obtain ⟨x,f,t,E⟩:=U
   simp only at hto HN HQE HQT HQB HQF HQS HN2 HGR HGL HTI HWX HSQ
   generalize nxtV bs last t=U2 at *
   obtain ⟨y,f2,t2,E2⟩:=U2
   generalize grp1 bs last x t=G at *
   obtain ⟨⟨gn,ge⟩,gk,gr⟩:=G
   unfold GrpEnd at HGR
   simp only at HQF HQS HN2 HGR HGL HGB
   unfold tokN at HN HN2 HWX HGR
   obtain ⟨tr,htr⟩:∃tr,tr=decide (x.s=[116,114,97,105,108,101,114]):=⟨_,rfl⟩
   rw [←htr] at HTI HSQ
   rw [HTI.out] at HQT HQB HQF HQS
   clear htr HTI
   generalize zaE x=wx at *
   generalize x.kind=a0 at *
   generalize x.vk=a1 at *
   generalize x.vn=a2 at *
   generalize mkB x.vs=s1 at *
   generalize mkB x.s=s2 at *
   generalize y.kind=b0 at *
   generalize y.vk=b1 at *
   generalize y.vn=b2 at *
   generalize mkB y.vs=q1 at *
   generalize mkB y.s=q2 at *
   go_wp2_with fail
   refine HN.out.mono ?_
   rintro e w3 ⟨rfl,hi3,hk3⟩
   have HT3:=Lib.hid (zac (w:=w3) (b:=w3.heap.size) (.cells #[.int .i64 a0,.int .i64 f,.int .i64 t,.int .i64 a1,.int .i64 a2,.string s1,.slice none 0 0,.string s2] 150) rfl)
   have HI3:=Lib.hid (hi3.mono (zak w3 (.cells #[.int .i64 a0,.int .i64 f,.int .i64 t,.int .i64 a1,.int .i64 a2,.string s1,.slice none 0 0,.string s2] 150)))
   have HG3:=Lib.hid ((HGM.out.on HPW.out hk3).on HPW.out (zaw (zak w3 (.cells #[.int .i64 a0,.int .i64 f,.int .i64 t,.int .i64 a1,.int .i64 a2,.string s1,.slice none 0 0,.string s2] 150))))
   have HTP:=Lib.hid (show w3.heap.size≠p by have:=hi3.lt;omega)
   clear hi3 hk3 HN HI HGM
   go_upto_region 3 with fail
   obtain ⟨T,hT⟩:∃T,T=w3.heap.size:=⟨_,rfl⟩
   rw [←hT] at HT3 HTP ⊢
   clear hT
   generalize World.alloc _ _=W3 at *
   obtain ⟨⟨v0,v1,v2,v3,v4,v5,v6,v7⟩,-⟩:=zag HT3.out
   by_cases hE:E=0
   case neg =>
     have HV3:=Lib.hid (HQE.out hE)
     have e0:(E==0)=false:=by rw [beq_eq_false_iff_ne];exact hE
     have e1:(E != 0)=true:=by simp only [bne,e0,Bool.not_false]
     have HE:=Lib.hid hE
     clear hE
     go_wp2
     go_ret2
     exact gs_no HV3.out HE.out ⟨_,HI3.out⟩ HG3.out.kps
   subst hE
   rw [if_pos rfl] at HI3
   have hsq:=HSQ.out
   obtain ⟨k6,hk6⟩:∃k6,k6=(a0==6):=⟨_,rfl⟩
   rw [←hk6] at HQT HQB HQF HQS
   have HK6:=Lib.hid hk6
   obtain ⟨tb,htb⟩:∃tb,tb=(k6&&tr):=⟨_,rfl⟩
   rw [←htb] at HQT HQB HQF HQS
   have HTB:=Lib.hid htb
   clear htb hk6
   go_upto_region 5 with fail
   go_cut [27] from 10 to 59 (fun v wx=>v=.bool tb∧wx=W3)
   case first =>
     clear HQT HQB HQF HQS HN2 HGR HGL HGB
     cases k6
     · have e6:=HK6.out.symm
       obtain rfl:tb=false:=HTB.out
       go_wp2_with fail
       go_meet
       exact ⟨rfl,rfl⟩
     · have e6:=HK6.out.symm
       obtain rfl:tb=tr:=HTB.out
       go_wp2_with fail
       go_meet
       exact ⟨rfl,rfl⟩
   case rest =>
   obtain ⟨rfl,hw⟩:=hcut
   subst hw
   clear hsq HSQ HK6 HTB
   cases tb
   case true =>
     have HV3:=Lib.hid (HQT.out rfl rfl)
     clear HQT HQB HQF HQS HN2 HGR HGL HGB v0 v1 v2 v3 v4 v5 v6 v7
     go_wp2
     go_ret2
     rw [HV3.out]
     exact ⟨_,rfl,HG3.out.fin,⟨_,HI3.out,fun _=>rfl⟩,HG3.out.kps⟩
   have HQB2:=Lib.hid (HQB.out rfl rfl)
   have HQF2:=Lib.hid (HQF.out rfl rfl)
   have HQS2:=Lib.hid (HQS.out rfl rfl)
   clear HQT HQB HQF HQS
   obtain ⟨fb,hfb⟩:∃fb,fb=(decide (gs.length=64)&&wx):=⟨_,rfl⟩
   have HFB:=Lib.hid hfb
   clear hfb
   go_upto_region 7 with fail
   go_cut [35] from 10 to 59 (fun v wx=>v=.bool fb∧Hid (IsRd w0 wx p a cap bs last t)∧Hid (GsM w wx p gs cs (.slice sa gs.length sc))∧Hid (wx.heap[T]?=some (.cells #[.int .i64 a0,.int .i64 f,.int .i64 t,.int .i64 a1,.int .i64 a2,.string s1,.slice none 0 0,.string s2] 150 (0,0))))
   case first =>
     clear HQB2 HQF2 HQS2 HN2 HGR HGL HGB
     by_cases h64:gs.length=64
     · obtain rfl:fb=wx:=by rw [HFB.out,decide_eq_true h64,Bool.true_and]
       have hd64:((gs.length:Int)==64)=true:=by rw [beq_iff_eq];omega
       have hd64n:(gs.length==64)=true:=by rw [beq_iff_eq];exact h64
       clear h64
       go_wp2_with (go_at_call 79;refine (HWX.out _).mono ?_;rintro e w4 ⟨rfl,hb4⟩;have HI4:=Lib.hid (HI3.out.mono hb4);have HG4:=Lib.hid (HG3.out.on HPW.out (zaw hb4));have HT4:=Lib.hid (zab hb4 HT3.out))
       go_meet
       exact ⟨rfl,HI4,HG4,HT4⟩
     · obtain rfl:fb=false:=by rw [HFB.out,decide_eq_false h64,Bool.false_and]
       have hd64:((gs.length:Int)==64)=false:=by rw [beq_eq_false_iff_ne];omega
       have hd64n:(gs.length==64)=false:=by rw [beq_eq_false_iff_ne];exact h64
       go_wp2_with fail
       go_meet
       exact ⟨rfl,HI3,HG3,HT3⟩
   case rest =>
   obtain ⟨rfl,HI4,HG4,HT4⟩:=hcut
   clear HI3 HG3 HT3 v0 v1 v2 v3 v4 v5 v6 v7 HWX
   obtain ⟨⟨v0,v1,v2,v3,v4,v5,v6,v7⟩,-⟩:=zag HT4.out
   cases fb
   case true =>
     have h64:gs.length=64∧wx=true:=by have:=HFB.out;simpa using this.symm
     have HVF:=Lib.hid (HQF2.out h64.2 h64.1)
     clear HQB2 HQS2 HQF2 HGR HGL HGB HFB h64
     go_wp2_with fail
     refine (HN2.out _ HI4.out).mono ?_
     rintro e w5 ⟨rfl,hi5,hk5⟩
     have HI5:=Lib.hid (hi5.mono (zak w5 (.cells #[.int .i64 b0,.int .i64 f2,.int .i64 t2,.int .i64 b1,.int .i64 b2,.string q1,.slice none 0 0,.string q2] 150)))
     have HG5:=Lib.hid ((HG4.out.on HPW.out hk5).on HPW.out (zaw (zak w5 (.cells #[.int .i64 b0,.int .i64 f2,.int .i64 t2,.int .i64 b1,.int .i64 b2,.string q1,.slice none 0 0,.string q2] 150))))
     have HT5:=Lib.hid (zac (w:=w5) (b:=w5.heap.size) (.cells #[.int .i64 b0,.int .i64 f2,.int .i64 t2,.int .i64 b1,.int .i64 b2,.string q1,.slice none 0 0,.string q2] 150) rfl)
     clear hi5 hk5 HN2 HI4 HG4 HT4 v0 v1 v2 v3 v4 v5 v6 v7
     go_upto_region 9 with fail
     generalize w5.heap.size=T5 at *
     generalize World.alloc _ _=W5 at *
     obtain ⟨⟨v0,v1,v2,v3,v4,v5,v6,v7⟩,-⟩:=zag HT5.out
     by_cases hE2:E2=0
     · subst hE2
       rw [if_neg (by decide)] at HVF
       go_wp2
       go_ret2
       exact gs_no HVF.out (by decide) ⟨_,HI5.out⟩ HG5.out.kps
     · have e0:(E2==0)=false:=by rw [beq_eq_false_iff_ne];exact hE2
       have e1:(E2 != 0)=true:=by simp only [bne,e0,Bool.not_false]
       have HE2:=Lib.hid hE2
       rw [if_pos hE2] at HVF
       clear hE2
       go_wp2
       go_ret2
       exact gs_no HVF.out HE2.out ⟨_,HI5.out⟩ HG5.out.kps
   have HGE:=Lib.hid (show gr≠0→R=([],0,gr) from fun h=>by
     by_cases h64:gs.length=64
     · have hwx:wx=false:=by have:=HFB.out;rw [decide_eq_true h64,Bool.true_and] at this;exact this.symm
       rw [HQB2.out hwx,HGB.out hwx]
     · have:=HQS2.out h64
       rw [if_pos h] at this
       exact this)
   have HGO:=Lib.hid (show gr=0→gs.length≠64∧R=zbN bs last m (gs++[⟨gn,ge⟩]) gk from fun h=>by
     by_cases h64:gs.length=64
     · have hwx:wx=false:=by have:=HFB.out;rw [decide_eq_true h64,Bool.true_and] at this;exact this.symm
       have:=HGB.out hwx
       rw [h] at this
       cases this
     · have:=HQS2.out h64
       rw [if_neg (by rw [h];decide)] at this
       exact ⟨h64,this⟩)
   clear HQB2 HQF2 HQS2 HGB HFB HN2
   go_wp2_with fail
   refine (HGR.out _ HI4.out).mono ?_
   rintro e w6 ⟨gv,rfl,hie,⟨at2,hi6,hat⟩,hk6⟩
   have HG6:=Lib.hid (HG4.out.on HPW.out hk6)
   have HVB:=Lib.hid (show ∀b,Value.ownBlock (.slice sa gs.length sc)=some b→b<wc.heap.size from fun b hb=>(HG4.out.own.lt b hb).2)
   have HWW:=Lib.hid (show w.heap.size≤wc.heap.size∧wc.heap.size≤w6.heap.size from ⟨HG4.out.kps.size,hk6.size⟩)
   obtain ⟨va,vc,rfl,-,-⟩:=hie.len
   have HI7:=Lib.hid (hi6.mono (zak w6 (.cells #[.int .i64 gn,.slice va ge.length vc] 42)))
   have HG7:=Lib.hid (HG6.out.on HPW.out (zaw (zak w6 (.cells #[.int .i64 gn,.slice va ge.length vc] 42))))
   have HE7:=Lib.hid (hie.below (zak w6 (.cells #[.int .i64 gn,.slice va ge.length vc] 42)))
   have HZ7:=Lib.hid (zac (w:=w6) (b:=w6.heap.size) (.cells #[.int .i64 gn,.slice va ge.length vc] 42) rfl)
   have HAT:=Lib.hid hat
   have HWS:=Lib.hid (zap w6 (.cells #[.int .i64 gn,.slice va ge.length vc] 42))
   clear hie hi6 hat hk6 HG4 HI4 HT4 HGR HG6 v0 v1 v2 v3 v4 v5 v6 v7
   go_upto_region 14 with fail
   obtain ⟨z,hz⟩:∃z,z=w6.heap.size:=⟨_,rfl⟩
   rw [←hz] at HZ7 HWW HWS ⊢
   clear hz
   generalize w6.alloc _=W7 at *
   obtain ⟨⟨z0,z1⟩,-⟩:=zaV HZ7.out
   by_cases hgr:gr=0
   case neg =>
     have HVF:=Lib.hid (HGE.out hgr)
     have e0:(gr==0)=false:=by rw [beq_eq_false_iff_ne];exact hgr
     have e1:(gr != 0)=true:=by simp only [bne,e0,Bool.not_false]
     have HE2:=Lib.hid hgr
     clear hgr
     go_wp2
     go_ret2
     exact gs_no HVF.out HE2.out ⟨_,HI7.out⟩ HG7.out.kps
   subst hgr
   obtain ⟨h64,hRQ⟩:=HGO.out rfl
   have hL:gs.length≤63:=by omega
   have HRQ:=Lib.hid hRQ
   have hone:∀u∈[Value.int .i64 gn,.slice va ge.length vc],u.oneCell'=true:=by
     intro u hu
     simp at hu
     rcases hu with rfl|rfl<;>rfl
   have HONE:=Lib.hid hone
   have HKK:=Lib.hid HGL.out
   clear hone h64 hRQ HGO HGE HGL
   go_wp2_with (at_builtin;go_loud (refine zdW EGrp rfl (.tmp 56) (.tmp 58) rfl w.heap.size _ gs.length _ rfl (HG7.out.own.alloc _) _ 1 _ rfl (zgE _ #[.int .i64 gn,.slice va ge.length vc] _ 2 rfl rfl) HONE.out (by unfold maxLen;omega) (by omega) (by rw [zap];have:=HG7.out.kps.size;omega) ?_);intro v' w8 hO8 hg8 hn8;obtain ⟨ua,uc,rfl,-,-⟩:=zaD hO8;have HG8:=Lib.hid (HG7.out.app hg8 HE7.out HWW.out.1 HVB.out (by have:=HWW.out.2;have:=HWS.out;omega) hO8 hn8);have HI8:=Lib.hid ((HI7.out.mono (zak _ _)).grown hg8 (fun b hb=>⟨fun e=>by have:=(HG7.out.own.lt b hb).1;have:=HPW.out;omega,Nat.le_trans HR.out.bel.size (HG7.out.own.lt b hb).1⟩));clear hO8 hg8 hn8)
   go_roundw
   case rel=>exact ⟨gs++[⟨gn,ge⟩],gk,_,by rw [List.length_append];simp;omega,HKK.out.1,HKK.out.2,by rw [←HAT.out rfl];exact HI8,HG8,Lib.hid (by rw [HRQ.out,List.length_append,show 65-(gs.length+[(⟨gn,ge⟩:Grp)].length)=m by have:=HM.out;simp;omega])⟩
   case measure=>simp [lenV];omega
end
theorem skN_pc {bs:List UInt8} {j:Nat} (h:j<bs.length) (hc:bs.getD j 0=37):skN bs false j=skN bs true j:=by
 rw [zeO (b':=true) h (by rw [hc];simp [zbb]),zeO (b:=true) (b':=true) h (by rw [hc];simp [zbb])]
theorem skN_nl {bs:List UInt8} {j:Nat} (h:j<bs.length) (hc:bs.getD j 0=10∨bs.getD j 0=13):skN bs true j=skN bs false j:=by
 have hl:∀l,zbb true (bs.getD j 0::l)=1+zbb false l:=fun l=>by
   rcases hc with hc|hc<;>(rw [hc];simp [zbb])
 have h2:∀l,zbb false (bs.getD j 0::l)=1+zbb false l:=fun l=>by
   rcases hc with hc|hc<;>(rw [hc];simp [zbb,isSp])
 rw [zeO (b':=false) h (hl _),zeO (b:=false) (b':=false) h (h2 _)]
theorem skN_on {bs:List UInt8} {j:Nat} (h:j<bs.length) (h1:bs.getD j 0≠10) (h2:bs.getD j 0≠13):skN bs true j=skN bs true (j+1) :=
 zeO h (by rw [zbb,show (bs.getD j 0 != 10&&bs.getD j 0 != 13)=true by rw [Bool.and_eq_true,bne_iff_ne,bne_iff_ne];exact ⟨h1,h2⟩])
theorem rskip_any {w:World} {a:Option Addr} {cap:Nat} {bs:List UInt8} (hr:Row w 1 a bs.length cap (bs.map u8C)) (hn:bs.length≤400000) (k:Int) :
   Calls Tryz.prog 121 #[.slice a bs.length cap,.int .i64 k] w fun e w'=>e=.returned (.int .i64 (zaC bs k:Nat))∧w=w':=by
 obtain ⟨V,hV⟩:∃V,V=zaC bs k:=⟨_,rfl⟩
 rw [←hV]
 by_cases hk:k<0
 · have HV:=Lib.hid (show V=0 by rw [hV];unfold zaC;rw [if_pos hk])
   have hkd:decide (k<0)=true:=decide_eq_true hk
   clear hV hr
   go_enter Tryz.func121,Tryz.ntmps121
   go_wp2
   go_ret
   exact ⟨by rw [HV.out];rfl,rfl⟩
 · have hv:=hV.trans (skipV_skN (by omega))
   obtain ⟨j0,hj0⟩:∃j:Nat,k=j:=⟨k.toNat,by omega⟩
   subst hj0
   rw [Int.toNat_natCast] at hv
   have HV:=Lib.hid hv
   have hkd:decide ((j0:Int)<0)=false:=decide_eq_false (by omega)
   have HC:=Lib.hid (fun j (hj:j<bs.length)=>hr.at 0 j hj)
   clear hV hr hv hk
   go_enter Tryz.func121,Tryz.ntmps121
   go_wp2
   go_loop [1] (fun i=>∃j:Nat,i=.int .i64 j∧Hid (V=skN bs false j))
     (fun i=>bs.length-(intOf i).toNat)
   case atStart=>exact ⟨j0,rfl,HV⟩
   case round =>
     obtain ⟨j,rfl,HJ⟩:=hrel
     by_cases hj:j<bs.length
     · obtain ⟨b0,off,ha,-,hc⟩:=HC.out j hj
       have hcj:=hc j hj
       have HCC:=Lib.hid hc
       unfold u8C at hcj
       have hji:decide ((j:Int)<bs.length)=true:=by simp;exact hj
       have hjd:decide (j<bs.length)=true:=decide_eq_true hj
       have hjm:j≤399999:=by omega
       have HSP:=Lib.hid (fun W=>zd3 (bs.getD j 0).toNat W)
       rw [←zeJ] at HSP
       have HG:=Lib.hid (fun b b'=>@zeO bs b b' j hj)
       have HST:=Lib.hid (fun h1 h2=>@skN_stop bs j hj h1 h2)
       have HPC:=Lib.hid (fun h=>@skN_pc bs j hj h)
       have HM:=Lib.hid (show bs.length-(j+1)<bs.length-j by omega)
       have HN:=Lib.hid hn
       have HJJ:=Lib.hid hj
       obtain ⟨c,hcc⟩:∃c,bs.getD j 0=c:=⟨_,rfl⟩
       rw [hcc] at hcj HSP HG HST HPC
       have HCJ:=Lib.hid hcc
       subst ha
       clear hc HC hn hkd hcc
       obtain ⟨sp,hsp⟩:∃sp,isSp c=sp:=⟨_,rfl⟩
       rw [hsp] at HSP
       have HS:=Lib.hid hsp
       clear hsp
       cases sp
       · by_cases h37:c=37
         · have hx:c.toNat=37:=by rw [h37];rfl
           have HV2:=Lib.hid (HJ.out.trans (HPC.out h37))
           rw [hx] at hcj HSP
           have H37:=Lib.hid h37
           clear hx h37
           go_wp2_with (go_at_call 85;refine (HSP.out _).mono ?_;rintro e w' ⟨rfl,rfl⟩)
           clear hcj hj hji hjd hjm
           go_loop [1] (fun i=>∃m:Nat,i=.int .i64 m∧Hid (j≤m)∧Hid (V=skN bs true m))
             (fun i=>bs.length-(intOf i).toNat)
           case atStart=>exact ⟨j,rfl,Lib.hid (Nat.le_refl _),HV2⟩
           case round =>
             obtain ⟨m,rfl,HJM,HMM⟩:=hrel
             by_cases hm:m<bs.length
             · have hcm:=HCC.out m hm
               unfold u8C at hcm
               have hmi:decide ((m:Int)<bs.length)=true:=by simp;exact hm
               have hmd:decide (m<bs.length)=true:=decide_eq_true hm
               have hmm:m≤399999:=by have:=HN.out;omega
               have HME:=Lib.hid (show bs.length-(m+1)<bs.length-m by omega)
               by_cases hnl:bs.getD m 0=10∨bs.getD m 0=13
               · have HV3:=Lib.hid (HMM.out.trans (skN_nl hm hnl))
                 have HJM2:=Lib.hid (show bs.length-m<bs.length-j by
                   have h1:=HJM.out
                   have h2:=HJJ.out
                   have h3:m≠j:=fun e=>by
                     rw [e,HCJ.out,H37.out] at hnl
                     rcases hnl with h|h<;>exact absurd h (by decide)
                   omega)
                 obtain ⟨x,hx⟩:∃x,(bs.getD m 0).toNat=x:=⟨_,rfl⟩
                 rw [hx] at hcm
                 have hxx:x=10∨x=13:=by rw [←hx];rcases hnl with h|h<;>(rw [h];decide)
                 clear hx hnl
                 rcases hxx with rfl|rfl
                 all_goals
                   go_wp2
                   go_round
                   case rel=>exact ⟨m,rfl,HV3⟩
                   case measure=>simpa [intOf] using HJM2.out
               · have HV3:=Lib.hid (HMM.out.trans (skN_on hm (fun e=>hnl (.inl e)) (fun e=>hnl (.inr e))))
                 have HJM2:=Lib.hid (show j≤m+1 from Nat.le_succ_of_le HJM.out)
                 have e1:(((bs.getD m 0).toNat:Int)==10)=false:=by rw [beq_eq_false_iff_ne];exact fun e=>hnl (.inl (UInt8.toNat_inj.1 (Int.ofNat_inj.1 e)))
                 have e2:(((bs.getD m 0).toNat:Int)==13)=false:=by rw [beq_eq_false_iff_ne];exact fun e=>hnl (.inr (UInt8.toNat_inj.1 (Int.ofNat_inj.1 e)))
                 generalize (bs.getD m 0).toNat=x at *
                 have e3:((x:Int) != 10)=true:=by simp only [bne,e1,Bool.not_false]
                 have e4:((x:Int) != 13)=true:=by simp only [bne,e2,Bool.not_false]
                 clear hnl
                 go_wp2
                 go_round
                 case rel=>exact ⟨m+1,by go_num,HJM2,HV3⟩
                 case measure=>simpa [intOf] using HME.out
             · have hmi:decide ((m:Int)<bs.length)=false:=decide_eq_false (by omega)
               have hmd:decide (m<bs.length)=false:=decide_eq_false hm
               have HV3:=Lib.hid (HMM.out.trans ((zgn (b:=true) (by omega)).trans (zgn (b:=false) (Nat.le_of_not_lt hm)).symm))
               have HJM2:=Lib.hid (show bs.length-m<bs.length-j by have:=HJJ.out;omega)
               clear hm
               go_wp2
               go_round
               case rel=>exact ⟨m,rfl,HV3⟩
               case measure=>simpa [intOf] using HJM2.out
         · have hx:((c.toNat:Int)==37)=false:=by rw [beq_eq_false_iff_ne];exact fun e=>h37 (UInt8.toNat_inj.1 (Int.ofNat_inj.1 e))
           have hx2:((c.toNat:Int) != 37)=true:=by simp only [bne,hx,Bool.not_false]
           have HV2:=Lib.hid (HJ.out.trans (HST.out h37 HS.out))
           clear h37
           generalize c.toNat=x at *
           go_wp2_with (go_at_call 85;refine (HSP.out _).mono ?_;rintro e w' ⟨rfl,rfl⟩)
           go_ret
           exact ⟨by rw [HV2.out];rfl,rfl⟩
       · have h37:c≠37:=fun e=>by have:=HS.out;rw [e] at this;exact absurd this (by decide)
         have HV2:=Lib.hid (HJ.out.trans (HG.out false false (by rw [zbb,if_neg h37,if_pos HS.out])))
         clear h37
         generalize c.toNat=x at *
         go_wp2_with (go_at_call 85;refine (HSP.out _).mono ?_;rintro e w' ⟨rfl,rfl⟩)
         go_round
         case rel=>exact ⟨j+1,by go_num,HV2⟩
         case measure=>simpa [intOf] using HM.out
     · have hji:decide ((j:Int)<bs.length)=false:=decide_eq_false (by omega)
       have HV2:=Lib.hid (HJ.out.trans (zgn (by omega)))
       have hjd:decide (j<bs.length)=false:=decide_eq_false hj
       clear hj HC
       go_wp2
       go_ret
       exact ⟨by rw [HV2.out];rfl,rfl⟩
theorem zay {fn:Func} {t u v x:Tmp} (h:fn.results=#[.tmp t,.tmp u,.tmp v,.tmp x]) (tmps:Array Value) (P:Program) (w:World) :
   (results fn tmps).run P w=.ok (.tuple #[tmps.getD t undef,tmps.getD u undef,tmps.getD v undef,tmps.getD x undef]) w:=by
 simp [results,h]
def escR (last:Bool) (k:Nat):Option (List UInt8×Nat)→Value
 | none=>.tuple #[.int .u8 0,.int .i64 0,.bool false,.int .i64 (zaX last)]
 | some ([],m)=>.tuple #[.int .u8 0,.int .i64 ((k+m:Nat):Int),.bool false,.int .i64 0]
 | some (c::_,m)=>.tuple #[.int .u8 c.toNat,.int .i64 ((k+m:Nat):Int),.bool true,.int .i64 0]
def zc2 (last:Bool) (k:Nat) (V:Option (List UInt8×Nat)) (w:World) (e:Ending) (w':World):Prop:=e=.returned (escR last k V)∧w=w'
theorem zdd {last:Bool} {k:Nat} {V:Option (List UInt8×Nat)} {N j:Nat} {n:Int} (hV:V=some ([UInt8.ofNat N],j)) (hn:n=((k+j:Nat):Int)) (w:World) :
   zc2 last k V w (.returned (.tuple #[.int .u8 ((N:Int) % 256),.int .i64 n,.bool true,.int .i64 0])) w:=by
 subst hV;subst hn
 refine ⟨?_,rfl⟩
 rw [show (N:Int) % 256=((UInt8.ofNat N).toNat:Int) by rw [UInt8.toNat_ofNat'];omega];rfl
theorem ze7 {last:Bool} {k:Nat} {V:Option (List UInt8×Nat)} {er:Int} (hV:V=none) (he:zaX last=er) (w:World) :
   zc2 last k V w (.returned (.tuple #[.int .u8 0,.int .i64 0,.bool false,.int .i64 er])) w:=by
 subst hV;subst he;exact ⟨rfl,rfl⟩
theorem zdw {last:Bool} {k:Nat} {V:Option (List UInt8×Nat)} {j:Nat} {n:Int} (hV:V=some ([],j)) (hn:n=((k+j:Nat):Int)) (w:World) :
   zc2 last k V w (.returned (.tuple #[.int .u8 0,.int .i64 n,.bool false,.int .i64 0])) w:=by
 subst hV;subst hn;exact ⟨rfl,rfl⟩
theorem zcp {last:Bool} {k:Nat} {V:Option (List UInt8×Nat)} {c:UInt8} {x n:Int} (hV:V=some ([c],1)) (hx:x=c.toNat) (hn:n=((k+1:Nat):Int)) (w:World) :
   zc2 last k V w (.returned (.tuple #[.int .u8 x,.int .i64 n,.bool true,.int .i64 0])) w:=by
 subst hV;subst hx;subst hn;exact ⟨rfl,rfl⟩
theorem zar {c d:UInt8} (h:c≠d) (n:Int) (hn:n=(d.toNat:Int)):((c.toNat:Int)==n)=false:=by
 rw [beq_eq_false_iff_ne];subst hn;exact fun e=>h (UInt8.toNat_inj.1 (Int.ofNat_inj.1 e))
theorem zbV {w:World} {b off cap:Nat} {n:Nat} (k:Nat) (last:Bool) (hk:k<n) (hn:n≤400000) (x y:UInt8) (V:Option (List UInt8×Nat))
   (hc:w.cell? ⟨b,off+k,none⟩=some (.int .u8 x.toNat)) (hV:V=some ([y],1))
   (hx:(x=110∧y=10)∨(x=114∧y=13)∨(x=116∧y=9)∨(x=98∧y=8)∨(x=102∧y=12)) :
   Calls Tryz.prog 164 #[.slice (some ⟨b,off,none⟩) n cap,.int .i64 k,.bool last] w (zc2 last k V w):=by
 have HV:=Lib.hid hV
 have hkd:decide ((n:Int)≤k)=false:=decide_eq_false (by omega)
 have hkn:decide (n≤k)=false:=decide_eq_false (by omega)
 have hki:(k:Int)<n:=by omega
 clear hV
 rcases hx with ⟨rfl,rfl⟩|⟨rfl,rfl⟩|⟨rfl,rfl⟩|⟨rfl,rfl⟩|⟨rfl,rfl⟩
 · rw [show ((110:UInt8).toNat:Int)=110 from rfl] at hc
   go_enter Tryz.func164,Tryz.ntmps164
   go_wp2
   (try simp only [Exit.inBlock,Exit.then]);refine bodyPost_ret (zay rfl _ _ _) rfl ?_
   exact zcp HV.out rfl rfl _
 · rw [show ((114:UInt8).toNat:Int)=114 from rfl] at hc
   go_enter Tryz.func164,Tryz.ntmps164
   go_wp2
   (try simp only [Exit.inBlock,Exit.then]);refine bodyPost_ret (zay rfl _ _ _) rfl ?_
   exact zcp HV.out rfl rfl _
 · rw [show ((116:UInt8).toNat:Int)=116 from rfl] at hc
   go_enter Tryz.func164,Tryz.ntmps164
   go_wp2
   (try simp only [Exit.inBlock,Exit.then]);refine bodyPost_ret (zay rfl _ _ _) rfl ?_
   exact zcp HV.out rfl rfl _
 · rw [show ((98:UInt8).toNat:Int)=98 from rfl] at hc
   go_enter Tryz.func164,Tryz.ntmps164
   go_wp2
   (try simp only [Exit.inBlock,Exit.then]);refine bodyPost_ret (zay rfl _ _ _) rfl ?_
   exact zcp HV.out rfl rfl _
 · rw [show ((102:UInt8).toNat:Int)=102 from rfl] at hc
   go_enter Tryz.func164,Tryz.ntmps164
   go_wp2
   (try simp only [Exit.inBlock,Exit.then]);refine bodyPost_ret (zay rfl _ _ _) rfl ?_
   exact zcp HV.out rfl rfl _
theorem rescape_any {w:World} {a:Option Addr} {cap:Nat} {bs:List UInt8} (hr:Row w 1 a bs.length cap (bs.map u8C)) (hn:bs.length≤400000) (k:Nat) (last:Bool) :
   Calls Tryz.prog 164 #[.slice a bs.length cap,.int .i64 k,.bool last] w (zc2 last k (escV last (bs.drop k)) w):=by
 obtain ⟨V,hV⟩:∃V,V=escV last (bs.drop k):=⟨_,rfl⟩
 rw [←hV]
 by_cases hk:k<bs.length
 case neg =>
   rw [za3 hk] at hV
   have HV:=Lib.hid (show V=none from hV)
   have hkd:decide ((bs.length:Int)≤k)=true:=decide_eq_true (by omega)
   have hkn:decide (bs.length≤k)=true:=decide_eq_true (by omega)
   clear hV hr hk
   go_enter Tryz.func164,Tryz.ntmps164
   go_wp2_with (go_at_call 163;refine (zgy _ _).mono ?_;rintro e w' ⟨rfl,rfl⟩)
   (try simp only [Exit.inBlock,Exit.then]);refine bodyPost_ret (zay rfl _ _ _) rfl ?_
   exact ze7 HV.out rfl _
 obtain ⟨b,off,rfl,-,hc⟩:=hr.at 0 k hk
 unfold u8C at hc
 have hck:=hc k hk
 rw [zat hk] at hV
 obtain ⟨c,hcc⟩:∃c,bs.getD k 0=c:=⟨_,rfl⟩
 rw [hcc] at hck hV
 by_cases hl:c=110∨c=114∨c=116∨c=98∨c=102
 · rcases hl with rfl|rfl|rfl|rfl|rfl
   · exact zbV k last hk hn 110 10 V hck (hV.trans rfl) (by simp)
   · exact zbV k last hk hn 114 13 V hck (hV.trans rfl) (by simp)
   · exact zbV k last hk hn 116 9 V hck (hV.trans rfl) (by simp)
   · exact zbV k last hk hn 98 8 V hck (hV.trans rfl) (by simp)
   · exact zbV k last hk hn 102 12 V hck (hV.trans rfl) (by simp)
 have n1:c≠110:=fun e=>hl (by simp [e])
 have n2:c≠114:=fun e=>hl (by simp [e])
 have n3:c≠116:=fun e=>hl (by simp [e])
 have n4:c≠98:=fun e=>hl (by simp [e])
 have n5:c≠102:=fun e=>hl (by simp [e])
 rw [zer _ _ _ n1 n2 n3 n4 n5] at hV
 have e1:=zar n1 110 rfl
 have e2:=zar n2 114 rfl
 have e3:=zar n3 116 rfl
 have e4:=zar n4 98 rfl
 have e5:=zar n5 102 rfl
 have hkd:decide ((bs.length:Int)≤k)=false:=decide_eq_false (by omega)
 have hkn:decide (bs.length≤k)=false:=decide_eq_false (by omega)
 have hki:(k:Int)<bs.length:=by omega
 have hk1:k≤399999:=by omega
 have hk2:(k:Int)≤399999:=by omega
 clear hl n1 n2 n3 n4 n5 hr
 by_cases hoc:isOc c=true
 · rw [if_pos hoc,octV_go,Option.map_map] at hV
   have hoc2:=zbM.1 hoc
   have e6:((c.toNat:Int)==10)=false:=by rw [beq_eq_false_iff_ne];omega
   have e7:((c.toNat:Int)==13)=false:=by rw [beq_eq_false_iff_ne];omega
   have d1:decide ((c.toNat:Int)<48)=false:=decide_eq_false (by omega)
   have d2:decide ((55:Int)<c.toNat)=false:=decide_eq_false (by omega)
   have HG:=Lib.hid (show V=(zcd last 3 0 (bs.drop (k+0))).map fun x=>([UInt8.ofNat x.1],0+x.2) by
     rw [hV,show bs.drop (k+0)=c::bs.drop (k+1) by rw [Nat.add_zero,zat hk,hcc],zcd,if_pos hoc,Option.map_map]
     congr 1
     · funext x;simp [Function.comp]
     · rw [show 8 * 0+(c.toNat-48)=c.toNat-48 from by omega])
   have HC:=Lib.hid hc
   clear hV hoc hoc2 hcc hc
   generalize c.toNat=x at *
   go_enter Tryz.func164,Tryz.ntmps164
   go_wp2
   clear hck e1 e2 e3 e4 e5 e6 e7 d1 d2 hkd
   go_loop [11,12] (fun n i=>∃(j N:Nat),j≤3∧n=.int .i64 N∧i=.int .i64 j∧N+1≤8 ^ j∧Hid (V=(zcd last (3-j) N (bs.drop (k+j))).map fun x=>([UInt8.ofNat x.1],j+x.2))) (fun _ i=>3-(intOf i).toNat)
   case atStart=>exact ⟨0,0,by omega,by go_num,by go_num,by omega,HG⟩
   case round =>
     obtain ⟨j,N,hj,rfl,rfl,hN,HJ⟩:=hrel
     have hN5:N≤511:=by
       have:j=0∨j=1∨j=2∨j=3:=by omega
       rcases this with rfl|rfl|rfl|rfl<;>omega
     by_cases hj3:j<3
     · have hjd:decide ((j:Int)<3)=true:=decide_eq_true (by omega)
       obtain ⟨m,hm⟩:∃m,3-j=m+1:=⟨2-j,by omega⟩
       have hg:=HJ.out
       rw [hm] at hg
       by_cases hin:k+j<bs.length
       · have hcj:=HC.out (k+j) hin
         rw [zat hin,zcd] at hg
         have hid1:decide ((k:Int)+j<bs.length)=true:=decide_eq_true (by omega)
         have hii:(k:Int)+j<bs.length:=by omega
         have hge:decide ((bs.length:Int)≤(k:Int)+j)=false:=decide_eq_false (by omega)
         by_cases hd:isOc (bs.getD (k+j) 0)=true
         · have hd2:=zbM.1 hd
           rw [if_pos hd,Option.map_map] at hg
           have d1:decide ((48:Int)≤(bs.getD (k+j) 0).toNat)=true:=decide_eq_true (by omega)
           have d2:decide (((bs.getD (k+j) 0).toNat:Int)≤55)=true:=decide_eq_true (by omega)
           have HG2:=Lib.hid (show V=(zcd last (3-(j+1)) (8 * N+((bs.getD (k+j) 0).toNat-48)) (bs.drop (k+(j+1)))).map fun x=>([UInt8.ofNat x.1],(j+1)+x.2) by
             rw [hg,show 3-(j+1)=m from by omega]
             congr 1
             funext x
             simp only [Function.comp]
             rw [show j+(x.2+1)=j+1+x.2 from by omega])
           have HB:=Lib.hid (show 8 * N+((bs.getD (k+j) 0).toNat-48)+1≤8 ^ (j+1) by rw [Nat.pow_succ];omega)
           have HE:=Lib.hid (show 8 * (N:Int)+((bs.getD (k+j) 0).toNat:Int)-48=((8 * N+((bs.getD (k+j) 0).toNat-48):Nat):Int) by omega)
           have HJ3:=Lib.hid hj3
           clear hg hm hd HJ
           generalize (bs.getD (k+j) 0).toNat=y at *
           go_wp2
           go_round
           case rel=>exact ⟨j+1,8 * N+(y-48),HJ3.out,by rw [←HE.out],by go_num,HB.out,HG2⟩
           case measure=>have:=HJ3.out;simp [intOf];omega
         · rw [if_neg hd,Option.map_some] at hg
           have HG2:=Lib.hid (show V=some ([UInt8.ofNat N],j) from hg)
           have hd2:¬(48≤(bs.getD (k+j) 0).toNat∧(bs.getD (k+j) 0).toNat≤55):=fun e=>hd (zbM.2 e)
           clear hg hm hd HJ
           generalize (bs.getD (k+j) 0).toNat=y at *
           by_cases hy:(48:Int)≤y
           · have d1:decide ((48:Int)≤y)=true:=decide_eq_true hy
             have d2:decide ((y:Int)≤55)=false:=decide_eq_false (by omega)
             clear hd2
             go_wp2
             (try simp only [Exit.inBlock,Exit.then]);refine bodyPost_ret (zay rfl _ _ _) rfl ?_
             exact zdd HG2.out rfl _
           · have d1:decide ((48:Int)≤y)=false:=decide_eq_false hy
             clear hd2 hy
             go_wp2
             (try simp only [Exit.inBlock,Exit.then]);refine bodyPost_ret (zay rfl _ _ _) rfl ?_
             exact zdd HG2.out rfl _
       · rw [za3 hin,zcd] at hg
         have hid1:decide ((k:Int)+j<bs.length)=false:=decide_eq_false (by omega)
         have hge:decide ((bs.length:Int)≤(k:Int)+j)=true:=decide_eq_true (by omega)
         have HG2:=Lib.hid hg
         clear hg hm HJ hin
         cases last
         · go_wp2
           (try simp only [Exit.inBlock,Exit.then]);refine bodyPost_ret (zay rfl _ _ _) rfl ?_
           exact ze7 HG2.out rfl _
         · go_wp2
           (try simp only [Exit.inBlock,Exit.then]);refine bodyPost_ret (zay rfl _ _ _) rfl ?_
           exact zdd HG2.out rfl _
     · obtain rfl:j=3:=by omega
       have hg:=HJ.out
       rw [Nat.sub_self,zcd,Option.map_some] at hg
       have HG2:=Lib.hid (show V=some ([UInt8.ofNat N],3) from hg)
       clear hg HJ
       go_wp2
       (try simp only [Exit.inBlock,Exit.then]);refine bodyPost_ret (zay rfl _ _ _) rfl ?_
       exact zdd HG2.out rfl _
 · rw [if_neg hoc] at hV
   by_cases h10:c=10
   · subst h10
     have HV:=Lib.hid (show V=some ([],1) from hV)
     clear hV hc hcc hoc
     go_enter Tryz.func164,Tryz.ntmps164
     go_wp2
     (try simp only [Exit.inBlock,Exit.then]);refine bodyPost_ret (zay rfl _ _ _) rfl ?_
     exact zdw HV.out rfl _
   · rw [if_neg h10] at hV
     have e6:=zar h10 10 rfl
     by_cases h13:c=13
     · subst h13
       rw [if_pos rfl] at hV
       by_cases hk3:k+1<bs.length
       · rw [zat hk3] at hV
         have hc1:=hc (k+1) hk3
         have hid1:decide ((bs.length:Int)≤(k:Int)+1)=false:=decide_eq_false (by omega)
         have hid2:decide ((k:Int)+1<bs.length)=true:=decide_eq_true (by omega)
         have hii:(k:Int)+1<bs.length:=by omega
         clear hc hcc hoc h10
         by_cases hd:bs.getD (k+1) 0=10
         · have HV:=Lib.hid (show V=some ([],2) by rw [hV,hd];rfl)
           rw [hd] at hc1
           rw [show ((10:UInt8).toNat:Int)=10 from rfl] at hc1
           clear hV hd
           go_enter Tryz.func164,Tryz.ntmps164
           go_wp2
           (try simp only [Exit.inBlock,Exit.then]);refine bodyPost_ret (zay rfl _ _ _) rfl ?_
           exact zdw HV.out rfl _
         · have HV:=Lib.hid (show V=some ([],1) by rw [hV];show (some (if bs.getD (k+1) 0=10 then 1 else 0)).map _=_;rw [if_neg hd];rfl)
           have e8:=zar hd 10 rfl
           clear hV hd
           generalize (bs.getD (k+1) 0).toNat=y at *
           go_enter Tryz.func164,Tryz.ntmps164
           go_wp2
           (try simp only [Exit.inBlock,Exit.then]);refine bodyPost_ret (zay rfl _ _ _) rfl ?_
           exact zdw HV.out rfl _
       · rw [za3 hk3] at hV
         have hid1:decide ((bs.length:Int)≤(k:Int)+1)=true:=decide_eq_true (by omega)
         have hid2:decide ((k:Int)+1<bs.length)=false:=decide_eq_false (by omega)
         have HV:=Lib.hid hV
         clear hV hc hcc hoc h10 hk3
         cases last
         · go_enter Tryz.func164,Tryz.ntmps164
           go_wp2
           (try simp only [Exit.inBlock,Exit.then]);refine bodyPost_ret (zay rfl _ _ _) rfl ?_
           exact ze7 HV.out rfl _
         · go_enter Tryz.func164,Tryz.ntmps164
           go_wp2
           (try simp only [Exit.inBlock,Exit.then]);refine bodyPost_ret (zay rfl _ _ _) rfl ?_
           exact zdw HV.out rfl _
     · rw [if_neg h13] at hV
       have e7:=zar h13 13 rfl
       have HV:=Lib.hid hV
       have hd2:¬(48≤c.toNat∧c.toNat≤55):=fun e=>hoc (zbM.2 e)
       clear hV hoc h10 h13 hcc hc
       by_cases hy:(c.toNat:Int)<48
       · have d1:decide ((c.toNat:Int)<48)=true:=decide_eq_true hy
         clear hd2 hy
         obtain ⟨x,hx⟩:∃x,x=c.toNat:=⟨_,rfl⟩
         rw [←hx] at hck e1 e2 e3 e4 e5 e6 e7 d1
         have HX:=Lib.hid hx
         clear hx
         go_enter Tryz.func164,Tryz.ntmps164
         go_wp2
         (try simp only [Exit.inBlock,Exit.then]);refine bodyPost_ret (zay rfl _ _ _) rfl ?_
         exact zcp HV.out (by rw [HX.out]) rfl _
       · have d1:decide ((c.toNat:Int)<48)=false:=decide_eq_false hy
         have d2:decide ((55:Int)<c.toNat)=true:=decide_eq_true (by omega)
         clear hd2 hy
         obtain ⟨x,hx⟩:∃x,x=c.toNat:=⟨_,rfl⟩
         rw [←hx] at hck e1 e2 e3 e4 e5 e6 e7 d1 d2
         have HX:=Lib.hid hx
         clear hx
         go_enter Tryz.func164,Tryz.ntmps164
         go_wp2
         (try simp only [Exit.inBlock,Exit.then]);refine bodyPost_ret (zay rfl _ _ _) rfl ?_
         exact zcp HV.out (by rw [HX.out]) rfl _
theorem octV_bd {last:Bool} {c:UInt8} {t:List UInt8} {x:Nat×Nat} (h:octV last c t=some x):1≤x.2∧x.2≤t.length+1:=by
 rcases t with _|⟨d,_|⟨e,t⟩⟩
 · cases last<;>simp [octV] at h
   subst h;simp
 · by_cases hd:isOc d=true
   · cases last<;>simp [octV,hd] at h
     subst h;simp
   · simp [octV,hd] at h
     subst h;simp
 · by_cases hd:isOc d=true
   · by_cases he:isOc e=true
     · simp [octV,hd,he] at h
       subst h;simp
     · simp [octV,hd,he] at h
       subst h;simp
   · simp [octV,hd] at h
     subst h;simp
theorem escV_bd {last:Bool} {t:List UInt8} {x:List UInt8} {m:Nat} (h:escV last t=some (x,m)):x.length≤1∧1≤m∧m≤t.length:=by
 cases t with
 | nil=>simp [escV] at h
 | cons c t =>
   unfold escV at h
   simp only [List.length_cons] at h ⊢
   by_cases h1:c=110
   · rw [if_pos h1] at h;cases h;simp
   rw [if_neg h1] at h
   by_cases h2:c=114
   · rw [if_pos h2] at h;cases h;simp
   rw [if_neg h2] at h
   by_cases h3:c=116
   · rw [if_pos h3] at h;cases h;simp
   rw [if_neg h3] at h
   by_cases h4:c=98
   · rw [if_pos h4] at h;cases h;simp
   rw [if_neg h4] at h
   by_cases h5:c=102
   · rw [if_pos h5] at h;cases h;simp
   rw [if_neg h5] at h
   by_cases h6:isOc c=true
   · rw [if_pos h6] at h
     obtain ⟨y,hy,hx⟩:=Option.map_eq_some_iff.1 h
     cases hx
     obtain ⟨g1,g2⟩:=octV_bd hy
     exact ⟨by simp,g1,g2⟩
   rw [if_neg h6] at h
   by_cases h7:c=10
   · rw [if_pos h7] at h;cases h;simp
   rw [if_neg h7] at h
   by_cases h8:c=13
   · rw [if_pos h8] at h
     obtain ⟨y,hy,hx⟩:=Option.map_eq_some_iff.1 h
     cases hx
     refine ⟨by simp,by omega,?_⟩
     cases t with
     | nil=>cases last<;>simp [zdF] at hy;subst hy;simp
     | cons d t=>simp only [zdF,Option.some.injEq] at hy;subst hy;simp only [List.length_cons];split<;>omega
   rw [if_neg h8] at h
   cases h;simp
def zf8 (bs:List UInt8) (last:Bool) (V:Option (List UInt8×List UInt8)) (w:World) (e:Ending) (w':World):Prop :=
 Below w.heap.size w w'∧match V with
 | none=>e=.returned (.tuple #[.slice none 0 0,.int .i64 0,.int .i64 (zaX last)])
 | some (x,r)=>∃v,e=.returned (.tuple #[v,.int .i64 ((bs.length-r.length:Nat):Int),.int .i64 0])∧w'.ownsRow w.heap.size 5 1 v x.length (x.map u8C)∧r.length≤bs.length
theorem zeS {bs:List UInt8} {last:Bool} {V:Option (List UInt8×List UInt8)} {w w':World} {er:Int} (hV:V=none) (he:zaX last=er) (hb:Below w.heap.size w w'):zf8 bs last V w (.returned (.tuple #[.slice none 0 0,.int .i64 0,.int .i64 er])) w':=by
 subst hV;subst he;exact ⟨hb,rfl⟩
theorem txtR_some {bs:List UInt8} {last:Bool} {V:Option (List UInt8×List UInt8)} {w w':World} {v:Value} {o:List UInt8} {j:Nat} {n:Int} (hV:V=some (o,bs.drop j)) (hj:j≤bs.length) (hn:n=(j:Int)) (hO:w'.ownsRow w.heap.size 5 1 v o.length (o.map u8C)) (hb:Below w.heap.size w w') :
   zf8 bs last V w (.returned (.tuple #[v,.int .i64 n,.int .i64 0])) w':=by
 subst hV;subst hn
 refine ⟨hb,v,?_,hO,by simp⟩
 rw [List.length_drop,show bs.length-(bs.length-j)=j from by omega]
theorem zbS {B:Nat} {w wr w5:World} {v v':Value} {o:List UInt8} (c:UInt8) (O:Obj) (hB:Below B w wr) (hBw:B≤wr.heap.size) (hO:wr.ownsRow B 5 1 v o.length (o.map u8C)) {x:Value} (hx:x=u8C c) (hO5:w5.ownsRow B 5 1 v' (o.length+1) (o.map u8C++[x])) (hg5:(wr.alloc O).grownBy w5 v.ownBlock) :
   w5.ownsRow B 5 1 v' (o++[c]).length ((o++[c]).map u8C)∧Below B w w5:=by
 subst hx
 exact ⟨by simpa using hO5,(hB.alloc hBw _).grown hg5 (by rw [zap];omega) (fun q hq=>(hO.lt q hq).1)⟩
theorem rtext_any {w:World} {a:Option Addr} {cap:Nat} {bs:List UInt8} (hr:Row w 1 a bs.length cap (bs.map u8C)) (hn:bs.length≤400000) (k:Nat) (hk:k≤bs.length) (last:Bool) :
   Calls Tryz.prog 124 #[.slice a bs.length cap,.int .i64 k,.bool last] w (zf8 bs last (za4 last 1 [] (bs.drop k)) w):=by
 obtain ⟨V,hV⟩:∃V,V=za4 last 1 [] (bs.drop k):=⟨_,rfl⟩
 rw [←hV]
 have HV:=Lib.hid hV
 have HC:=Lib.hid (fun (W:World) (h:Below w.heap.size w W) j (hj:j<bs.length)=>(hr.mono h).at 0 j hj)
 have HE:=Lib.hid (fun (W:World) (h:Below w.heap.size w W) j=>rescape_any (hr.mono h) hn j last)
 have HK:=Lib.hid hk
 clear hV hr hk
 go_enter Tryz.func124,Tryz.ntmps124
 go_wp2
 go_loopw [1,9,10] (fun i v d wr=>∃(j D:Nat) (o:List UInt8),j≤bs.length∧i=.int .i64 j∧d=.int .i64 D∧1≤D∧D≤j+1∧o.length≤j∧Hid (wr.ownsRow w.heap.size 5 1 v o.length (o.map u8C))∧Hid (Below w.heap.size w wr)∧Hid (V=za4 last D o (bs.drop j))) (fun i _ _ _=>bs.length-(intOf i).toNat)
 case atStart=>exact ⟨k,1,[],HK.out,rfl,by go_num,by omega,by omega,by simp,Lib.hid (World.ownsRow_nil _ _ _ _),Lib.hid (Below.refl _ _),HV⟩
 case round =>
   obtain ⟨j,D,o,hj,rfl,rfl,hD,hDj,hoj,HO,HB,HG⟩:=hrel
   have hsz:=HB.out.size
   by_cases hlt:j<bs.length
   · obtain ⟨b0,off,ha,-,hc⟩:=HC.out wr HB.out j hlt
     unfold u8C at hc
     have hcj:=hc j hlt
     have HCC:=Lib.hid hc
     have hji:decide ((j:Int)<bs.length)=true:=decide_eq_true (by omega)
     have hjl:(j:Int)<bs.length:=by omega
     have hg:=HG.out
     rw [zat hlt] at hg
     have HCE:=Lib.hid (HE.out wr HB.out (j+1))
     subst ha
     obtain ⟨c,hcc⟩:∃c,bs.getD j 0=c:=⟨_,rfl⟩
     rw [hcc] at hcj hg
     clear hc hcc
     by_cases h92:c=92
     · subst h92
       rw [textV_esc] at hg
       obtain ⟨E,hE⟩:∃E,escV last (bs.drop (j+1))=E:=⟨_,rfl⟩
       rw [hE] at hg HCE
       have hbd:=fun x m h=>escV_bd (last:=last) (t:=bs.drop (j+1)) (x:=x) (m:=m) (hE.trans h)
       rw [List.length_drop] at hbd
       have HBD:=Lib.hid hbd
       clear hE hbd
       unfold zc2 at HCE
       cases E with
       | none =>
         have HG2:=Lib.hid (show V=none from hg)
         have HCE2:=Lib.hid (show Calls Tryz.prog 164 #[.slice (some ⟨b0,off,none⟩) bs.length cap,.int .i64 ((j:Int)+1),.bool last] wr fun e w'=>e=.returned (.tuple #[.int .u8 0,.int .i64 0,.bool false,.int .i64 (zaX last)])∧wr=w' from HCE.out)
         have ho1:(zaX last != 0)=true:=by cases last<;>rfl
         have HQ:=Lib.hid (show zaX last=zaX last from rfl)
         clear hg HCE
         generalize hOE:zaX last=oe at *
         have HOE:=Lib.hid hOE
         clear hOE
         go_wp2_with fail
         refine HCE2.out.mono ?_
         rintro e w2 ⟨rfl,rfl⟩
         go_wp2
         go_ret3
         exact zeS HG2.out HOE.out HB.out
       | some y =>
         obtain ⟨x,m⟩:=y
         obtain ⟨hx1,hm1,hm2⟩:=HBD.out x m rfl
         have hg3:V=za4 last D (o++x) ((bs.drop (j+1)).drop m):=hg
         rw [List.drop_drop] at hg3
         clear hg
         rcases x with _|⟨z,_|⟨z2,zs⟩⟩
         · have HCE2:=Lib.hid (show Calls Tryz.prog 164 #[.slice (some ⟨b0,off,none⟩) bs.length cap,.int .i64 ((j:Int)+1),.bool last] wr fun e w'=>e=.returned (.tuple #[.int .u8 0,.int .i64 ((j+1+m:Nat):Int),.bool false,.int .i64 0])∧wr=w' from HCE.out)
           rw [List.append_nil] at hg3
           have HG3:=Lib.hid hg3
           clear hg3 HCE
           go_wp2_with fail
           refine HCE2.out.mono ?_
           rintro e w2 ⟨rfl,rfl⟩
           go_wp2
           go_roundw
           case rel=>exact ⟨j+1+m,D,o,by omega,by go_num,rfl,hD,by omega,by omega,HO,HB,HG3⟩
           case measure=>simp [intOf];omega
         · have HCE2:=Lib.hid (show Calls Tryz.prog 164 #[.slice (some ⟨b0,off,none⟩) bs.length cap,.int .i64 ((j:Int)+1),.bool last] wr fun e w'=>e=.returned (.tuple #[.int .u8 z.toNat,.int .i64 ((j+1+m:Nat):Int),.bool true,.int .i64 0])∧wr=w' from HCE.out)
           have HG3:=Lib.hid hg3
           clear hg3 HCE
           go_wp2_with fail
           refine HCE2.out.mono ?_
           rintro e w2 ⟨rfl,rfl⟩
           go_wp2_with (at_builtin;refine zaH zcj rfl (.tmp 41) (.tmp 43) rfl w.heap.size _ o.length _ rfl (HO.out.alloc _) _ 1 _ _ rfl (zbk _ _ _) (zbz rfl) (by unfold maxLen;omega) (by omega) (by rw [zap];omega) ?_;intro v' w5 hO5 hg5 hnil5;have HP5:=Lib.hid (zbS z _ HB.out hsz HO.out rfl hO5 hg5);clear hO5 hg5 hnil5)
           go_roundw
           case rel=>exact ⟨j+1+m,D,o++[z],by omega,by go_num,rfl,hD,by omega,by simp;omega,Lib.hid HP5.out.1,Lib.hid HP5.out.2,HG3⟩
           case measure=>simp [intOf];omega
         · simp at hx1
     · have e92:=zar h92 92 rfl
       by_cases h13:c=13
       · subst h13
         rw [textV_nl] at hg
         by_cases hj1:j+1<bs.length
         · have hc1:=HCC.out (j+1) hj1
           rw [zat hj1] at hg
           have d1:decide ((bs.length:Int)≤(j:Int)+1)=false:=decide_eq_false (by omega)
           have d2:decide ((j:Int)+1<bs.length)=true:=decide_eq_true (by omega)
           have hjl1:(j:Int)+1<bs.length:=by omega
           by_cases h10:bs.getD (j+1) 0=10
           · have hg3:V=za4 last D (o++[10]) (bs.drop (j+1+1)):=by
               rw [hg,h10]
               simp [zdF]
             rw [h10,show ((10:UInt8).toNat:Int)=10 from rfl] at hc1
             have HG3:=Lib.hid hg3
             clear hg hg3 h10 h92
             go_wp2_with (at_builtin;refine zaH zcj rfl (.tmp 89) (.tmp 91) rfl w.heap.size _ o.length _ rfl (HO.out.alloc _) _ 1 _ _ rfl (zbk _ _ _) (zbz rfl) (by unfold maxLen;omega) (by omega) (by rw [zap];omega) ?_;intro v' w5 hO5 hg5 hnil5;have HP5:=Lib.hid (zbS 10 _ HB.out hsz HO.out rfl hO5 hg5);clear hO5 hg5 hnil5)
             go_roundw
             case rel=>exact ⟨j+1+1,D,o++[10],by omega,by go_num,rfl,hD,by omega,by simp;omega,Lib.hid HP5.out.1,Lib.hid HP5.out.2,HG3⟩
             case measure=>simp [intOf];omega
           · have hg3:V=za4 last D (o++[10]) (bs.drop (j+1)):=by
               rw [hg,zat hj1]
               show za4 last D (o++[10]) ((bs.getD (j+1) 0::bs.drop (j+1+1)).drop (if bs.getD (j+1) 0=10 then 1 else 0))=_
               rw [if_neg h10];rfl
             have e10:=zar h10 10 rfl
             have HG3:=Lib.hid hg3
             clear hg hg3 h10 h92
             generalize (bs.getD (j+1) 0).toNat=y at *
             go_wp2_with (at_builtin;refine zaH zcj rfl (.tmp 89) (.tmp 91) rfl w.heap.size _ o.length _ rfl (HO.out.alloc _) _ 1 _ _ rfl (zbk _ _ _) (zbz rfl) (by unfold maxLen;omega) (by omega) (by rw [zap];omega) ?_;intro v' w5 hO5 hg5 hnil5;have HP5:=Lib.hid (zbS 10 _ HB.out hsz HO.out rfl hO5 hg5);clear hO5 hg5 hnil5)
             go_roundw
             case rel=>exact ⟨j+1,D,o++[10],by omega,by go_num,rfl,hD,by omega,by simp;omega,Lib.hid HP5.out.1,Lib.hid HP5.out.2,HG3⟩
             case measure=>simp [intOf];omega
         · rw [za3 hj1] at hg
           have d1:decide ((bs.length:Int)≤(j:Int)+1)=true:=decide_eq_true (by omega)
           have d2:decide ((j:Int)+1<bs.length)=false:=decide_eq_false (by omega)
           clear h92
           cases last
           · have HG3:=Lib.hid (show V=none from hg)
             clear hg
             go_wp2
             go_ret3
             exact zeS HG3.out rfl HB.out
           · have HG3:=Lib.hid (show V=za4 true D (o++[10]) (bs.drop (j+1)) by rw [hg,za3 hj1];rfl)
             clear hg
             go_wp2_with (at_builtin;refine zaH zcj rfl (.tmp 89) (.tmp 91) rfl w.heap.size _ o.length _ rfl (HO.out.alloc _) _ 1 _ _ rfl (zbk _ _ _) (zbz rfl) (by unfold maxLen;omega) (by omega) (by rw [zap];omega) ?_;intro v' w5 hO5 hg5 hnil5;have HP5:=Lib.hid (zbS 10 _ HB.out hsz HO.out rfl hO5 hg5);clear hO5 hg5 hnil5)
             go_roundw
             case rel=>exact ⟨j+1,D,o++[10],by omega,by go_num,rfl,hD,by omega,by simp;omega,Lib.hid HP5.out.1,Lib.hid HP5.out.2,HG3⟩
             case measure=>simp [intOf];omega
       · have e13:=zar h13 13 rfl
         by_cases h40:c=40
         · subst h40
           rw [textV_in] at hg
           have HG3:=Lib.hid hg
           clear hg h92 h13
           go_wp2_with (at_builtin;refine zaH zcj rfl (.tmp 89) (.tmp 91) rfl w.heap.size _ o.length _ rfl (HO.out.alloc _) _ 1 _ _ rfl (zbk _ _ _) (zbz rfl) (by unfold maxLen;omega) (by omega) (by rw [zap];omega) ?_;intro v' w5 hO5 hg5 hnil5;have HP5:=Lib.hid (zbS 40 _ HB.out hsz HO.out rfl hO5 hg5);clear hO5 hg5 hnil5)
           go_roundw
           case rel=>exact ⟨j+1,D+1,o++[40],by omega,by go_num,by go_num,by omega,by omega,by simp;omega,Lib.hid HP5.out.1,Lib.hid HP5.out.2,HG3⟩
           case measure=>simp [intOf];omega
         · have e40:=zar h40 40 rfl
           by_cases h41:c=41
           · subst h41
             rw [textV_out] at hg
             by_cases hD1:D=1
             · subst hD1
               rw [if_pos rfl] at hg
               have HG3:=Lib.hid hg
               clear hg h92 h13 h40
               go_wp2
               go_ret3
               exact txtR_some HG3.out hlt rfl HO.out HB.out
             · rw [if_neg hD1] at hg
               have dD:(((D:Int)-1)==0)=false:=by rw [beq_eq_false_iff_ne];omega
               have HG3:=Lib.hid hg
               have HD:=Lib.hid hD1
               clear hg h92 h13 h40 hD1
               go_wp2_with (at_builtin;refine zaH zcj rfl (.tmp 89) (.tmp 91) rfl w.heap.size _ o.length _ rfl (HO.out.alloc _) _ 1 _ _ rfl (zbk _ _ _) (zbz rfl) (by unfold maxLen;omega) (by omega) (by rw [zap];omega) ?_;intro v' w5 hO5 hg5 hnil5;have HP5:=Lib.hid (zbS 41 _ HB.out hsz HO.out rfl hO5 hg5);clear hO5 hg5 hnil5)
               go_roundw
               case rel=>exact ⟨j+1,D-1,o++[41],by omega,by go_num,by go_num,by have:=HD.out;omega,by omega,by simp;omega,Lib.hid HP5.out.1,Lib.hid HP5.out.2,HG3⟩
               case measure=>simp [intOf];omega
           · have e41:=zar h41 41 rfl
             rw [zfA _ _ _ _ _ h92 h13 h40 h41] at hg
             have HG3:=Lib.hid hg
             have dD:((D:Int)==0)=false:=by rw [beq_eq_false_iff_ne];omega
             clear hg h92 h13 h40 h41
             obtain ⟨x,hx⟩:∃x,c.toNat=x:=⟨_,rfl⟩
             rw [hx] at hcj e92 e13 e40 e41
             have HX:=Lib.hid (show Value.int .u8 (x:Int)=u8C c by rw [←hx];rfl)
             clear hx
             go_wp2_with (at_builtin;refine zaH zcj rfl (.tmp 89) (.tmp 91) rfl w.heap.size _ o.length _ rfl (HO.out.alloc _) _ 1 _ _ rfl (zbk _ _ _) (zbz rfl) (by unfold maxLen;omega) (by omega) (by rw [zap];omega) ?_;intro v' w5 hO5 hg5 hnil5;have HP5:=Lib.hid (zbS c _ HB.out hsz HO.out HX.out hO5 hg5);clear hO5 hg5 hnil5)
             go_roundw
             case rel=>exact ⟨j+1,D,o++[c],by omega,by go_num,rfl,hD,by omega,by simp;omega,Lib.hid HP5.out.1,Lib.hid HP5.out.2,HG3⟩
             case measure=>simp [intOf];omega
   · obtain rfl:j=bs.length:=by omega
     have hg:=HG.out
     rw [List.drop_length,textV_nil] at hg
     have HG2:=Lib.hid hg
     have hji:decide ((bs.length:Int)<bs.length)=false:=decide_eq_false (by omega)
     clear hg
     go_wp2_with (go_at_call 163;refine (zgy _ _).mono ?_;rintro e w' ⟨rfl,rfl⟩)
     go_ret3
     exact zeS HG2.out rfl HB.out
end Go.Proofs.YtfafdeemfeaedaaGreat
