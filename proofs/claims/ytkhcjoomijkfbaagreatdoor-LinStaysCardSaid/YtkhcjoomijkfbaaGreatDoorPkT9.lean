/-
  Our texts Fd1 to LmA, in one.
-/
import Derived.Test.YtkhcjoomijkfbaaGreatDoorPkT8
set_option maxRecDepth 8000
set_option maxHeartbeats 8000000
namespace Go.Proofs.YtkhcjoomijkfbaaGreatDoor
open Go.RowKit
structure IsFd (w0 w:World) (p:Nat) (a:Option Addr) (cap:Nat) (bs:List UInt8) (last:Bool) (s:Int×Int):Prop where
 blk:w.heap[p]?=some (.cells #[.slice a bs.length cap,.int .i64 s.1,.bool last,.int .i64 s.2] 77 (0,0))
 new:w0.heap.size≤p
 row:Row w0 1 a bs.length cap (bs.map u8C)
 bel:Below w0.heap.size w0 w
 small:bs.length≤399999
theorem fd_set {w:World} {b:Nat} {x0 x1 x2 x3:Value} {t:TypeId} (h:w.heap[b]?=some (.cells #[x0,x1,x2,x3] t (0,0))) (y1 y3:Value):((w.setCell ⟨b,1,none⟩ y1).setCell ⟨b,3,none⟩ y3).heap[b]?=some (.cells #[x0,y1,x2,y3] t (0,0)):=by
 rw [heap_setCell_same _ b 3 _ _ _ (heap_setCell_same w b 1 _ _ _ h)];rfl
theorem fd_set1 {w:World} {b:Nat} {x0 x1 x2 x3:Value} {t:TypeId} (h:w.heap[b]?=some (.cells #[x0,x1,x2,x3] t (0,0))) (y1:Value):(w.setCell ⟨b,1,none⟩ y1).heap[b]?=some (.cells #[x0,y1,x2,x3] t (0,0)):=by
 rw [heap_setCell_same w b 1 _ _ _ h];rfl
theorem fd_set3 {w:World} {b:Nat} {x0 x1 x2 x3:Value} {t:TypeId} (h:w.heap[b]?=some (.cells #[x0,x1,x2,x3] t (0,0))) (y3:Value):(w.setCell ⟨b,3,none⟩ y3).heap[b]?=some (.cells #[x0,x1,x2,y3] t (0,0)):=by
 rw [heap_setCell_same w b 3 _ _ _ h];rfl
section
variable {w0 w w' : World} {p : Nat} {a : Option Addr} {cap : Nat} {bs : List UInt8} {last : Bool} {s : Int × Int}
theorem IsFd.lt (h:IsFd w0 w p a cap bs last s):p<w.heap.size:=zag h.blk
theorem IsFd.mono (h:IsFd w0 w p a cap bs last s) (hb:Below w.heap.size w w'):IsFd w0 w' p a cap bs last s :=
 ⟨zab hb h.blk,h.new,h.row,h.bel.trans (hb.mono h.bel.size),h.small⟩
theorem IsFd.bytes (h:IsFd w0 w p a cap bs last s):Row w 1 a bs.length cap (bs.map u8C):=h.row.mono h.bel
theorem IsFd.cells (h:IsFd w0 w p a cap bs last s):(w.cell? ⟨p,0,none⟩=some (.slice a bs.length cap)∧w.cell? ⟨p,1,none⟩=some (.int .i64 s.1)∧w.cell? ⟨p,2,none⟩=some (.bool last)∧w.cell? ⟨p,3,none⟩=some (.int .i64 s.2)) ∧
   w.frozen? ⟨p,0,none⟩=false∧w.frozen? ⟨p,1,none⟩=false∧w.frozen? ⟨p,2,none⟩=false∧w.frozen? ⟨p,3,none⟩=false :=
 ⟨⟨by rw [cell_of_row _ _ _ _ _ _ h.blk]; rfl, by rw [cell_of_row _ _ _ _ _ _ h.blk]; rfl, by rw [cell_of_row _ _ _ _ _ _ h.blk]; rfl, by rw [cell_of_row _ _ _ _ _ _ h.blk]; rfl⟩,
   frozen_of_row _ _ _ _ _ h.blk,frozen_of_row _ _ _ _ _ h.blk,frozen_of_row _ _ _ _ _ h.blk,frozen_of_row _ _ _ _ _ h.blk⟩
theorem IsFd.set (h:IsFd w0 w p a cap bs last s) (x y:Int):IsFd w0 ((w.setCell ⟨p,1,none⟩ (.int .i64 x)).setCell ⟨p,3,none⟩ (.int .i64 y)) p a cap bs last (x,y) :=
 ⟨fd_set h.blk _ _,h.new,h.row,(h.bel.setCell h.new _).setCell h.new _,h.small⟩
theorem IsFd.setAt (h:IsFd w0 w p a cap bs last s) (x:Int):IsFd w0 (w.setCell ⟨p,1,none⟩ (.int .i64 x)) p a cap bs last (x,s.2) :=
 ⟨fd_set1 h.blk _,h.new,h.row,h.bel.setCell h.new _,h.small⟩
theorem IsFd.setE (h:IsFd w0 w p a cap bs last s) (y:Int):IsFd w0 (w.setCell ⟨p,3,none⟩ (.int .i64 y)) p a cap bs last (s.1,y) :=
 ⟨fd_set3 h.blk _,h.new,h.row,h.bel.setCell h.new _,h.small⟩
theorem zc3 (h : IsFd w0 w p a cap bs last s) (e : Int) : Calls Tryz.prog 57 #[.pointer (some ⟨p, 0, none⟩), .int .i64 e] w fun x w' => x = .returned (.tuple #[]) ∧ IsFd w0 w' p a cap bs last (s.1, if s.2 = 0 then e else s.2) ∧ Keeps (fun b => b = p) w w' := by
 obtain ⟨at0,er0⟩:=s
 have HS:=Lib.hid h
 obtain ⟨⟨c0,c1,c2,c3⟩,f0,f1,f2,f3⟩:=h.cells
 clear h
 dsimp only at c1 c3 ⊢
 by_cases he:er0=0
 · subst he
   go_enter Tryz.func57,Tryz.ntmps57
   go_wp2_with fail
   go_end0
   exact ⟨rfl,HS.out.setE e,(Keeps.refl (fun b=>b=p) w).setCell (a:=⟨p,3,none⟩) (.inl rfl) _⟩
 · have e1 : (er0 == 0) = false := by rw [beq_eq_false_iff_ne]; exact he
   rw [if_neg he]
   clear he
   go_enter Tryz.func57,Tryz.ntmps57
   go_wp2_with fail
   go_end0
   exact ⟨rfl,HS.out,Keeps.refl _ _⟩
theorem zaK {S:Nat→Prop} {w w':World} (hb:Below w.heap.size w w'):Keeps S w w':=zaq hb
theorem zgk (h:IsFd w0 w p a cap bs last s) (lo hi:Int):Calls Tryz.prog 33 #[.pointer (some ⟨p,0,none⟩),.int .i64 lo,.int .i64 hi] w fun e w' =>
   e=.returned (.int .i64 (numS bs last lo hi s).1)∧IsFd w0 w' p a cap bs last (numS bs last lo hi s).2∧Keeps (fun b=>b=p) w w':=by
 obtain ⟨at0,er0⟩:=s
 have HN:=Lib.hid (fun (W:World) (hb:Below w.heap.size w W)=>pnumber_any (h.bytes.mono hb) (by have:=h.small;omega) at0 last)
 have HS:=Lib.hid h
 obtain ⟨⟨c0,c1,c2,c3⟩,f0,f1,f2,f3⟩:=h.cells
 dsimp only at c1 c3
 by_cases he:er0=0
 case neg =>
   have e1:(er0==0)=false:=by rw [beq_eq_false_iff_ne];exact he
   have e2:(er0 != 0)=true:=by simp only [bne,e1,Bool.not_false]
   unfold numS
   rw [if_pos he]
   clear HN h he
   go_enter Tryz.func33,Tryz.ntmps33
   go_wp2_with fail
   go_ret
   exact ⟨rfl,HS.out,Keeps.refl _ _⟩
 subst he
 unfold numS
 rw [if_neg (by simp)]
 dsimp only
 generalize oneW zaH (zae bs at0 last)=R at *
 obtain ⟨x,f,t,er⟩:=R
 unfold zhG at HN
 dsimp only at HN ⊢
 generalize x.vn=n at *
 obtain ⟨E,hE⟩:∃E,E=(if er=0∧(n<lo∨hi<n) then (18:Int) else er):=⟨_,rfl⟩
 rw [←hE]
 have hc:((er==0)=false∧E=er)∨((er==0)=true∧decide (n<lo)=true∧E=18)∨((er==0)=true∧decide (n<lo)=false∧decide (n > hi)=true∧E=18)∨((er==0)=true∧decide (n<lo)=false∧decide (n > hi)=false∧E=er):=by
   by_cases g1:er=0
   · by_cases g2:n<lo
     · exact .inr (.inl ⟨by rw [g1];rfl,decide_eq_true g2,by rw [hE,if_pos ⟨g1,.inl g2⟩]⟩)
     · by_cases g3:hi<n
       · exact .inr (.inr (.inl ⟨by rw [g1];rfl,decide_eq_false g2,decide_eq_true g3,by rw [hE,if_pos ⟨g1,.inr g3⟩]⟩))
       · exact .inr (.inr (.inr ⟨by rw [g1];rfl,decide_eq_false g2,decide_eq_false g3,by rw [hE,if_neg (by rintro ⟨-,h|h⟩;exact g2 h;exact g3 h)]⟩))
   · exact .inl ⟨by rw [beq_eq_false_iff_ne];exact g1,by rw [hE,if_neg (fun h=>g1 h.1)]⟩
 have HC:=Lib.hid hc
 have HK:Hid (S3 w p 0 (.slice a bs.length cap) p 1 (.int .i64 at0) p 2 (.bool last)):=Lib.hid ⟨c0,c1,c2⟩
 clear h hc hE
 go_enter Tryz.func33,Tryz.ntmps33
 go_wp2_with fail
 go_region_held3 (fun w' => w'.cell? ⟨p, 0, none⟩ = some (.slice a bs.length cap) ∧ w'.cell? ⟨p, 1, none⟩ = some (.int .i64 at0) ∧ w'.cell? ⟨p, 2, none⟩ = some (.bool last))
   ((show S3 _ p 0 (.slice a bs.length cap) p 1 (.int .i64 at0) p 2 (.bool last);(first
     | (with_reducible exact HK.out.drew)
     | (with_reducible exact HK.out)
     | (with_reducible exact Hid.out (by assumption)))))
   ((go_at_call 53;(with_reducible refine (HN.out _ (Below.refl _ _).drew).mono ?_);rintro e wN ⟨rfl,hbN⟩;have hbM:Below w.heap.size w wN:=(Below.refl _ _).drew.trans hbN;have HSN:=Lib.hid (HK.out.below hbM)))
 have HS2:=Lib.hid (HS.out.mono hbM)
 obtain ⟨⟨d0,d1,d2,d3⟩,k0,k1,k2,k3⟩:=HS2.out.cells
 dsimp only at d1 d3
 have HKE:=Lib.hid (((zaq hbM:Keeps (fun b=>b=p) w wN).setCell (a:=⟨p,1,none⟩) (.inl rfl) (.int .i64 t)).setCell (a:=⟨p,3,none⟩) (.inl rfl) (.int .i64 E))
 clear HSN HK c0 c1 c2 c3 f0 f1 f2 f3 hbN hbM HN
 rcases HC.out with ⟨g1,rfl⟩|⟨g1,g2,rfl⟩|⟨g1,g2,g3,rfl⟩|⟨g1,g2,g3,rfl⟩<;>(
   clear HC
   go_wp2_with fail
   go_ret
   exact ⟨rfl,HS2.out.set _ _,HKE.out⟩)
theorem zf9 (h:IsFd w0 w p a cap bs last s) (k:List UInt8):Calls Tryz.prog 34 #[.pointer (some ⟨p,0,none⟩),.string (mkB k)] w fun e w' =>
   e=.returned (.tuple #[])∧IsFd w0 w' p a cap bs last (zbV bs last k s)∧Keeps (fun b=>b=p) w w':=by
 obtain ⟨at0,er0⟩:=s
 have HN:=Lib.hid (fun (W:World) (hb:Below w.heap.size w W)=>pword12_any (h.bytes.mono hb) (by have:=h.small;omega) at0 last k)
 have HS:=Lib.hid h
 obtain ⟨⟨c0,c1,c2,c3⟩,f0,f1,f2,f3⟩:=h.cells
 dsimp only at c1 c3
 by_cases he:er0=0
 case neg =>
   have e1:(er0==0)=false:=by rw [beq_eq_false_iff_ne];exact he
   have e2:(er0 != 0)=true:=by simp only [bne,e1,Bool.not_false]
   unfold zbV
   rw [if_pos he]
   clear HN h he
   generalize mkB k=kb at *
   go_enter Tryz.func34,Tryz.ntmps34
   go_wp2_with fail
   refine bodyPost_ret (results_none rfl _ _ _) rfl ?_
   exact ⟨rfl,HS.out,Keeps.refl _ _⟩
 subst he
 unfold zbV
 rw [if_neg (by simp)]
 dsimp only
 generalize oneW (zfY k) (zae bs at0 last)=R at *
 obtain ⟨x,f,t,er⟩:=R
 unfold zfJ at HN
 dsimp only at HN ⊢
 generalize mkB k=kb at *
 have HK:Hid (S3 w p 0 (.slice a bs.length cap) p 1 (.int .i64 at0) p 2 (.bool last)):=Lib.hid ⟨c0,c1,c2⟩
 clear h
 go_enter Tryz.func34,Tryz.ntmps34
 go_upto_region 1 with fail
 go_region_with ((go_at_call 54;(with_reducible refine (HN.out _ (Below.refl _ _).drew).mono ?_);rintro e wN ⟨rfl,hbN⟩;have hbM:Below w.heap.size w wN:=(Below.refl _ _).drew.trans hbN;have HS2:=Lib.hid (HS.out.mono hbM);obtain ⟨⟨d0,d1,d2,d3⟩,k0,k1,k2,k3⟩:=HS2.out.cells;have HKE:=Lib.hid (((zaq hbM:Keeps (fun b=>b=p) w wN).setCell (a:=⟨p,1,none⟩) (.inl rfl) (.int .i64 t)).setCell (a:=⟨p,3,none⟩) (.inl rfl) (.int .i64 er))))
 all_goals
   go_end0
   exact ⟨rfl,HS2.out.set _ _,HKE.out⟩
end
end Go.Proofs.YtkhcjoomijkfbaaGreatDoor
namespace Go.Proofs.YtkhcjoomijkfbaaGreatDoor
open Go.RowKit
section
variable {w0 w w' : World} {p : Nat} {a : Option Addr} {cap : Nat} {bs : List UInt8} {last : Bool} {s : Int × Int}
theorem zhC {W:World} {b r k:Nat} (hb:b≠r) (y0 y1 y2 y3:Value) :
   ((((W.setCell ⟨r,0,none⟩ y0).setCell ⟨r,1,none⟩ y1).setCell ⟨r,2,none⟩ y2).setCell ⟨r,3,none⟩ y3).cell? ⟨b,k,none⟩=W.cell? ⟨b,k,none⟩ :=
 World.cell?_of_block (w:=W) (a:=⟨b,k,none⟩) (za7 hb y0 y1 y2 y3)
theorem S3.set4 {w:World} {p o0 o1 o2 r:Nat} {x0 x1 x2:Value} (h:S3 w p o0 x0 p o1 x1 p o2 x2) (hp:p≠r) (y0 y1 y2 y3:Value) :
   S3 ((((w.setCell ⟨r,0,none⟩ y0).setCell ⟨r,1,none⟩ y1).setCell ⟨r,2,none⟩ y2).setCell ⟨r,3,none⟩ y3) p o0 x0 p o1 x1 p o2 x2 :=
 ⟨(zhC hp y0 y1 y2 y3).trans h.1,(zhC hp y0 y1 y2 y3).trans h.2.1,(zhC hp y0 y1 y2 y3).trans h.2.2⟩
structure TvM (w W:World) (r:Nat) (x:PV) (sl:Value):Prop where
 bel:Below w.heap.size w W
 blk:W.heap[r]?=some (.cells #[.int .i64 x.kind,.int .i64 x.n,.string (mkB x.s),sl] 48 (0,0))
 new:w.heap.size≤r
 val:IsV W (fun b=>w.heap.size≤b) x sl
def FvEnd (w0 w:World) (p:Nat) (a:Option Addr) (cap:Nat) (bs:List UInt8) (last:Bool) (V:PV×Int×Int) (e:Ending) (w':World):Prop :=
 ∃sl,e=.returned (pvA V.1 sl)∧IsV w' (fun b=>w.heap.size≤b) V.1 sl∧IsFd w0 w' p a cap bs last V.2∧Keeps (fun b=>b=p) w w'
theorem zhj {w:World} {b:Nat} {x0 x1 x2 x3:Value} {t:TypeId} (h:w.heap[b]?=some (.cells #[x0,x1,x2,x3] t (0,0))) (y0 y1 y2 y3:Value) :
   ((((w.setCell ⟨b,0,none⟩ y0).setCell ⟨b,1,none⟩ y1).setCell ⟨b,2,none⟩ y2).setCell ⟨b,3,none⟩ y3).heap[b]?=some (.cells #[y0,y1,y2,y3] t (0,0)):=by
 rw [heap_setCell_same _ _ 3 _ _ _ (heap_setCell_same _ _ 2 _ _ _ (heap_setCell_same _ _ 1 _ _ _ (heap_setCell_same w _ 0 _ _ _ h)))];rfl
theorem IsFd.set4 (h:IsFd w0 w p a cap bs last s) {q:Nat} (hq:p≠q) (h0:w0.heap.size≤q) (y0 y1 y2 y3:Value) :
   IsFd w0 ((((w.setCell ⟨q,0,none⟩ y0).setCell ⟨q,1,none⟩ y1).setCell ⟨q,2,none⟩ y2).setCell ⟨q,3,none⟩ y3) p a cap bs last s :=
 ⟨(heap_setCell_other _ _ _ _ hq).trans ((heap_setCell_other _ _ _ _ hq).trans ((heap_setCell_other _ _ _ _ hq).trans ((heap_setCell_other _ _ _ _ hq).trans h.blk))),h.new,h.row,(((h.bel.setCell h0 _).setCell h0 _).setCell h0 _).setCell h0 _,h.small⟩
theorem fd_beside {W : World} {X : PV} {sl : Value} {Q B : Nat} (h : IsV W (fun b => Q ≤ b) X sl) (hB : B < Q) (y0 y1 y2 y3 : Value) :
   IsV ((((W.setCell ⟨B,0,none⟩ y0).setCell ⟨B,1,none⟩ y1).setCell ⟨B,2,none⟩ y2).setCell ⟨B,3,none⟩ y3) (fun b=>Q≤b) X sl :=
 IsV.keep ⟨by simp,fun b _ hF=>za7 (by have:Q≤b:=hF;omega) _ _ _ _⟩ (fun _ h=>h) X h
theorem fd_beside2 {W : World} {X : PV} {sl : Value} {Q B : Nat} (h : IsV W (fun b => Q ≤ b) X sl) (hB : B < Q) (y1 y3 : Value) :
   IsV ((W.setCell ⟨B,1,none⟩ y1).setCell ⟨B,3,none⟩ y3) (fun b=>Q≤b) X sl :=
 IsV.keep ⟨by simp,fun b _ hF=>by have:Q≤b:=hF;rw [heap_setCell_other _ _ _ _ (by show b≠B;omega),heap_setCell_other _ _ _ _ (by show b≠B;omega)]⟩ (fun _ h=>h) X h
theorem fvalue_any (h:IsFd w0 w p a cap bs last s) (hin:InB bs.length s):Calls Tryz.prog 36 #[.pointer (some ⟨p,0,none⟩)] w (FvEnd w0 w p a cap bs last (valS bs last s)):=by
 obtain ⟨at0,er0⟩:=s
 have HS:=Lib.hid h
 have hpw:=h.lt
 have HB1:=Lib.hid (zah w (.cells #[.int .i64 0,.int .i64 0,.string ⟨#[]⟩,.slice none 0 0] 48))
 have HK1:=Lib.hid (zac (w:=w) (b:=w.heap.size) (.cells #[.int .i64 0,.int .i64 0,.string ⟨#[]⟩,.slice none 0 0] 48) rfl)
 have HV : er0 = 0 → Hid (∀ W, Below w.heap.size w W → Calls Tryz.prog 55 #[.slice a bs.length cap, .int .i64 at0, .bool last] W (ValEnd W (zbF bs last at0))) := fun he => Lib.hid fun W hb => by
   obtain ⟨q1,q2⟩:=hin he
   exact value_any (h.bytes.mono hb) (by have:=h.small;omega) at0 last _ (zcG q1 q2)
 unfold valS FvEnd
 by_cases he:er0=0
 case neg =>
   rw [if_pos he]
   have HS1:=Lib.hid (HS.out.mono HB1.out)
   have e1:(er0==0)=false:=by rw [beq_eq_false_iff_ne];exact he
   have e2:(er0 != 0)=true:=by simp only [bne,e1,Bool.not_false]
   clear HV h he hin
   go_enter Tryz.func36,Tryz.ntmps36
   go_upto_region 1 with fail
   obtain ⟨q,hq⟩:∃q,q=w.heap.size:=⟨_,rfl⟩
   rw [←hq] at HK1 ⊢
   have HQ:=Lib.hid (show w.heap.size≤q from Nat.le_of_eq hq.symm)
   have hpq:p≠q:=by omega
   clear hq hpw
   generalize w.alloc _=W1 at *
   obtain ⟨⟨c0,c1,c2,c3⟩,f0,f1,f2,f3⟩:=HS1.out.cells
   obtain ⟨⟨t0,t1,t2,t3⟩,g0,g1,g2,g3⟩:=zaf HK1.out
   dsimp only at c1 c3
   have HE:=Lib.hid (fun y0 y1 y2 y3=>show IsFd w0 ((((W1.setCell ⟨q,0,none⟩ y0).setCell ⟨q,1,none⟩ y1).setCell ⟨q,2,none⟩ y2).setCell ⟨q,3,none⟩ y3) p a cap bs last (at0,er0)∧Keeps (fun b=>b=p) w ((((W1.setCell ⟨q,0,none⟩ y0).setCell ⟨q,1,none⟩ y1).setCell ⟨q,2,none⟩ y2).setCell ⟨q,3,none⟩ y3) from ⟨HS1.out.set4 hpq (Nat.le_trans HS.out.bel.size HQ.out) y0 y1 y2 y3,zaJ (zaq HB1.out) HQ.out y0 y1 y2 y3⟩)
   clear HS HS1
   go_wp2_with fail
   refine bodyPost_ret (results_cell_row rfl _ _ q 48 _ (0,0) _ rfl (by exact zhj HK1.out _ _ _ _) Tryz.underlying48 rfl (by kernel_rfl)) rfl ?_
   exact ⟨.slice none 0 0,rfl,IsV.leaf _ _ _ rfl,(HE.out _ _ _ _).1,(HE.out _ _ _ _).2⟩
 subst he
 rw [if_neg (by simp)]
 have HN:=HV rfl
 clear HV h hin
 generalize zbF bs last at0=V at *
 obtain ⟨x,t,er⟩:=V
 unfold ValEnd pvA at HN
 dsimp only at HN ⊢
 have HS1:=Lib.hid (HS.out.mono HB1.out)
 go_enter Tryz.func36,Tryz.ntmps36
 go_upto_region 1 with fail
 obtain ⟨q,hq⟩:∃q,q=w.heap.size:=⟨_,rfl⟩
 rw [←hq] at HK1 ⊢
 have HQ:=Lib.hid (show w.heap.size≤q from Nat.le_of_eq hq.symm)
 have hpq:p≠q:=by omega
 clear hq hpw
 generalize w.alloc _=W1 at *
 obtain ⟨⟨c0,c1,c2,c3⟩,f0,f1,f2,f3⟩:=HS1.out.cells
 dsimp only at c1 c3
 have HK:Hid (S3 W1 p 0 (.slice a bs.length cap) p 1 (.int .i64 at0) p 2 (.bool last)):=Lib.hid ⟨c0,c1,c2⟩
 have HA1:=Lib.hid (fun o:Obj=>(zah W1 o).drew)
 have HA2:=Lib.hid (fun o:Obj=>HB1.out.trans ((HA1.out o).mono (show w.heap.size≤W1.heap.size from HB1.out.size)))
 go_wp2_with fail
 go_region_held3 (fun w' => w'.cell? ⟨p, 0, none⟩ = some (.slice a bs.length cap) ∧ w'.cell? ⟨p, 1, none⟩ = some (.int .i64 at0) ∧ w'.cell? ⟨p, 2, none⟩ = some (.bool last))
   ((show S3 _ p 0 (.slice a bs.length cap) p 1 (.int .i64 at0) p 2 (.bool last);(first
     | (with_reducible exact HK.out.drew)
     | (with_reducible exact HK.out)
     | (with_reducible exact (HK.out.alloc _).drew)
     | (with_reducible exact Hid.out (by assumption))
     | (with_reducible exact S3.alloc (Hid.out (by assumption)) _)
     | (with_reducible exact HST.out _ _ _ _))))
   ((go_at_call 55;first
     | ((with_reducible refine (HN.out _ HB1.out.drew).mono ?_);rintro e wN ⟨sl,rfl,hx,hbN⟩;obtain ⟨sa,sc,rfl,-,-,-⟩:=hx.len;have hbM:Below W1.heap.size W1 wN:=(Below.refl _ _).drew.trans hbN;have HSN:=Lib.hid (HK.out.below hbM))
     | ((with_reducible refine (HN.out _ (HA2.out _)).mono ?_);rintro e wN ⟨sl,rfl,hx,hbN⟩;obtain ⟨sa,sc,rfl,-,-,-⟩:=hx.len;have hbM:Below W1.heap.size W1 wN:=(HA1.out _).trans (hbN.mono (HA1.out _).size);have HSN:=Lib.hid (HK.out.below hbM);have HZ:=Lib.hid (zab hbN (zac (w:=W1) (b:=W1.heap.size) (.cells #[.int .i64 0,.int .i64 0,.string ⟨#[]⟩,.slice none 0 0] 48) rfl));obtain ⟨⟨z0,z1,z2,z3⟩,y0,y1,y2,y3⟩:=zaf HZ.out;have HST:=Lib.hid (fun y0 y1 y2 y3=>S3.set4 HSN.out (Nat.ne_of_lt HS1.out.lt) y0 y1 y2 y3))))
 all_goals
   first
     | (obtain ⟨W2,hW2⟩:∃W2,W2=wN.alloc (.cells #[.int .i64 x.kind,.int .i64 x.n,.string (mkB x.s),.slice sa x.l.length sc] 48):=⟨_,rfl⟩
        rw [←hW2]
        have HT:=Lib.hid (show TvM W1 W2 wN.heap.size x (.slice sa x.l.length sc) from ⟨by rw [hW2];exact hbM.alloc hbM.size _,by rw [hW2];exact zac _ rfl,hbM.size,by rw [hW2];exact hx.below (zah _ _)⟩)
        obtain ⟨r2,hr2⟩:∃r2,r2=wN.heap.size:=⟨_,rfl⟩
        rw [←hr2] at HT ⊢)
     | (obtain ⟨W2,hW2⟩:∃W2,W2=((((wN.setCell ⟨W1.heap.size,0,none⟩ (.int .i64 x.kind)).setCell ⟨W1.heap.size,1,none⟩ (.int .i64 x.n)).setCell ⟨W1.heap.size,2,none⟩ (.string (mkB x.s))).setCell ⟨W1.heap.size,3,none⟩ (.slice sa x.l.length sc)):=⟨_,rfl⟩
        rw [←hW2]
        have HT:=Lib.hid (show TvM W1 W2 W1.heap.size x (.slice sa x.l.length sc) from ⟨by rw [hW2];exact (((hbM.setCell (Nat.le_refl _) _).setCell (Nat.le_refl _) _).setCell (Nat.le_refl _) _).setCell (Nat.le_refl _) _,by rw [hW2];exact zhj HZ.out _ _ _ _,Nat.le_refl _,by rw [hW2];exact (fd_beside (hx.weaken (G:=fun b=>W1.heap.size+1≤b) fun b hb=>by have h2:(W1.alloc (.cells #[.int .i64 0,.int .i64 0,.string ⟨#[]⟩,.slice none 0 0] 48)).heap.size≤b:=hb;rw [zal] at h2;exact h2) (Q:=W1.heap.size+1) (B:=W1.heap.size) (Nat.lt_succ_self _) _ _ _ _).weaken (fun b hb=>Nat.le_of_succ_le hb)⟩)
        clear z0 z1 z2 z3 y0 y1 y2 y3 HZ HST
        obtain ⟨r2,hr2⟩:∃r2,r2=W1.heap.size:=⟨_,rfl⟩
        rw [←hr2] at HT ⊢)
   clear hW2 hr2 hbN hbM HSN
   have HS2:=Lib.hid (HS1.out.mono HT.out.bel)
   have HQ2:=Lib.hid (zab HT.out.bel HK1.out)
   have hqW:q<W1.heap.size:=zag HK1.out
   have hpW:p<W1.heap.size:=HS1.out.lt
   have hp2:p≠r2:=by have:=HT.out.new;omega
   have hq2:q≠r2:=by have:=HT.out.new;omega
   have HB2:=Lib.hid (HB1.out.trans (HT.out.bel.mono HB1.out.size))
   have HE := Lib.hid (fun y0 y1 y2 y3 => show IsFd w0 ((((((W2.setCell ⟨p, 1, none⟩ (.int .i64 t)).setCell ⟨p, 3, none⟩ (.int .i64 er)).setCell ⟨q, 0, none⟩ y0).setCell ⟨q, 1, none⟩ y1).setCell ⟨q, 2, none⟩ y2).setCell ⟨q, 3, none⟩ y3) p a cap bs last (t, er) ∧ Keeps (fun b => b = p) w ((((((W2.setCell ⟨p, 1, none⟩ (.int .i64 t)).setCell ⟨p, 3, none⟩ (.int .i64 er)).setCell ⟨q, 0, none⟩ y0).setCell ⟨q, 1, none⟩ y1).setCell ⟨q, 2, none⟩ y2).setCell ⟨q, 3, none⟩ y3) ∧ IsV ((((((W2.setCell ⟨p, 1, none⟩ (.int .i64 t)).setCell ⟨p, 3, none⟩ (.int .i64 er)).setCell ⟨q, 0, none⟩ y0).setCell ⟨q, 1, none⟩ y1).setCell ⟨q, 2, none⟩ y2).setCell ⟨q, 3, none⟩ y3) (fun b => w.heap.size ≤ b) x (.slice sa x.l.length sc) ∧
       ((((((W2.setCell ⟨p,1,none⟩ (.int .i64 t)).setCell ⟨p,3,none⟩ (.int .i64 er)).setCell ⟨q,0,none⟩ y0).setCell ⟨q,1,none⟩ y1).setCell ⟨q,2,none⟩ y2).setCell ⟨q,3,none⟩ y3).heap[q]?=some (.cells #[y0,y1,y2,y3] 48 (0,0))
     from ⟨(HS2.out.set t er).set4 hpq (Nat.le_trans HS.out.bel.size HQ.out) y0 y1 y2 y3, zaJ (((zaq HB2.out : Keeps (fun b => b = p) w W2).setCell (a := ⟨p, 1, none⟩) (.inl rfl) _).setCell (a := ⟨p, 3, none⟩) (.inl rfl) _) HQ.out y0 y1 y2 y3, (fd_beside (fd_beside2 HT.out.val hpW _ _) hqW y0 y1 y2 y3).weaken (fun b hb => Nat.le_trans HB1.out.size hb),
       zhj ((heap_setCell_other _ _ _ _ (Ne.symm hpq)).trans ((heap_setCell_other _ _ _ _ (Ne.symm hpq)).trans HQ2.out)) y0 y1 y2 y3⟩)
   clear c0 c1 c2 c3 f0 f1 f2 f3 hqW hpW
   obtain ⟨⟨c0,c1,c2,c3⟩,f0,f1,f2,f3⟩:=HS2.out.cells
   dsimp only at c1 c3
   obtain ⟨⟨t0,t1,t2,t3⟩,g0,g1,g2,g3⟩:=zaf HQ2.out
   obtain ⟨⟨k0,k1,k2,k3⟩,-⟩:=zaf HT.out.blk
   generalize hxk:x.kind=xk at *
   generalize hxn:x.n=xn at *
   generalize hxs:mkB x.s=xs at *
   have HXX:=Lib.hid (show pvA x (.slice sa x.l.length sc)=.agg #[.int .i64 xk,.int .i64 xn,.string xs,.slice sa x.l.length sc] from by rw [←hxk,←hxn,←hxs];rfl)
   clear HS HS1 HS2 HT HQ2 HK HN HB1 HB2 HK1 hxk hxn hxs HA1 HA2
   generalize x.l.length=xl at *
   go_wp2_with fail
   refine bodyPost_ret (results_cell_row rfl _ _ q 48 _ (0,0) _ rfl (by exact (HE.out _ _ _ _).2.2.2) Tryz.underlying48 rfl (by kernel_rfl)) rfl ?_
   exact ⟨.slice sa xl sc,by rw [HXX.out],(HE.out _ _ _ _).2.2.1,(HE.out _ _ _ _).1,(HE.out _ _ _ _).2.1⟩
end
end Go.Proofs.YtkhcjoomijkfbaaGreatDoor
namespace Go.Proofs.YtkhcjoomijkfbaaGreatDoor
open Go.RowKit
section
variable {w0 w w' : World} {p : Nat} {a : Option Addr} {cap : Nat} {bs : List UInt8} {last : Bool} {s : Int × Int}
theorem zgm {t : Int} (h : IsFd w0 w p a cap bs last (t, 0)) (e : Int) : Calls Tryz.prog 57 #[.pointer (some ⟨p, 0, none⟩), .int .i64 e] w fun x w' => x = .returned (.tuple #[]) ∧ IsFd w0 w' p a cap bs last (t, e) ∧ Keeps (fun b => b = p) w w' :=
 zc3 h e
def FsEnd (w0 w:World) (p:Nat) (a:Option Addr) (cap:Nat) (bs:List UInt8) (last:Bool) (B:Bool) (s:Int×Int) (e:Ending) (w':World):Prop :=
 e=.returned (.bool B)∧IsFd w0 w' p a cap bs last s∧Keeps (fun b=>b=p) w w'
theorem fstreams_any (h:IsFd w0 w p a cap bs last s):Calls Tryz.prog 37 #[.pointer (some ⟨p,0,none⟩)] w (FsEnd w0 w p a cap bs last (zek bs last s).1 (zek bs last s).2):=by
 obtain ⟨at0,er0⟩:=s
 have HN:=Lib.hid (fun (W:World) (hb:Below w.heap.size w W)=>zel (h.bytes.mono hb) (by have:=h.small;omega) at0 last)
 have HS:=Lib.hid h
 have hpw:=h.lt
 unfold zek FsEnd
 by_cases he:er0=0
 case neg =>
   rw [if_pos he]
   obtain ⟨⟨c0,c1,c2,c3⟩,f0,f1,f2,f3⟩:=h.cells
   dsimp only at c1 c3
   have e1:(er0==0)=false:=by rw [beq_eq_false_iff_ne];exact he
   have e2:(er0 != 0)=true:=by simp only [bne,e1,Bool.not_false]
   clear HN h he
   go_enter Tryz.func37,Tryz.ntmps37
   go_wp2_with fail
   go_ret
   exact ⟨rfl,HS.out,Keeps.refl _ _⟩
 subst he
 rw [if_neg (by simp)]
 dsimp only
 generalize zae bs at0 last=V at *
 obtain ⟨x,f,t,er⟩:=V
 unfold zeT tokN at HN
 dsimp only at HN ⊢
 have q1:=zd6 x.s zck
 have q2:=zd6 x.s zcw
 obtain ⟨E,hE⟩:∃E,E=strE (x,f,t,er):=⟨_,rfl⟩
 obtain ⟨B,hB⟩:∃B,B=decide (E=0∧x.s=zcw):=⟨_,rfl⟩
 rw [←hE,←hB]
 have hc:((er==0)=false∧E=er∧B=false)∨(er=0∧(x.kind==0)=true∧E=10∧B=false)∨(er=0∧(x.kind==0)=false∧(x.kind==6)=false∧E=18∧B=false) ∨
     (er=0∧(x.kind==0)=false∧(x.kind==6)=true∧decide (x.s=zck)=true∧decide (x.s=zcw)=false∧E=0∧B=false) ∨
     (er=0∧(x.kind==0)=false∧(x.kind==6)=true∧decide (x.s=zck)=false∧decide (x.s=zcw)=true∧E=0∧B=true) ∨
     (er=0∧(x.kind==0)=false∧(x.kind==6)=true∧decide (x.s=zck)=false∧decide (x.s=zcw)=false∧E=18∧B=false):=by
   by_cases g1:er=0
   · have hE2 : E = strT x := by rw [hE]; unfold strE; rw [if_neg (by simp [g1])]
     unfold strT at hE2
     by_cases g2:x.kind=0
     · rw [if_pos g2] at hE2
       exact .inr (.inl ⟨g1,by rw [g2];rfl,hE2,by rw [hB,hE2];rfl⟩)
     · rw [if_neg g2] at hE2
       have k1:(x.kind==0)=false:=by rw [beq_eq_false_iff_ne];exact g2
       by_cases g3:x.kind=6
       · have k2 : (x.kind == 6) = true := by rw [g3]; rfl
         by_cases g4:x.s=zck
         · have g5 : ¬ x.s = zcw := by rw [g4]; decide
           rw [if_pos ⟨g3,.inl g4⟩] at hE2
           exact .inr (.inr (.inr (.inl ⟨g1,k1,k2,decide_eq_true g4,decide_eq_false g5,hE2,by rw [hB];exact decide_eq_false fun h=>g5 h.2⟩)))
         · by_cases g5:x.s=zcw
           · rw [if_pos ⟨g3,.inr g5⟩] at hE2
             exact .inr (.inr (.inr (.inr (.inl ⟨g1,k1,k2,decide_eq_false g4,decide_eq_true g5,hE2,by rw [hB];exact decide_eq_true ⟨hE2,g5⟩⟩))))
           · rw [if_neg (by rintro ⟨-, h | h⟩; exact g4 h; exact g5 h)] at hE2
             exact .inr (.inr (.inr (.inr (.inr ⟨g1,k1,k2,decide_eq_false g4,decide_eq_false g5,hE2,by rw [hB];exact decide_eq_false fun h=>g5 h.2⟩))))
       · rw [if_neg (fun h => g3 h.1)] at hE2
         exact .inr (.inr (.inl ⟨g1,k1,by rw [beq_eq_false_iff_ne];exact g3,hE2,by rw [hB,hE2];rfl⟩))
   · have k : E = er := by rw [hE]; unfold strE; rw [if_pos g1]
     exact .inl ⟨by rw [beq_eq_false_iff_ne];exact g1,k,by rw [hB];exact decide_eq_false fun h=>g1 (k▸h.1)⟩
 have HC:=Lib.hid hc
 have HQ1:=Lib.hid q1
 have HQ2:=Lib.hid q2
 clear hc hE hB h q1 q2
 unfold zck at HC HQ1
 unfold zcw at HC HQ2
 generalize decide (x.s=[101,110,100,111,98,106])=d1 at *
 generalize decide (x.s=[115,116,114,101,97,109])=d2 at *
 generalize x.kind=a0 at *
 generalize x.vk=a1 at *
 generalize x.vn=a2 at *
 generalize mkB x.vs=s1 at *
 generalize mkB x.s=s2 at *
 obtain ⟨⟨c0,c1,c2,c3⟩,f0,f1,f2,f3⟩:=HS.out.cells
 dsimp only at c1 c3
 have HA1:=Lib.hid (fun o:Obj=>(zah w o).drew)
 have HC0:Hid (S3 w p 0 (.slice a bs.length cap) p 1 (.int .i64 at0) p 2 (.bool last)):=Lib.hid ⟨c0,c1,c2⟩
 have hpr:p≠w.heap.size:=Nat.ne_of_lt hpw
 go_enter Tryz.func37,Tryz.ntmps37
 go_wp2_with fail
 go_region_held3 (fun w' => w'.cell? ⟨p, 0, none⟩ = some (.slice a bs.length cap) ∧ w'.cell? ⟨p, 1, none⟩ = some (.int .i64 at0) ∧ w'.cell? ⟨p, 2, none⟩ = some (.bool last))
   ((show S3 _ p 0 (.slice a bs.length cap) p 1 (.int .i64 at0) p 2 (.bool last);(first
     | (with_reducible exact HC0.out.drew)
     | (with_reducible exact HC0.out)
     | (with_reducible exact (HC0.out.alloc _).drew)
     | (with_reducible exact Hid.out (by assumption))
     | (with_reducible exact S3.alloc (Hid.out (by assumption)) _)
     | (with_reducible exact S3.set8 (Hid.out (by assumption)) hpr hpr hpr _ _ _ _ _ _ _ _))))
   ((go_at_call 56;first
     | ((with_reducible refine (HN.out _ (Below.refl _ _).drew).mono ?_);rintro e wN ⟨rfl,hbN⟩;have hbM:Below w.heap.size w wN:=(Below.refl _ _).drew.trans hbN;have HSN:=Lib.hid (HC0.out.below hbM))
     | ((with_reducible refine (HN.out _ (HA1.out _)).mono ?_);rintro e wN ⟨rfl,hbN⟩;have hbM:Below w.heap.size w wN:=(HA1.out _).trans (hbN.mono (HA1.out _).size);have HSN:=Lib.hid (HC0.out.below hbM);have HZ:=Lib.hid (zab hbN (zac (w:=w) (b:=w.heap.size) (.cells #[.int .i64 0,.int .i64 0,.int .i64 0,.int .i64 0,.int .i64 0,.string ⟨#[]⟩,.slice none 0 0,.string ⟨#[]⟩] 112) rfl));obtain ⟨⟨z0,z1,z2,z3,z4,z5,z6,z7⟩,y0,y1,y2,y3,y4,y5,y6,y7⟩:=zap HZ.out)))
 all_goals
   first
     | (obtain ⟨W2,hW2⟩:∃W2,W2=wN.alloc (.cells #[.int .i64 a0,.int .i64 f,.int .i64 t,.int .i64 a1,.int .i64 a2,.string s1,.slice none 0 0,.string s2] 112):=⟨_,rfl⟩
        rw [←hW2]
        have HT:=Lib.hid (show TkM w W2 wN.heap.size #[.int .i64 a0,.int .i64 f,.int .i64 t,.int .i64 a1,.int .i64 a2,.string s1,.slice none 0 0,.string s2] from ⟨by rw [hW2];exact hbM.alloc hbM.size _,by rw [hW2];exact zac _ rfl,hbM.size⟩)
        obtain ⟨r2,hr2⟩:∃r2,r2=wN.heap.size:=⟨_,rfl⟩
        rw [←hr2] at HT ⊢)
     | (obtain ⟨W2,hW2⟩:∃W2,W2=((((((((wN.setCell ⟨w.heap.size,0,none⟩ (.int .i64 a0)).setCell ⟨w.heap.size,1,none⟩ (.int .i64 f)).setCell ⟨w.heap.size,2,none⟩ (.int .i64 t)).setCell ⟨w.heap.size,3,none⟩ (.int .i64 a1)).setCell ⟨w.heap.size,4,none⟩ (.int .i64 a2)).setCell ⟨w.heap.size,5,none⟩ (.string s1)).setCell ⟨w.heap.size,6,none⟩ (.slice none 0 0)).setCell ⟨w.heap.size,7,none⟩ (.string s2)):=⟨_,rfl⟩
        rw [←hW2]
        have HT:=Lib.hid (show TkM w W2 w.heap.size #[.int .i64 a0,.int .i64 f,.int .i64 t,.int .i64 a1,.int .i64 a2,.string s1,.slice none 0 0,.string s2] from ⟨by rw [hW2];exact zbj hbM (Nat.le_refl _) _ _ _ _ _ _ _ _,by rw [hW2];exact set8 HZ.out _ _ _ _ _ _ _ _,Nat.le_refl _⟩)
        clear z0 z1 z2 z3 z4 z5 z6 z7 y0 y1 y2 y3 y4 y5 y6 y7 HZ
        obtain ⟨r2,hr2⟩:∃r2,r2=w.heap.size:=⟨_,rfl⟩
        rw [←hr2] at HT ⊢)
   clear hW2 hr2 hbN hbM HSN
   have HS2:=Lib.hid (HS.out.mono HT.out.bel)
   have hp2:p≠r2:=by have:=HT.out.new;omega
   clear c0 c1 c2 c3 f0 f1 f2 f3 hpr
   obtain ⟨⟨c0,c1,c2,c3⟩,f0,f1,f2,f3⟩:=HS2.out.cells
   dsimp only at c1 c3
   obtain ⟨⟨k0,k1,k2,k3,k4,k5,k6,k7⟩,m0,m1,m2,m3,m4,m5,m6,m7⟩:=zap HT.out.blk
   have HS3:=Lib.hid (HS2.out.set t er)
   have HK3:=Lib.hid (((zaq HT.out.bel:Keeps (fun b=>b=p) w W2).setCell (a:=⟨p,1,none⟩) (.inl rfl) (.int .i64 t)).setCell (a:=⟨p,3,none⟩) (.inl rfl) (.int .i64 er))
   clear HN HC0 HT HS2 HA1 HS hpw
   rcases HC.out with ⟨g1,rfl,rfl⟩|⟨rfl,g2,rfl,rfl⟩|⟨rfl,g2,g3,rfl,rfl⟩|⟨rfl,g2,g3,rfl,rfl,rfl,rfl⟩|⟨rfl,g2,g3,rfl,rfl,rfl,rfl⟩|⟨rfl,g2,g3,rfl,rfl,rfl,rfl⟩
   case inl =>
     have g4:(E != 0)=true:=by simp only [bne,g1,Bool.not_false]
     go_wp2_with fail
     go_ret
     exact ⟨rfl,HS3.out,HK3.out⟩
   case inr.inl =>
     go_wp2_with (go_at_call 57;refine (zgm HS3.out 10).mono ?_;rintro e w4 ⟨rfl,hs4,hk4⟩;have HS4:=Lib.hid hs4;have HK4:=Lib.hid (HK3.out.trans hk4 fun _ h=>.inl h);obtain ⟨⟨d0,d1,d2,d3⟩,-⟩:=hs4.cells;clear hs4 hk4 d0 d1 d2)
     go_ret
     exact ⟨rfl,HS4.out,HK4.out⟩
   case inr.inr.inl =>
     have g4:(a0 != 6)=true:=by simp only [bne,g3,Bool.not_false]
     go_wp2_with (go_at_call 57;refine (zgm HS3.out 18).mono ?_;rintro e w4 ⟨rfl,hs4,hk4⟩;have HS4:=Lib.hid hs4;have HK4:=Lib.hid (HK3.out.trans hk4 fun _ h=>.inl h);obtain ⟨⟨d0,d1,d2,d3⟩,-⟩:=hs4.cells;clear hs4 hk4 d0 d1 d2)
     go_ret
     exact ⟨rfl,HS4.out,HK4.out⟩
   case inr.inr.inr.inl =>
     have g4:(a0 != 6)=false:=by simp only [bne,g3,Bool.not_true]
     have g5:=HQ1.out
     have g6:(s2.toList != [101,110,100,111,98,106])=false:=by simp only [bne,g5,Bool.not_true]
     have g7:=HQ2.out
     go_wp2_with fail
     go_ret
     exact ⟨rfl,HS3.out,HK3.out⟩
   case inr.inr.inr.inr.inl =>
     have g4:(a0 != 6)=false:=by simp only [bne,g3,Bool.not_true]
     have g5:=HQ1.out
     have g6:(s2.toList != [101,110,100,111,98,106])=true:=by simp only [bne,g5,Bool.not_false]
     have g7:=HQ2.out
     have g8:(s2.toList != [115,116,114,101,97,109])=false:=by simp only [bne,g7,Bool.not_true]
     go_wp2_with fail
     go_ret
     exact ⟨rfl,HS3.out,HK3.out⟩
   case inr.inr.inr.inr.inr =>
     have g4:(a0 != 6)=false:=by simp only [bne,g3,Bool.not_true]
     have g5:=HQ1.out
     have g6:(s2.toList != [101,110,100,111,98,106])=true:=by simp only [bne,g5,Bool.not_false]
     have g7:=HQ2.out
     have g8:(s2.toList != [115,116,114,101,97,109])=true:=by simp only [bne,g7,Bool.not_false]
     go_wp2_with (go_at_call 57;refine (zgm HS3.out 18).mono ?_;rintro e w4 ⟨rfl,hs4,hk4⟩;have HS4:=Lib.hid hs4;have HK4:=Lib.hid (HK3.out.trans hk4 fun _ h=>.inl h);obtain ⟨⟨d0,d1,d2,d3⟩,-⟩:=hs4.cells;clear hs4 hk4 d0 d1 d2)
     go_ret
     exact ⟨rfl,HS4.out,HK4.out⟩
end
end Go.Proofs.YtkhcjoomijkfbaaGreatDoor
namespace Go.Proofs.YtkhcjoomijkfbaaGreatDoor
theorem two_le:∀l:List PV,2 * (twoV l).length≤l.length
 | []=>by simp [twoV]
 | [_]=>by simp [twoV]
 | a::b::l=>by have:=two_le l;simp only [twoV,List.length_cons];omega
theorem zfh:∀p:List (PV×PV),(zb5 p).length=2 * p.length
 | []=>rfl
 | (a,b)::l=>by have:=zfh l;simp only [zb5,List.length_cons];omega
theorem refV_l {bs:List UInt8} {last:Bool} {k:Int} {v:PV} (h:v.l=[]):(refV bs last k v).1.l=[]:=by
 unfold refV
 dsimp only
 split
 · exact h
 · split
   · exact h
   · split
     · exact h
     · rfl
theorem sing_l {bs:List UInt8} {last:Bool} {st:List Lv} {k:Int} {t:Tk}:(zao bs last st k t).1.l=[]:=by
 unfold zao
 split
 · rfl
 · split
   · split
     · rfl
     · rename_i v hw
       unfold zeM at hw
       split at hw
       · cases hw;rfl
       · split at hw
         · cases hw;rfl
         · split at hw
           · cases hw;rfl
           · cases hw
   · split
     · exact refV_l rfl
     · rfl
theorem end_len {st:List Lv} {d:Bool} {N:Int} (hN:0≤N) (h:∀v∈st,(v.l.length:Int)≤N):((zbr st d).1.l.length:Int)≤N:=by
 unfold zbr
 split
 · exact hN
 · rename_i v rest
   have hv:=h v List.mem_cons_self
   split
   · exact hN
   · split
     · exact hv
     · split
       · exact hN
       · rename_i l hp
         unfold zcJ at hp
         split at hp
         · cases hp
         · cases hp
           show ((zb5 (zd1 (twoV v.l))).length:Int)≤N
           rw [zfh,(zej (twoV v.l)).length_eq]
           have:=two_le v.l
           omega
theorem step_len {bs:List UInt8} {last:Bool} {st:List Lv} {k:Int} {t:Tk} {N:Int} (hN:0≤N) (h:∀v∈st,(v.l.length:Int)≤N) {x:PV} (hx:(zau bs last st k t).1=some x):(x.l.length:Int)≤N:=by
 unfold zau at hx
 split at hx
 · cases hx
 · split at hx
   · cases hx
   · split at hx
     · dsimp only at hx
       split at hx
       · cases hx
         exact end_len hN h
       · cases hx
     · dsimp only at hx
       split at hx
       · cases hx
       · split at hx
         · cases hx
         · cases hx
           rw [sing_l]
           exact hN
theorem zhv {bs:List UInt8} {last:Bool}:∀(g:Nat) (st:List Lv) (k:Int) (V:PV×Int×Int),0≤k→k≤bs.length→(∀v∈st,(v.l.length:Int)≤k)→valO bs last g st k=some V→(V.1.l.length:Int)≤bs.length
 | 0,_,_,_,_,_,_,h=>by cases h
 | g + 1, st, k, V, h, h2, hs, hV => by
   unfold valO at hV
   dsimp only at hV
   by_cases he:(zae bs k last).2.2.2≠0
   · rw [if_pos he] at hV
     cases hV
     show ((0:Nat):Int)≤_
     omega
   · rw [if_neg he] at hV
     have he0:(zae bs k last).2.2.2=0:=by simpa using he
     obtain ⟨g1,g2⟩:=zaR last h h2
     have hfar:=zcR h h2 he0
     generalize (zae bs k last).2.2.1=q at *
     generalize (zae bs k last).1=t at *
     obtain ⟨s1,s2⟩:=zht (bs:=bs) (last:=last) (k:=q) (by omega) g2 st t
     have sk:=zfa (bs:=bs) (last:=last) (k:=q) (st:=st) (t:=t)
     have sl:=stepV_len (bs:=bs) (last:=last) (k:=q) (t:=t) h hs
     have sx:=fun x=>step_len (bs:=bs) (last:=last) (k:=q) (t:=t) (x:=x) h hs
     generalize zau bs last st q t=Z at *
     obtain ⟨v,st2,at2,e2⟩:=Z
     dsimp only at s1 s2 sk sl sx hV
     by_cases h0:e2≠0
     · rw [if_pos h0] at hV
       cases hV
       show ((0:Nat):Int)≤_
       omega
     · rw [if_neg h0] at hV
       have hk:=hfar (sk (by simpa using h0))
       cases v with
       | none=>exact zhv g st2 at2 V (by omega) s2 (fun v hv=>by have:=sl v hv;omega) hV
       | some x =>
         have hxl:=sx x rfl
         cases st2 with
         | nil =>
           cases hV
           show (x.l.length:Int)≤_
           omega
         | cons top rest =>
           refine zhv g _ at2 V (by omega) s2 (fun v hv=>?_) hV
           rcases List.mem_cons.1 hv with rfl|hv
           · have:=sl top List.mem_cons_self
             show ((top.l++[x]).length:Int)≤at2
             rw [List.length_append]
             simp
             omega
           · have:=sl v (List.mem_cons_of_mem _ hv)
             omega
theorem frD_len (bs:List UInt8) (last:Bool):(frD bs last).1.l.length≤bs.length:=by
 have i0:InB bs.length ((0,0):Int×Int):=fun _=>⟨Int.le_refl _,by show (0:Int)≤_;omega⟩
 have iA:InB bs.length (frA bs last).2:=ze7 i0
 have iB:InB bs.length (frB bs last).2:=ze7 iA
 have iC:InB bs.length (frC bs last):=zfw iB
 unfold frD valS
 split
 · exact Nat.zero_le _
 · rename_i he
   obtain ⟨a,b⟩:=iC (by omega)
   have:=zhv _ _ _ _ a b (fun v hv=>by cases hv) (zcG (last:=last) a b)
   omega
end Go.Proofs.YtkhcjoomijkfbaaGreatDoor
namespace Go.Proofs.YtkhcjoomijkfbaaGreatDoor
open Go.RowKit
theorem zc4 {w:World} {b:Nat} {x0 x1 x2 x3 x4 x5:Value} {t:TypeId} (h:w.heap[b]?=some (.cells #[x0,x1,x2,x3,x4,x5] t (0,0))) :
   (w.cell? ⟨b,0,none⟩=some x0∧w.cell? ⟨b,1,none⟩=some x1∧w.cell? ⟨b,2,none⟩=some x2∧w.cell? ⟨b,3,none⟩=some x3∧w.cell? ⟨b,4,none⟩=some x4∧w.cell? ⟨b,5,none⟩=some x5) ∧
   (w.frozen? ⟨b,0,none⟩=false∧w.frozen? ⟨b,1,none⟩=false∧w.frozen? ⟨b,2,none⟩=false∧w.frozen? ⟨b,3,none⟩=false∧w.frozen? ⟨b,4,none⟩=false∧w.frozen? ⟨b,5,none⟩=false):=by
 refine ⟨⟨?_,?_,?_,?_,?_,?_⟩,frozen_of_row w b 0 _ _ h,frozen_of_row w b 1 _ _ h,frozen_of_row w b 2 _ _ h,frozen_of_row w b 3 _ _ h,frozen_of_row w b 4 _ _ h,frozen_of_row w b 5 _ _ h⟩
 all_goals (rw [cell_of_row w b _ _ _ _ h];rfl)
theorem set6 {w:World} {b:Nat} {x0 x1 x2 x3 x4 x5:Value} {t:TypeId} (h:w.heap[b]?=some (.cells #[x0,x1,x2,x3,x4,x5] t (0,0))) (y0 y1 y2 y3 y4 y5:Value) :
   ((((((w.setCell ⟨b,0,none⟩ y0).setCell ⟨b,1,none⟩ y1).setCell ⟨b,2,none⟩ y2).setCell ⟨b,3,none⟩ y3).setCell ⟨b,4,none⟩ y4).setCell ⟨b,5,none⟩ y5).heap[b]?=some (.cells #[y0,y1,y2,y3,y4,y5] t (0,0)):=by
 rw [heap_setCell_same _ _ 5 _ _ _ (heap_setCell_same _ _ 4 _ _ _ (heap_setCell_same _ _ 3 _ _ _ (heap_setCell_same _ _ 2 _ _ _ (heap_setCell_same _ _ 1 _ _ _ (heap_setCell_same w _ 0 _ _ _ h)))))];rfl
theorem zdm {W:World} {b r:Nat} (hb:b≠r) (y0 y1 y2 y3 y4 y5:Value) :
   ((((((W.setCell ⟨r,0,none⟩ y0).setCell ⟨r,1,none⟩ y1).setCell ⟨r,2,none⟩ y2).setCell ⟨r,3,none⟩ y3).setCell ⟨r,4,none⟩ y4).setCell ⟨r,5,none⟩ y5).heap[b]?=W.heap[b]?:=by
 rw [heap_setCell_other _ _ _ _ hb,heap_setCell_other _ _ _ _ hb,za7 hb]
theorem zeN {B:Nat} {w0 w:World} (h:Below B w0 w) {b:Nat} (hb:B≤b) (y0 y1 y2 y3 y4 y5:Value) :
   Below B w0 ((((((w.setCell ⟨b,0,none⟩ y0).setCell ⟨b,1,none⟩ y1).setCell ⟨b,2,none⟩ y2).setCell ⟨b,3,none⟩ y3).setCell ⟨b,4,none⟩ y4).setCell ⟨b,5,none⟩ y5) :=
 ((zai h hb y0 y1 y2 y3).setCell hb _).setCell hb _
theorem size_set6 (W:World) (r:Nat) (y0 y1 y2 y3 y4 y5:Value):((((((W.setCell ⟨r,0,none⟩ y0).setCell ⟨r,1,none⟩ y1).setCell ⟨r,2,none⟩ y2).setCell ⟨r,3,none⟩ y3).setCell ⟨r,4,none⟩ y4).setCell ⟨r,5,none⟩ y5).heap.size=W.heap.size:=by simp
def obC (v:PV) (sl:Value) (st:Bool) (d:ByteArray):Array Value:=#[.int .i64 v.kind,.int .i64 v.n,.string (mkB v.s),sl,.bool st,.string d]
theorem object_any (v : PV) (sl : Value) (w : World) (hs : ∃ a n c, sl = .slice a n c) : Calls Tryz.prog 35 #[pvA v sl] w fun e w' => e = .returned (.agg (obC v sl false ⟨#[]⟩)) ∧ Below w.heap.size w w' := by
 obtain ⟨a,n,c,rfl⟩:=hs
 have HB:=Lib.hid ((zah w (.cells #[.int .i64 v.kind,.int .i64 v.n,.string (mkB v.s),.slice a n c] 48)).alloc (by rw [zal];omega) (.cells #[.int .i64 v.kind,.int .i64 v.n,.string (mkB v.s),.slice a n c,.bool false,.string ⟨#[]⟩] 56))
 have HK:=Lib.hid (zac (w:=w.alloc (.cells #[.int .i64 v.kind,.int .i64 v.n,.string (mkB v.s),.slice a n c] 48)) (b:=w.heap.size+1) (.cells #[.int .i64 v.kind,.int .i64 v.n,.string (mkB v.s),.slice a n c,.bool false,.string ⟨#[]⟩] 56) (by rw [zal]))
 unfold pvA obC
 generalize v.kind=k at *
 generalize v.n=m at *
 generalize mkB v.s=s at *
 go_enter Tryz.func35,Tryz.ntmps35
 go_wp2
 refine bodyPost_ret (results_cell_row rfl _ _ (w.heap.size+1) 56 _ (0,0) _ rfl (by exact HK.out) Tryz.underlying56 rfl (by kernel_rfl)) rfl ?_
 exact ⟨rfl,HB.out⟩
def StEnd (w0 w:World) (p:Nat) (a:Option Addr) (cap:Nat) (bs:List UInt8) (last:Bool) (F:Nat→Prop) (v:PV) (at_:Int) (e:Ending) (w':World):Prop :=
 ∃ (v2 : PV) (sl2 : Value) (d : ByteArray) (at2 er : Int), e = .returned (.agg (obC v2 sl2 true d)) ∧ IsV w' (fun b => F b ∨ w.heap.size ≤ b) v2 sl2 ∧ (v2.kind = 7 → v2.l.length % 2 = 0) ∧ IsFd w0 w' p a cap bs last (at2, er) ∧ Keeps (fun b => b = p) w w' ∧
   ((zfc bs last v at_).2≠0→er=(zfc bs last v at_).2)∧((zfc bs last v at_).2=0→er=0∨er=18)
def StreamC (a:Option Addr) (cap:Nat) (bs:List UInt8) (last:Bool):Prop :=
 ∀(w0 w:World) (p:Nat) (at_:Int) (v:PV) (sl:Value) (F:Nat→Prop),IsFd w0 w p a cap bs last (at_,0)→0≤at_→at_≤bs.length→IsV w F v sl→¬F p→(v.kind=7→v.l.length % 2=0)→v.l.length≤bs.length →
   Calls Tryz.prog 38 #[.pointer (some ⟨p,0,none⟩),pvA v sl] w (StEnd w0 w p a cap bs last F v at_)
def zfv (w:World) (R:Int×Bool) (V:PV) (e:Ending) (w':World):Prop :=
 ∃(v:PV) (sl:Value) (st:Bool) (d:ByteArray) (n at_ er:Int),e=.returned (.tuple #[.int .i64 n,.agg (obC v sl st d),.int .i64 at_,.int .i64 er]) ∧
   IsV w' anyF v sl∧(v.kind=7→v.l.length % 2=0)∧Below w.heap.size w w' ∧
   (er=6↔R.1=6)∧(R=(0,false)→er=0∧st=false∧v=V)∧(R.1≠0∨R.2=true→er≠0∨st=true)
theorem zfv.bad {w w':World} {R:Int×Bool} {V:PV} {er:Int} (hb:Below w.heap.size w w') (h0:er≠0) (h6:er=6↔R.1=6) (hR:R.1≠0∨R.2=true):zfv w R V (.returned (.tuple #[.int .i64 0,.agg (obC PV.none (.slice none 0 0) false ⟨#[]⟩),.int .i64 0,.int .i64 er])) w' :=
 ⟨_,_,_,_,_,_,_,rfl,IsV.leaf _ _ _ rfl,fun h=>absurd h (by show ¬(0:Int)=7;omega),hb,h6,fun h=>(by subst h;rcases hR with h|h;exact absurd rfl h;cases h),fun _=>.inl h0⟩
theorem zdq {P:Program} {fn:Func} {p u z y:Tmp} {ty:TypeId} (h:fn.results=#[.tmp y,.cell p ty,.tmp u,.tmp z]) (tmps:Array Value) (w:World) (g:Nat) (t:TypeId) (cs:Array Value) (fr:Nat×Nat) (d:TypeDesc)
   (hp:tmps.getD p undef=.pointer (some ⟨g,0,none⟩)) (hg:w.heap[g]?=some (.cells cs t fr))
   (hu:P.underlying ty=some d) (hd:(match d with | .struct _ | .array _ _=>true|_=>false)=true) (hi:(P.info? ty).map (·.size)=some cs.size) (v v2 v3:Value) (hy:tmps.getD y undef=v3) (hv:tmps.getD u undef=v) (hv2:tmps.getD z undef=v2) :
   (results fn tmps).run P w=.ok (.tuple #[v3,.agg cs,v,v2]) w:=by
 simp only [Array.getD_eq_getD_getElem?] at hp hv hv2 hy
 simp [results,h,hp,hv,hv2,hy,asAddr,Result.andThen,run_loadVar_row w g t ty cs fr d hg hu hd hi]
structure FpM (w W:World) (q p:Nat) (a:Option Addr) (cap:Nat) (bs:List UInt8) (last:Bool) (s:Int×Int):Prop where
 fd:IsFd w W p a cap bs last s
 blk:W.heap[q]?=some (.cells #[.int .i64 0,.int .i64 0,.string ⟨#[]⟩,.slice none 0 0,.bool false,.string ⟨#[]⟩] 56 (0,0))
 new:w.heap.size≤q
 ne:q≠p
theorem FpM.next {w W W' : World} {q p : Nat} {a : Option Addr} {cap : Nat} {bs : List UInt8} {last : Bool} {s s' : Int × Int} (h : FpM w W q p a cap bs last s) (hf : IsFd w W' p a cap bs last s') (hk : Keeps (fun b => b = p) W W') : FpM w W' q p a cap bs last s' :=
 ⟨hf,(hk.block q (zag h.blk) h.ne).trans h.blk,h.new,h.ne⟩
theorem FpM.mono {w W W':World} {q p:Nat} {a:Option Addr} {cap:Nat} {bs:List UInt8} {last:Bool} {s:Int×Int} (h:FpM w W q p a cap bs last s) (hb:Below W.heap.size W W'):FpM w W' q p a cap bs last s :=
 ⟨h.fd.mono hb,zab hb h.blk,h.new,h.ne⟩
theorem FpM.start {w:World} {a:Option Addr} {cap:Nat} {bs:List UInt8} {last:Bool} (hr:Row w 1 a bs.length cap (bs.map u8C)) (hn:bs.length≤399999) :
   FpM w ((w.alloc (.cells #[.int .i64 0,.int .i64 0,.string ⟨#[]⟩,.slice none 0 0,.bool false,.string ⟨#[]⟩] 56)).alloc (.cells #[.slice a bs.length cap,.int .i64 0,.bool last,.int .i64 0] 77)) w.heap.size (w.heap.size+1) a cap bs last (0,0) :=
 ⟨⟨zac _ (by rw [zal]),by omega,hr,(zah w _).alloc (by rw [zal];omega) _,hn⟩,zak _ (zac _ rfl),Nat.le_refl _,by omega⟩
theorem fd_drew {W:World} {q:Nat} {o:Obj} (h:W.heap[q]?=some o):W.drew.heap[q]?=some o:=h
def putO (W:World) (q:Nat) (y0 y1 y2 y3 y4 y5:Value):World:=(((((W.setCell ⟨q,0,none⟩ y0).setCell ⟨q,1,none⟩ y1).setCell ⟨q,2,none⟩ y2).setCell ⟨q,3,none⟩ y3).setCell ⟨q,4,none⟩ y4).setCell ⟨q,5,none⟩ y5
theorem FpM.put {w W:World} {q p:Nat} {a:Option Addr} {cap:Nat} {bs:List UInt8} {last:Bool} {s:Int×Int} (h:FpM w W q p a cap bs last s) (y0 y1 y2 y3 y4 y5:Value) :
   (putO W q y0 y1 y2 y3 y4 y5).drew.heap[q]?=some (.cells #[y0,y1,y2,y3,y4,y5] 56 (0,0))∧Below w.heap.size w (putO W q y0 y1 y2 y3 y4 y5).drew :=
 ⟨fd_drew (set6 h.blk y0 y1 y2 y3 y4 y5),(zeN h.fd.bel h.new y0 y1 y2 y3 y4 y5).drew⟩
theorem put_stays {W:World} {q:Nat} {F:Nat→Prop} (hF:∀b,F b→b≠q) (y0 y1 y2 y3 y4 y5:Value):zaU F W (putO W q y0 y1 y2 y3 y4 y5) :=
 ⟨Nat.le_of_eq (size_set6 W q y0 y1 y2 y3 y4 y5).symm,fun b _ hb=>zdm (hF b hb) y0 y1 y2 y3 y4 y5⟩
theorem zho {W:World} {q:Nat} {F:Nat→Prop} {v:PV} {sl:Value} (h:IsV W F v sl) (hF:∀b,F b→b≠q) (y0 y1 y2 y3 y4 y5:Value):IsV (putO W q y0 y1 y2 y3 y4 y5) F v sl :=
 IsV.keep (put_stays hF y0 y1 y2 y3 y4 y5) (fun _ h=>h) v h
theorem put_val {W:World} {q:Nat} {F:Nat→Prop} {v:PV} {sl:Value} (h:IsV W F v sl) (hF:∀b,F b→b≠q) (y0 y1 y2 y3 y4 y5:Value):IsV (putO W q y0 y1 y2 y3 y4 y5).drew anyF v sl :=
 ((zho h hF y0 y1 y2 y3 y4 y5).below (Below.refl _ _).drew).weaken fun _ _=>trivial
theorem FpM.other {w W:World} {q p:Nat} {a:Option Addr} {cap:Nat} {bs:List UInt8} {last:Bool} {s:Int×Int} (h:FpM w W q p a cap bs last s) {o:Nat} (hp:o≠p) (hq:o≠q) (ho:w.heap.size≤o) (y0 y1 y2 y3 y4 y5:Value) :
   FpM w (putO W o y0 y1 y2 y3 y4 y5) q p a cap bs last s :=
 ⟨⟨(zdm (Ne.symm hp) y0 y1 y2 y3 y4 y5).trans h.fd.blk,h.fd.new,h.fd.row,zeN h.fd.bel ho y0 y1 y2 y3 y4 y5,h.fd.small⟩,(zdm (Ne.symm hq) y0 y1 y2 y3 y4 y5).trans h.blk,h.new,h.ne⟩
mutual
theorem IsV.under {w : World} {F : Nat → Prop} : ∀ (v : PV) {sl : Value}, IsV w F v sl → IsV w (fun b => F b ∧ b < w.heap.size) v sl
 | .mk _ _ _ l, _, ⟨a, cap, cs, h, hr, hF, hs⟩ => ⟨a, cap, cs, h, hr, fun h0 x hx => ⟨hF h0 x hx, by
     obtain ⟨b,off,e,hlt,-⟩:=hr.2.2.2.2 h0
     rw [hx] at e
     cases e
     exact hlt⟩,IsVs.under l hs⟩
theorem IsVs.under {w : World} {F : Nat → Prop} : ∀ (l : List PV) {cs : List Value}, IsVs w F l cs → IsVs w (fun b => F b ∧ b < w.heap.size) l cs
 | [],_,h=>h
 | v::l,_,⟨sl,t,h,hv,ht⟩=>⟨sl,t,h,IsV.under v hv,IsVs.under l ht⟩
end
theorem zfv.good {w w':World} {R:Int×Bool} {v:PV} {sl:Value} (hb:Below w.heap.size w w') (hx:IsV w' anyF v sl) (hev:v.kind=7→v.l.length % 2=0) (hR:R=(0,false)) (n at_:Int) :
   zfv w R v (.returned (.tuple #[.int .i64 n,.agg (obC v sl false ⟨#[]⟩),.int .i64 at_,.int .i64 0])) w' :=
 ⟨v,sl,false,⟨#[]⟩,n,at_,0,rfl,hx,hev,hb,by rw [hR],fun _=>⟨rfl,rfl,rfl⟩,fun h=>by rw [hR] at h;rcases h with h|h;exact absurd rfl h;cases h⟩
theorem zfv.stm {w w':World} {R:Int×Bool} {V v:PV} {sl:Value} {d:ByteArray} {E:Int} (hb:Below w.heap.size w w') (hx:IsV w' anyF v sl) (hev:v.kind=7→v.l.length % 2=0) (hR:R=(E,true)) (h0:¬E=6) (n at_:Int) :
   zfv w R V (.returned (.tuple #[.int .i64 n,.agg (obC v sl true d),.int .i64 at_,.int .i64 0])) w' :=
 ⟨v,sl,true,d,n,at_,0,rfl,hx,hev,hb,(by rw [hR];exact ⟨fun h=>(by omega),fun h=>absurd h h0⟩),fun h=>(by rw [hR] at h;cases h),fun _=>.inr rfl⟩
theorem fparse_any {w:World} {a:Option Addr} {cap:Nat} {bs:List UInt8} {last:Bool} (hr:Row w 1 a bs.length cap (bs.map u8C)) (hn:bs.length≤399999) (HST:(frE bs last).1=true→StreamC a cap bs last) :
   Calls Tryz.prog 21 #[.slice a bs.length cap,.int .i64 0,.bool last] w (zfv w (frR bs last) (frD bs last).1):=by
 have HM:=Lib.hid (FpM.start (last:=last) hr hn)
 have i0:InB bs.length ((0,0):Int×Int):=fun _=>⟨Int.le_refl _,by show (0:Int)≤_;omega⟩
 have iA:InB bs.length (frA bs last).2:=ze7 i0
 have iB:InB bs.length (frB bs last).2:=ze7 iA
 have iC:InB bs.length (frC bs last):=zfw iB
 have iD:=valS_in (last:=last) iC
 have iE:=strmS_in (last:=last) iD.1
 have iD2:(frD bs last).1.kind=7→(frD bs last).1.l.length % 2=0:=iD.2
 have iE2:InB bs.length (frE bs last).2∧((frE bs last).1=true→(frE bs last).2.2=0):=iE
 have hA:numS bs last 1 4096 (0,0)=frA bs last:=rfl
 have hB:numS bs last 0 0 (frA bs last).2=frB bs last:=rfl
 have hC:zbV bs last kObj (frB bs last).2=frC bs last:=rfl
 have hD:valS bs last (frC bs last)=frD bs last:=rfl
 have hE:zek bs last (frD bs last).2=frE bs last:=rfl
 have hRR:frR bs last=if (frE bs last).1=true then ((zfc bs last (frD bs last).1 (frE bs last).2.1).2,true) else ((frE bs last).2.2,false):=rfl
 have HA:=Lib.hid hA
 have HB:=Lib.hid hB
 have HC:=Lib.hid hC
 have HD:=Lib.hid hD
 have HE:=Lib.hid hE
 have HR:=Lib.hid hRR
 have HIC:=Lib.hid iC
 have HID:=Lib.hid iD2
 have HIE:=Lib.hid iE2
 have HSS:=Lib.hid HST
 have HLD:=Lib.hid (frD_len bs last)
 clear hA hB hC hD hE hRR hr hn i0 iA iB iC iD iE iD2 iE2 HST
 generalize frR bs last=R at *
 generalize frA bs last=SA at *
 generalize frB bs last=SB at *
 generalize frC bs last=SC at *
 generalize frD bs last=SD at *
 generalize frE bs last=SE at *
 go_enter Tryz.func21,Tryz.ntmps21
 go_upto_region 2 with fail
 obtain ⟨p,hp⟩:∃p,p=w.heap.size+1:=⟨_,rfl⟩
 rw [←hp] at HM ⊢
 obtain ⟨q,hq⟩:∃q,q=w.heap.size:=⟨_,rfl⟩
 rw [←hq] at HM ⊢
 clear hp hq
 generalize (w.alloc _).alloc _=W0 at *
 go_wp2_with fail
 refine (zgk HM.out.fd 1 4096).mono ?_
 rintro e w1 ⟨rfl,f1,k1⟩
 rw [HA.out] at f1
 rw [HA.out]
 have HM1:=Lib.hid (HM.out.next f1 k1)
 clear f1 k1 HM HA
 go_wp2_with fail
 refine (zgk HM1.out.fd 0 0).mono ?_
 rintro e w2 ⟨rfl,f2,k2⟩
 rw [HB.out] at f2
 have HM2:=Lib.hid (HM1.out.next f2 k2)
 clear f2 k2 HM1
 go_wp2_with fail
 refine (zf9 HM2.out.fd kObj).mono ?_
 rintro e w3 ⟨rfl,f3,k3⟩
 rw [HC.out] at f3
 have HM3:=Lib.hid (HM2.out.next f3 k3)
 clear f3 k3 HM2 HB HC
 go_wp2_with fail
 refine (fvalue_any HM3.out.fd HIC.out).mono ?_
 rintro e w4 hv
 rw [HD.out] at hv
 obtain ⟨sl,rfl,hx,f4,k4⟩:=hv
 have HM4:=Lib.hid (HM3.out.next f4 k4)
 have HX4:=Lib.hid (IsV.under _ hx)
 have HP3:=Lib.hid HM3.out.fd.lt
 have HQ3:=Lib.hid (zag HM3.out.blk)
 obtain ⟨sa,sc,rfl,-,-,-⟩:=hx.len
 clear f4 k4 HM3 HIC HD hx
 go_wp2_with fail
 refine (object_any SD.1 (.slice sa SD.1.l.length sc) w4 ⟨_,_,_,rfl⟩).mono ?_
 rintro e w5 ⟨rfl,b5⟩
 have b6:=b5.alloc b5.size (.cells (obC SD.1 (.slice sa SD.1.l.length sc) false ⟨#[]⟩) 56)
 have HO6:=Lib.hid (zac (w:=w5) (b:=w5.heap.size) (.cells (obC SD.1 (.slice sa SD.1.l.length sc) false ⟨#[]⟩) 56) rfl)
 have HM6:=Lib.hid (HM4.out.mono b6)
 have HX6:=Lib.hid (show IsV _ (fun b=>w3.heap.size≤b∧b<w5.heap.size) SD.1 (.slice sa SD.1.l.length sc) from (HX4.out.below b6).weaken fun b hb=>⟨hb.1,Nat.lt_of_lt_of_le hb.2 b5.size⟩)
 have HN6:=Lib.hid (Nat.lt_of_lt_of_le HM4.out.fd.lt b5.size)
 have HN7:=Lib.hid (Nat.lt_of_lt_of_le (zag HM4.out.blk) b5.size)
 clear b5 b6 HM4 HX4
 unfold obC at HO6 HM6 HX6 ⊢
 go_upto_region 6 with fail
 obtain ⟨o,ho⟩:∃o,o=w5.heap.size:=⟨_,rfl⟩
 rw [←ho] at HO6 HN6 HN7 HX6 ⊢
 clear ho
 generalize w5.alloc _=W6 at *
 go_wp2_with fail
 refine (fstreams_any HM6.out.fd).mono ?_
 rintro e w7 ⟨rfl,f7,k7⟩
 rw [HE.out] at f7
 rw [HE.out]
 have hop:o≠p:=Nat.ne_of_gt HN6.out
 have hoq:o≠q:=Nat.ne_of_gt HN7.out
 have HM7:=Lib.hid (HM6.out.next f7 k7)
 have HO7:=Lib.hid ((k7.block o (zag HO6.out) hop).trans HO6.out)
 have HX7:=Lib.hid (IsV.keep (zaU.of_keeps (F:=fun b=>w3.heap.size≤b∧b<o) k7 (fun b hb e=>by have h1:w3.heap.size≤b:=hb.1;have h2:=HP3.out;have h3:b=p:=e;omega)) (fun _ h=>h) _ HX6.out)
 clear f7 k7 HM6 HO6 HX6 HE
 obtain ⟨b7,at7,e7⟩:=SE
 dsimp only at *
 cases b7 with
 | true =>
   obtain rfl:e7=0:=HIE.out.2 rfl
   obtain ⟨i1,i2⟩:=HIE.out.1 rfl
   have HST:=Lib.hid (HSS.out rfl w w7 p at7 SD.1 (.slice sa SD.1.l.length sc) (fun b=>w3.heap.size≤b∧b<o) HM7.out.fd i1 i2 HX7.out (fun h=>by have:=HP3.out;have h2:=h.1;omega) HID.out HLD.out)
   have HRR:=Lib.hid (HR.out.trans (if_pos rfl))
   clear HR HSS HIE i1 i2 HID HX7
   unfold StEnd at HST
   generalize (zfc bs last SD.1 at7).2=E at *
   obtain ⟨⟨o0,o1,o2,o3,o4,o5⟩,g0,g1,g2,g3,g4,g5⟩:=zc4 HO7.out
   unfold pvA at HST
   have HQ7:=Lib.hid (zag HM7.out.blk)
   have HO77:=Lib.hid (zag HO7.out)
   generalize SD.1.kind=xk at *
   generalize SD.1.n=xn at *
   generalize mkB SD.1.s=xs at *
   generalize SD.1.l.length=xl at *
   go_wp2_with fail
   refine HST.out.mono ?_
   rintro e w8 ⟨v2,sl2,d2,at8,e8,rfl,hx8,hev8,f8,k8,hE1,hE2⟩
   obtain ⟨ta,tc,rfl,-,-,-⟩:=hx8.len
   have HM8:=Lib.hid (HM7.out.next f8 k8)
   have HO8:=Lib.hid ((k8.block o (zag HO7.out) hop).trans HO7.out)
   have HE1:=Lib.hid hE1
   have HE2:=Lib.hid hE2
   have HEV:=Lib.hid hev8
   have HOW:=Lib.hid (show w.heap.size≤o from Nat.le_trans HM7.out.new (by have:=HN7.out;omega))
   have HM9:=Lib.hid (HM8.out.other hop hoq HOW.out (.int .i64 v2.kind) (.int .i64 v2.n) (.string (mkB v2.s)) (.slice ta v2.l.length tc) (.bool true) (.string d2))
   have HO9:=Lib.hid (show (putO w8 o (.int .i64 v2.kind) (.int .i64 v2.n) (.string (mkB v2.s)) (.slice ta v2.l.length tc) (.bool true) (.string d2)).heap[o]?=_ from set6 HO8.out _ _ _ _ _ _)
   have HX9:=Lib.hid (zho hx8 (q:=o) (fun b hb=>by have h1:=HO77.out;rcases hb with h|h;(have:=h.2;omega);(have h3:w7.heap.size≤b:=h;omega)) (.int .i64 v2.kind) (.int .i64 v2.n) (.string (mkB v2.s)) (.slice ta v2.l.length tc) (.bool true) (.string d2))
   clear o0 o1 o2 o3 o4 o5 g0 g1 g2 g3 g4 g5 hx8 hev8 f8 k8 hE1 hE2 HST HM7 HO7
   obtain ⟨⟨o0,o1,o2,o3,o4,o5⟩,g0,g1,g2,g3,g4,g5⟩:=zc4 HO8.out
   unfold obC
   clear HO8 HM8
   go_upto_region 8 with fail
   unfold putO at HM9 HO9 HX9
   generalize World.setCell _ _ _=W9 at *
   clear o0 o1 o2 o3 o4 o5 g0 g1 g2 g3 g4 g5
   obtain ⟨⟨c0,c1,c2,c3⟩,f0,f1,f2,f3⟩:=HM9.out.fd.cells
   obtain ⟨⟨o0,o1,o2,o3,o4,o5⟩,-⟩:=zc4 HO9.out
   obtain ⟨⟨z0,z1,z2,z3,z4,z5⟩,g0,g1,g2,g3,g4,g5⟩:=zc4 HM9.out.blk
   dsimp only at c1 c3
   have hqp:=HM9.out.ne
   by_cases he:e8=0
   · subst he
     have hE0:¬E=6:=fun h=>by have:=HE1.out (by omega);omega
     have HZ:=Lib.hid (HM9.out.put (.int .i64 v2.kind) (.int .i64 v2.n) (.string (mkB v2.s)) (.slice ta v2.l.length tc) (.bool true) (.string d2))
     have hxz:=put_val (q:=q) HX9.out (fun b hb=>by have h1:=HQ3.out;have h4:=HQ7.out;rcases hb with h|h;(have:=h.1;omega);(have h3:w7.heap.size≤b:=h;omega)) (.int .i64 v2.kind) (.int .i64 v2.n) (.string (mkB v2.s)) (.slice ta v2.l.length tc) (.bool true) (.string d2)
     have HFin:=Lib.hid (zfv.stm (R:=R) (V:=SD.1) (d:=d2) HZ.out.2 hxz HEV.out HRR.out hE0)
     unfold obC at HFin
     unfold putO at HZ HFin
     clear HO9 HX9 HM9 HRR HP3 HN6 HN7 hop hoq HQ3 hxz HE1 HE2 HEV HOW HQ7 HO77 hE0
     generalize v2.kind=yk at *
     generalize v2.n=yn at *
     generalize mkB v2.s=ys at *
     generalize v2.l.length=yl at *
     go_wp2_with fail
     go_region
     all_goals
       go_wp2_with fail
       refine bodyPost_ret (zdq rfl _ _ q 56 _ (0,0) _ rfl HZ.out.1 Tryz.underlying56 rfl (by kernel_rfl) _ _ _ rfl rfl rfl) rfl ?_
       exact HFin.out _ _
   · have e1 : (e8 == 0) = false := by rw [beq_eq_false_iff_ne]; exact he
     have e2:(e8 != 0)=true:=by simp only [bne,e1,Bool.not_false]
     have hE0:e8=6↔E=6:=by
       by_cases h:E=0
       · have:=HE2.out h
         omega
       · rw [HE1.out h]
     have HZ:=Lib.hid (HM9.out.put (.int .i64 0) (.int .i64 0) (.string ⟨#[]⟩) (.slice none 0 0) (.bool false) (.string ⟨#[]⟩))
     have HFin:=Lib.hid (zfv.bad (V:=SD.1) (R:=R) HZ.out.2 he (by rw [HRR.out];exact hE0) (by rw [HRR.out];exact .inr rfl))
     unfold obC at HFin
     unfold putO at HZ HFin
     clear HO9 HX9 HM9 HRR HP3 HN6 HN7 hop hoq HQ3 HE1 HE2 HEV HOW HQ7 HO77 hE0 o0 o1 o2 o3 o4 o5 he
     go_wp2_with fail
     go_region
     all_goals
       go_wp2_with fail
       refine bodyPost_ret (zdq rfl _ _ q 56 _ (0,0) _ rfl HZ.out.1 Tryz.underlying56 rfl (by kernel_rfl) _ _ _ rfl rfl rfl) rfl ?_
       exact HFin.out
 | false =>
   have HRR:=Lib.hid (HR.out.trans (if_neg (by simp)))
   clear HR HSS HIE
   obtain ⟨⟨c0,c1,c2,c3⟩,f0,f1,f2,f3⟩:=HM7.out.fd.cells
   obtain ⟨⟨o0,o1,o2,o3,o4,o5⟩,-⟩:=zc4 HO7.out
   obtain ⟨⟨z0,z1,z2,z3,z4,z5⟩,g0,g1,g2,g3,g4,g5⟩:=zc4 HM7.out.blk
   dsimp only at c1 c3
   have hqp:=HM7.out.ne
   by_cases he:e7=0
   · subst he
     have HZ:=Lib.hid (HM7.out.put (.int .i64 SD.1.kind) (.int .i64 SD.1.n) (.string (mkB SD.1.s)) (.slice sa SD.1.l.length sc) (.bool false) (.string ⟨#[]⟩))
     have hxz:=put_val (q:=q) HX7.out (fun b hb=>by have h1:w3.heap.size≤b:=hb.1;have h2:=HQ3.out;omega) (.int .i64 SD.1.kind) (.int .i64 SD.1.n) (.string (mkB SD.1.s)) (.slice sa SD.1.l.length sc) (.bool false) (.string ⟨#[]⟩)
     have HFin:=Lib.hid (zfv.good (R:=R) HZ.out.2 hxz HID.out HRR.out)
     unfold obC at HFin
     unfold putO at HZ HFin
     clear HO7 HX7 HM7 HRR HP3 HID HN6 HN7 hop hoq HQ3 hxz
     generalize SD.1.kind=xk at *
     generalize SD.1.n=xn at *
     generalize mkB SD.1.s=xs at *
     generalize SD.1.l.length=xl at *
     go_wp2_with fail
     go_region
     all_goals
       go_wp2_with fail
       refine bodyPost_ret (zdq rfl _ _ q 56 _ (0,0) _ rfl HZ.out.1 Tryz.underlying56 rfl (by kernel_rfl) _ _ _ rfl rfl rfl) rfl ?_
       exact HFin.out _ _
   · have e1 : (e7 == 0) = false := by rw [beq_eq_false_iff_ne]; exact he
     have e2:(e7 != 0)=true:=by simp only [bne,e1,Bool.not_false]
     have HZ:=Lib.hid (HM7.out.put (.int .i64 0) (.int .i64 0) (.string ⟨#[]⟩) (.slice none 0 0) (.bool false) (.string ⟨#[]⟩))
     have HFin:=Lib.hid (zfv.bad (V:=SD.1) (R:=R) HZ.out.2 he (by rw [HRR.out]) (by rw [HRR.out];exact .inl he))
     unfold obC at HFin
     unfold putO at HZ HFin
     clear HO7 HX7 HM7 HRR HP3 HID HN6 HN7 hop hoq HQ3 o0 o1 o2 o3 o4 o5 he
     go_wp2_with fail
     go_region
     all_goals
       go_wp2_with fail
       refine bodyPost_ret (zdq rfl _ _ q 56 _ (0,0) _ rfl HZ.out.1 Tryz.underlying56 rfl (by kernel_rfl) _ _ _ rfl rfl rfl) rfl ?_
       exact HFin.out
def zc6 (w:World) (R:LinD×Bool) (e:Ending) (w':World):Prop:=e=.returned (.tuple #[linA R.1,.bool R.2])∧Below w.heap.size w w'
def xsA (v:PV) (k:Nat):Array Value:=#[.int .i64 (if 0<k then intN v kL else 0),.int .i64 (if 1<k then intN v kO else 0),.int .i64 (if 2<k then intN v kE else 0),.int .i64 (if 3<k then intN v kN else 0),.int .i64 (if 4<k then intN v kT else 0)]
def keyL:Nat→List UInt8|0=>kL|1=>kO|2=>kE|3=>kN|_=>kT
structure OfM (w W:World) (F:Nat→Prop) (v:PV) (sl:Value) (st:Bool) (d:ByteArray) (r q x:Nat) (k:Nat):Prop where
 bel:Below w.heap.size w W
 val:IsV W F v sl
 obj:W.heap[r]?=some (.cells (obC v sl st d) 56 (0,0))
 res:W.heap[q]?=some (.cells #[.int .i64 0,.int .i64 0,.int .i64 0,.int .i64 0,.int .i64 0,.int .i64 0,.int .i64 0] 23 (0,0))
 row:W.heap[x]?=some (.cells (xsA v k) 53 (0,0))
 nr:w.heap.size≤q
 nx:w.heap.size≤x
 rx:r≠x
 qx:q≠x
 okF:∀b,F b→b<w.heap.size
theorem OfM.next {w W W':World} {F:Nat→Prop} {v:PV} {sl:Value} {st:Bool} {d:ByteArray} {r q x k:Nat} (h:OfM w W F v sl st d r q x k) (hb:Below W.heap.size W W'):OfM w W' F v sl st d r q x k :=
 { h with bel:=h.bel.trans (hb.mono h.bel.size),val:=h.val.below hb,obj:=zab hb h.obj,res:=zab hb h.res,row:=zab hb h.row }
theorem OfM.put {w W:World} {F:Nat→Prop} {v:PV} {sl:Value} {st:Bool} {d:ByteArray} {r q x k:Nat} (h:OfM w W F v sl st d r q x k) (hk:k<5):OfM w (W.setCell ⟨x,k,none⟩ (.int .i64 (intN v (keyL k)))) F v sl st d r q x (k+1) :=
 { h with
   bel:=h.bel.setCell h.nx _
   val:=IsV.keep (F:=F) ⟨by simp,fun b hb hF=>heap_setCell_other _ _ _ _ (by have:=h.okF b hF;have:=h.nx;show b≠x;omega)⟩ (fun _ h=>h) v h.val
   obj:=(heap_setCell_other _ _ _ _ h.rx).trans h.obj
   res:=(heap_setCell_other _ _ _ _ h.qx).trans h.res
   row:=by
     rw [heap_setCell_same W x k _ _ _ h.row]
     match k,hk with
     | 0,_=>rfl
     | 1,_=>rfl
     | 2,_=>rfl
     | 3,_=>rfl
     | 4,_=>rfl }
theorem OfM.cellX {w W:World} {F:Nat→Prop} {v:PV} {sl:Value} {st:Bool} {d:ByteArray} {r q x k:Nat} (h:OfM w W F v sl st d r q x k):W.cell? ⟨x,0,none⟩=some (.int .i64 (if 0<k then intN v kL else 0))∧W.cell? ⟨x,1,none⟩=some (.int .i64 (if 1<k then intN v kO else 0))∧W.cell? ⟨x,2,none⟩=some (.int .i64 (if 2<k then intN v kE else 0)) ∧
   W.cell? ⟨x,3,none⟩=some (.int .i64 (if 3<k then intN v kN else 0))∧W.cell? ⟨x,4,none⟩=some (.int .i64 (if 4<k then intN v kT else 0))∧(∀j,W.frozen? ⟨x,j,none⟩=false):=by
 refine ⟨?_,?_,?_,?_,?_,fun j=>frozen_of_row _ _ _ _ _ h.row⟩<;>(rw [cell_of_row W x _ _ _ _ h.row];rfl)
theorem zcx {w:World} {b:Nat} {x0 x1 x2 x3 x4 x5 x6:Value} {t:TypeId} (h:w.heap[b]?=some (.cells #[x0,x1,x2,x3,x4,x5,x6] t (0,0))) :
   w.frozen? ⟨b,0,none⟩=false∧w.frozen? ⟨b,1,none⟩=false∧w.frozen? ⟨b,2,none⟩=false∧w.frozen? ⟨b,3,none⟩=false∧w.frozen? ⟨b,4,none⟩=false∧w.frozen? ⟨b,5,none⟩=false∧w.frozen? ⟨b,6,none⟩=false:=by
 refine ⟨?_,?_,?_,?_,?_,?_,?_⟩<;>exact frozen_of_row _ _ _ _ _ h
theorem set7 {w:World} {b:Nat} {x0 x1 x2 x3 x4 x5 x6:Value} {t:TypeId} (h:w.heap[b]?=some (.cells #[x0,x1,x2,x3,x4,x5,x6] t (0,0))) (y0 y1 y2 y3 y4 y5 y6:Value) :
   (((((((w.setCell ⟨b,0,none⟩ y0).setCell ⟨b,1,none⟩ y1).setCell ⟨b,2,none⟩ y2).setCell ⟨b,3,none⟩ y3).setCell ⟨b,4,none⟩ y4).setCell ⟨b,5,none⟩ y5).setCell ⟨b,6,none⟩ y6).heap[b]?=some (.cells #[y0,y1,y2,y3,y4,y5,y6] t (0,0)):=by
 rw [heap_setCell_same _ _ 6 _ _ _ (heap_setCell_same _ _ 5 _ _ _ (heap_setCell_same _ _ 4 _ _ _ (heap_setCell_same _ _ 3 _ _ _ (heap_setCell_same _ _ 2 _ _ _ (heap_setCell_same _ _ 1 _ _ _ (heap_setCell_same w _ 0 _ _ _ h))))))];rfl
theorem zba {B:Nat} {w0 w:World} (h:Below B w0 w) {b:Nat} (hb:B≤b) (y0 y1 y2 y3 y4 y5 y6:Value) :
   Below B w0 (((((((w.setCell ⟨b,0,none⟩ y0).setCell ⟨b,1,none⟩ y1).setCell ⟨b,2,none⟩ y2).setCell ⟨b,3,none⟩ y3).setCell ⟨b,4,none⟩ y4).setCell ⟨b,5,none⟩ y5).setCell ⟨b,6,none⟩ y6) :=
 (((((((h.setCell hb _).setCell hb _).setCell hb _).setCell hb _).setCell hb _).setCell hb _).setCell hb _)
theorem intK_b (v:PV) (k:List UInt8):((getP (getV v k)).1.kind==2)=intK v k:=by
 unfold intK
 by_cases h:(getP (getV v k)).1.kind=2
 · rw [h];rfl
 · rw [decide_eq_false h,beq_eq_false_iff_ne];exact h
theorem zdW {v:PV} (h:(getP (getV v kLin)).2=false∨(zdG v).2.2=false∨intK v kL=false∨intK v kO=false∨intK v kE=false∨intK v kN=false∨intK v kT=false):ofV v=({},false):=by
 unfold ofV
 rw [if_neg]
 rintro ⟨h1,h2,h3,h4,h5,h6,h7⟩
 rcases h with h|h|h|h|h|h|h
 · rw [h1] at h;cases h
 · rw [h2] at h;cases h
 · rw [h3] at h;cases h
 · rw [h4] at h;cases h
 · rw [h5] at h;cases h
 · rw [h6] at h;cases h
 · rw [h7] at h;cases h
theorem zc6.bad {w W:World} (hb:Below w.heap.size w W):zc6 w ({},false) (.returned (.tuple #[.agg #[.int .i64 0,.int .i64 0,.int .i64 0,.int .i64 0,.int .i64 0,.int .i64 0,.int .i64 0],.bool false])) W:=⟨rfl,hb⟩
theorem ix29_0 (W:World):(Instr.index 50 (.agg #[.string ⟨#[76]⟩,.string ⟨#[79]⟩,.string ⟨#[69]⟩,.string ⟨#[78]⟩,.string ⟨#[84]⟩]) (.int .i64 0)).run Tryz.prog W=.ok (.string ⟨#[76]⟩) W:=by
 simp [Instr.index,run_underlying Tryz.underlying50,Result.andThen,asIntOf,part,isAgg,run_underlying Tryz.underlying9]
theorem ix29_1 (W:World):(Instr.index 50 (.agg #[.string ⟨#[76]⟩,.string ⟨#[79]⟩,.string ⟨#[69]⟩,.string ⟨#[78]⟩,.string ⟨#[84]⟩]) (.int .i64 1)).run Tryz.prog W=.ok (.string ⟨#[79]⟩) W:=by
 simp [Instr.index,run_underlying Tryz.underlying50,Result.andThen,asIntOf,part,isAgg,run_underlying Tryz.underlying9]
theorem ix29_2 (W:World):(Instr.index 50 (.agg #[.string ⟨#[76]⟩,.string ⟨#[79]⟩,.string ⟨#[69]⟩,.string ⟨#[78]⟩,.string ⟨#[84]⟩]) (.int .i64 2)).run Tryz.prog W=.ok (.string ⟨#[69]⟩) W:=by
 simp [Instr.index,run_underlying Tryz.underlying50,Result.andThen,asIntOf,part,isAgg,run_underlying Tryz.underlying9]
theorem ix29_3 (W:World):(Instr.index 50 (.agg #[.string ⟨#[76]⟩,.string ⟨#[79]⟩,.string ⟨#[69]⟩,.string ⟨#[78]⟩,.string ⟨#[84]⟩]) (.int .i64 3)).run Tryz.prog W=.ok (.string ⟨#[78]⟩) W:=by
 simp [Instr.index,run_underlying Tryz.underlying50,Result.andThen,asIntOf,part,isAgg,run_underlying Tryz.underlying9]
theorem ix29_4 (W:World):(Instr.index 50 (.agg #[.string ⟨#[76]⟩,.string ⟨#[79]⟩,.string ⟨#[69]⟩,.string ⟨#[78]⟩,.string ⟨#[84]⟩]) (.int .i64 4)).run Tryz.prog W=.ok (.string ⟨#[84]⟩) W:=by
 simp [Instr.index,run_underlying Tryz.underlying50,Result.andThen,asIntOf,part,isAgg,run_underlying Tryz.underlying9]
def zgN (v:PV) (k:Nat):Prop:=∀j,j<k→intK v (keyL j)=true
theorem of_any {w:World} {F:Nat→Prop} {v:PV} {sl:Value} {st:Bool} {d:ByteArray} (h:IsV w F v sl) (hev:v.kind=7→v.l.length % 2=0) :
   Calls Tryz.prog 22 #[.agg (obC v sl st d)] w (zc6 w (if st=true then ({},false) else ofV v)):=by
 obtain ⟨a,c,rfl,-,-,-⟩:=h.len
 have hu:=IsV.under _ h
 have HH:=Lib.hid (fun W (hb:Below w.heap.size w W)=>hint_any (hu.below hb) hev)
 have HG:=Lib.hid (fun W (hx:IsV W (fun b=>F b∧b<w.heap.size) v (.slice a v.l.length c)) key=>zea hx hev key)
 have hb2:=(zah w (.cells (obC v (.slice a v.l.length c) st d) 56)).alloc (by rw [zal];omega) (.cells #[.int .i64 0,.int .i64 0,.int .i64 0,.int .i64 0,.int .i64 0,.int .i64 0,.int .i64 0] 23)
 have HB:=Lib.hid hb2
 have HX:=Lib.hid (hu.below hb2)
 have HO:=Lib.hid (show ((w.alloc (.cells (obC v (.slice a v.l.length c) st d) 56)).alloc (.cells #[.int .i64 0,.int .i64 0,.int .i64 0,.int .i64 0,.int .i64 0,.int .i64 0,.int .i64 0] 23)).heap[w.heap.size]?=some (.cells (obC v (.slice a v.l.length c) st d) 56 (0,0)) from zak _ (zac _ rfl))
 have HQ:=Lib.hid (show ((w.alloc (.cells (obC v (.slice a v.l.length c) st d) 56)).alloc (.cells #[.int .i64 0,.int .i64 0,.int .i64 0,.int .i64 0,.int .i64 0,.int .i64 0,.int .i64 0] 23)).heap[w.heap.size+1]?=some (.cells #[.int .i64 0,.int .i64 0,.int .i64 0,.int .i64 0,.int .i64 0,.int .i64 0,.int .i64 0] 23 (0,0)) from zac _ (by rw [zal]))
 obtain ⟨R,hR⟩:∃R,R=(if st=true then (({},false):LinD×Bool) else ofV v):=⟨_,rfl⟩
 rw [←hR]
 have HR:=Lib.hid hR
 clear hR h hu hb2 hev
 unfold HintEnd at HH
 unfold zgS at HG
 unfold pvA at HH HG
 unfold obC at HB HX HO HQ ⊢
 go_enter Tryz.func22,Tryz.ntmps22
 go_upto_region 1 with fail
 obtain ⟨q,hq⟩:∃q,q=w.heap.size+1:=⟨_,rfl⟩
 obtain ⟨r,hr⟩:∃r,r=w.heap.size:=⟨_,rfl⟩
 rw [←hq] at HQ ⊢
 rw [←hr] at HO ⊢
 have HRQ:=Lib.hid (show w.heap.size=r∧q=r+1 from ⟨hr.symm,by omega⟩)
 clear hq hr
 generalize World.alloc _ _=W2 at *
 obtain ⟨⟨t0,t1,t2,t3,t4,t5⟩,-⟩:=zc4 HO.out
 go_wp2_with fail
 refine (HH.out _ HB.out).mono ?_
 rintro e w3 ⟨rfl,hb3⟩
 have HB3:=Lib.hid (HB.out.trans (hb3.mono HB.out.size))
 have HX3:=Lib.hid (HX.out.below hb3)
 have HO3:=Lib.hid (zab hb3 HO.out)
 have HQ3:=Lib.hid (zab hb3 HQ.out)
 clear hb3 HB HX HO HQ HH t0 t1 t2 t3 t4 t5
 obtain ⟨⟨t0,t1,t2,t3,t4,t5⟩,-⟩:=zc4 HO3.out
 go_wp2_with fail
 refine (HG.out _ HX3.out kLin).mono ?_
 rintro e w4 ⟨sl2,rfl,hx4,hb4⟩
 generalize hG:getP (getV v kLin)=G at *
 have HGG:=Lib.hid hG
 clear hG
 obtain ⟨ta,tc,rfl,-,-,-⟩:=hx4.len
 have hb5:=hb4.alloc hb4.size (.cells #[.int .i64 G.1.kind,.int .i64 G.1.n,.string (mkB G.1.s),.slice ta G.1.l.length tc] 48)
 have HB5:=Lib.hid (HB3.out.trans (hb5.mono HB3.out.size))
 have HX5:=Lib.hid (HX3.out.below hb5)
 have HO5:=Lib.hid (zab hb5 HO3.out)
 have HQ5:=Lib.hid (zab hb5 HQ3.out)
 clear hb4 hb5 hx4 HB3 HX3 HO3 HQ3 t0 t1 t2 t3 t4 t5
 go_upto_region 3 with fail
 generalize w4.heap.size=o at *
 generalize w4.alloc _=W5 at *
 obtain ⟨⟨t0,t1,t2,t3,t4,t5⟩,-⟩:=zc4 HO5.out
 obtain ⟨g0,g1,g2,g3,g4,g5,g6⟩:=zcx HQ5.out
 obtain ⟨z0,z1,z2,z3,z4,z5,z6⟩:=za4 HQ5.out
 have hcs:st=true∨(st=false∧G.2=false)∨(st=false∧G.2=true∧(zdG v).2.2=false)∨(st=false∧G.2=true∧(zdG v).2.2=true):=by
   cases st<;>cases G.2<;>cases (zdG v).2.2<;>simp
 have HZ:=Lib.hid (fun y0 y1 y2 y3 y4 y5 y6=>And.intro (set7 HQ5.out y0 y1 y2 y3 y4 y5 y6) (zba HB5.out (show w.heap.size≤q by have:=HRQ.out;omega) y0 y1 y2 y3 y4 y5 y6))
 rcases hcs with rfl|⟨rfl,k1⟩|⟨rfl,k1,k2⟩|⟨rfl,k1,k2⟩
 · obtain rfl:R=({},false):=HR.out
   clear HG HGG HO5 HX5 HQ5 HB5 HRQ
   generalize (zdG v).2.2=hb at *
   go_wp2_with fail
   refine bodyPost_ret (zaa rfl _ _ q 23 _ (0,0) _ rfl (by exact (HZ.out _ _ _ _ _ _ _).1) Tryz.underlying23 rfl (by kernel_rfl) _ rfl) rfl ?_
   exact zc6.bad (HZ.out _ _ _ _ _ _ _).2
 · obtain rfl : R = ({}, false) := by rw [HR.out, if_neg (by simp)]; exact zdW (.inl (by rw [HGG.out]; exact k1))
   clear HG HGG HO5 HX5 HQ5 HB5 HRQ
   generalize (zdG v).2.2=hb at *
   generalize G.2=gb at *
   go_wp2_with fail
   refine bodyPost_ret (zaa rfl _ _ q 23 _ (0,0) _ rfl (by exact (HZ.out _ _ _ _ _ _ _).1) Tryz.underlying23 rfl (by kernel_rfl) _ rfl) rfl ?_
   exact zc6.bad (HZ.out _ _ _ _ _ _ _).2
 · obtain rfl : R = ({}, false) := by rw [HR.out, if_neg (by simp)]; exact zdW (.inr (.inl k2))
   clear HG HGG HO5 HX5 HQ5 HB5 HRQ
   generalize (zdG v).2.2=hb at *
   generalize G.2=gb at *
   go_wp2_with fail
   refine bodyPost_ret (zaa rfl _ _ q 23 _ (0,0) _ rfl (by exact (HZ.out _ _ _ _ _ _ _).1) Tryz.underlying23 rfl (by kernel_rfl) _ rfl) rfl ?_
   exact zc6.bad (HZ.out _ _ _ _ _ _ _).2
 clear HZ g0 g1 g2 g3 g4 g5 g6 z0 z1 z2 z3 z4 z5 z6
 have HRR:=Lib.hid (show R=ofV v by rw [HR.out,if_neg (by simp)])
 have HK1:=Lib.hid (show (getP (getV v kLin)).2=true by rw [HGG.out];exact k1)
 have HK2:=Lib.hid k2
 clear HR HGG
 have hb6:=zah W5 (.cells #[.int .i64 0,.int .i64 0,.int .i64 0,.int .i64 0,.int .i64 0] 53)
 have hrW:r<W5.heap.size:=zag HO5.out
 have hqW:q<W5.heap.size:=zag HQ5.out
 have HM := Lib.hid (show OfM w (W5.alloc (.cells #[.int .i64 0, .int .i64 0, .int .i64 0, .int .i64 0, .int .i64 0] 53)) (fun b => F b ∧ b < w.heap.size) v (.slice a v.l.length c) false d r q W5.heap.size 0 from
   { bel:=HB5.out.trans (hb6.mono HB5.out.size),val:=HX5.out.below hb6,obj:=zab hb6 HO5.out,res:=zab hb6 HQ5.out,row:=zac _ rfl
     nr:=by have:=HRQ.out;omega
     nx:=HB5.out.size
     rx:=by omega
     qx:=by omega
     okF:=fun b hb=>hb.2 })
 clear hb6 hrW hqW HB5 HX5 HO5 HQ5 HRQ
 have HNM:=Lib.hid (fun W=>names_any W)
 unfold nmA at HNM
 go_upto_region 6 with fail
 obtain ⟨x,hx⟩:∃x,x=W5.heap.size:=⟨_,rfl⟩
 rw [←hx] at HM ⊢
 clear hx
 clear t0 t1 t2 t3 t4 t5 k1 k2
 generalize W5.alloc _=W6 at *
 go_wp2_with fail
 refine (HNM.out _).mono ?_
 rintro e w7 ⟨rfl,hb7⟩
 have HM7:=Lib.hid (HM.out.next hb7)
 clear hb7 HM HNM
 go_wp2_with fail
 go_loopw [39] (fun vi wr=>∃k:Nat,vi=.int .i64 k∧k≤5∧Hid (OfM w wr (fun b=>F b∧b<w.heap.size) v (.slice a v.l.length c) false d r q x k)∧Hid (zgN v k)) (fun vi _=>5-(intOf vi).toNat)
 case atStart=>exact ⟨0,rfl,by omega,HM7,Lib.hid fun j hj=>by omega⟩
 case round =>
   clear HM7
   obtain ⟨k,rfl,hk,HMK,HOK⟩:=hrel
   obtain ⟨⟨t0,t1,t2,t3,t4,t5⟩,-⟩:=zc4 HMK.out.obj
   obtain ⟨g0,g1,g2,g3,g4,g5,g6⟩:=zcx HMK.out.res
   obtain ⟨z0,z1,z2,z3,z4,z5,z6⟩:=za4 HMK.out.res
   by_cases hk5:k=5
   · subst hk5
     obtain ⟨x0,x1,x2,x3,x4,-⟩:=HMK.out.cellX
     simp only [show (0:Nat)<5 from by decide,show (1:Nat)<5 from by decide,show (2:Nat)<5 from by decide,show (3:Nat)<5 from by decide,show (4:Nat)<5 from by decide,if_true] at x0 x1 x2 x3 x4
     have HRF:=Lib.hid (show R=({ len:=intN v kL,at_:=(zdG v).1,n:=(zdG v).2.1,obj:=intN v kO,fin:=intN v kE,pages:=intN v kN,main:=intN v kT },true) from by
       rw [HRR.out]
       exact if_pos ⟨HK1.out,HK2.out,HOK.out 0 (by omega),HOK.out 1 (by omega),HOK.out 2 (by omega),HOK.out 3 (by omega),HOK.out 4 (by omega)⟩)
     have HZ:=Lib.hid (fun y0 y1 y2 y3 y4 y5 y6=>And.intro (set7 HMK.out.res y0 y1 y2 y3 y4 y5 y6) (zba HMK.out.bel HMK.out.nr y0 y1 y2 y3 y4 y5 y6))
     clear HMK HOK HRR HK1 HK2 HG
     generalize intN v kL=nL at *
     generalize intN v kO=nO at *
     generalize intN v kE=nE at *
     generalize intN v kN=nN at *
     generalize intN v kT=nT at *
     generalize (zdG v).1=nA at *
     generalize (zdG v).2.1=nH at *
     go_wp2_with fail
     refine bodyPost_ret (zaa rfl _ _ q 23 _ (0,0) _ rfl (by exact (HZ.out _ _ _ _ _ _ _).1) Tryz.underlying23 rfl (by kernel_rfl) _ rfl) rfl ?_
     rw [HRF.out]
     exact ⟨rfl,(HZ.out _ _ _ _ _ _ _).2⟩
   have hcs:k=0∨k=1∨k=2∨k=3∨k=4:=by omega
   clear hk hk5
   rcases hcs with rfl|rfl|rfl|rfl|rfl
   · have hix:=ix29_0
     go_wp2_with fail
     refine (HG.out _ HMK.out.val kL).mono ?_
     rintro e w9 ⟨sl9,rfl,hx9,hb9⟩
     have HKK:=Lib.hid (intK_b v kL)
     have HNN:=Lib.hid (show intN v kL=(getP (getV v kL)).1.n from rfl)
     generalize getP (getV v kL)=G9 at *
     obtain ⟨ua,uc,rfl,-,-,-⟩:=hx9.len
     have hb10:=hb9.alloc hb9.size (.cells #[.int .i64 G9.1.kind,.int .i64 G9.1.n,.string (mkB G9.1.s),.slice ua G9.1.l.length uc] 48)
     have HMN:=Lib.hid (HMK.out.next hb10)
     have HK10:=Lib.hid (zac (w:=w9) (b:=w9.heap.size) (.cells #[.int .i64 G9.1.kind,.int .i64 G9.1.n,.string (mkB G9.1.s),.slice ua G9.1.l.length uc] 48) rfl)
     clear hx9 hb9 hb10 HMK hix t0 t1 t2 t3 t4 t5 g0 g1 g2 g3 g4 g5 g6 z0 z1 z2 z3 z4 z5 z6
     go_upto_region 10 with fail
     generalize w9.heap.size=o9 at HK10 ⊢
     generalize w9.alloc _=W10 at *
     obtain ⟨⟨t0,t1,t2,t3⟩,-⟩:=zaf HK10.out
     obtain ⟨g0,g1,g2,g3,g4,g5,g6⟩:=zcx HMN.out.res
     obtain ⟨z0,z1,z2,z3,z4,z5,z6⟩:=za4 HMN.out.res
     obtain ⟨x0,x1,x2,x3,x4,xf⟩:=HMN.out.cellX
     have xf0:=xf 0
     clear xf
     cases hik:intK v kL with
     | false =>
       have e1:(G9.1.kind==2)=false:=HKK.out.trans hik
       have e2:(G9.1.kind != 2)=true:=by simp only [bne,e1,Bool.not_false]
       obtain rfl:R=({},false):=by rw [HRR.out];exact zdW (.inr (.inr (.inl hik)))
       have HZ:=Lib.hid (fun y0 y1 y2 y3 y4 y5 y6=>And.intro (set7 HMN.out.res y0 y1 y2 y3 y4 y5 y6) (zba HMN.out.bel HMN.out.nr y0 y1 y2 y3 y4 y5 y6))
       clear HMN HOK HRR HK1 HK2 HG HKK hik HNN
       generalize G9.1.kind=gk at *
       go_wp2_with fail
       refine bodyPost_ret (zaa rfl _ _ q 23 _ (0,0) _ rfl (by exact (HZ.out _ _ _ _ _ _ _).1) Tryz.underlying23 rfl (by kernel_rfl) _ rfl) rfl ?_
       exact zc6.bad (HZ.out _ _ _ _ _ _ _).2
     | true =>
       have e1:(G9.1.kind==2)=true:=HKK.out.trans hik
       have e2:(G9.1.kind != 2)=false:=by simp only [bne,e1,Bool.not_true]
       have HMP:=Lib.hid (HMN.out.put (by omega))
       have hnn:(intN v (keyL 0))=G9.1.n:=HNN.out
       rw [hnn] at HMP
       have HOP := Lib.hid (show zgN v (0 + 1) from fun j hj => by
         rcases Nat.lt_or_ge j 0 with hh|hh
         · exact HOK.out j hh
         · obtain rfl : j = 0 := by omega
           exact hik)
       clear HMN HOK HKK hik HNN hnn
       generalize G9.1.kind=gk at *
       generalize G9.1.n=gn at *
       go_wp2_with fail
       exact ⟨⟨1,rfl,by omega,HMP,HOP⟩,by simp [intOf]⟩
   · have hix:=ix29_1
     go_wp2_with fail
     refine (HG.out _ HMK.out.val kO).mono ?_
     rintro e w9 ⟨sl9,rfl,hx9,hb9⟩
     have HKK:=Lib.hid (intK_b v kO)
     have HNN:=Lib.hid (show intN v kO=(getP (getV v kO)).1.n from rfl)
     generalize getP (getV v kO)=G9 at *
     obtain ⟨ua,uc,rfl,-,-,-⟩:=hx9.len
     have hb10:=hb9.alloc hb9.size (.cells #[.int .i64 G9.1.kind,.int .i64 G9.1.n,.string (mkB G9.1.s),.slice ua G9.1.l.length uc] 48)
     have HMN:=Lib.hid (HMK.out.next hb10)
     have HK10:=Lib.hid (zac (w:=w9) (b:=w9.heap.size) (.cells #[.int .i64 G9.1.kind,.int .i64 G9.1.n,.string (mkB G9.1.s),.slice ua G9.1.l.length uc] 48) rfl)
     clear hx9 hb9 hb10 HMK hix t0 t1 t2 t3 t4 t5 g0 g1 g2 g3 g4 g5 g6 z0 z1 z2 z3 z4 z5 z6
     go_upto_region 10 with fail
     generalize w9.heap.size=o9 at HK10 ⊢
     generalize w9.alloc _=W10 at *
     obtain ⟨⟨t0,t1,t2,t3⟩,-⟩:=zaf HK10.out
     obtain ⟨g0,g1,g2,g3,g4,g5,g6⟩:=zcx HMN.out.res
     obtain ⟨z0,z1,z2,z3,z4,z5,z6⟩:=za4 HMN.out.res
     obtain ⟨x0,x1,x2,x3,x4,xf⟩:=HMN.out.cellX
     have xf1:=xf 1
     clear xf
     cases hik:intK v kO with
     | false =>
       have e1:(G9.1.kind==2)=false:=HKK.out.trans hik
       have e2:(G9.1.kind != 2)=true:=by simp only [bne,e1,Bool.not_false]
       obtain rfl:R=({},false):=by rw [HRR.out];exact zdW (.inr (.inr (.inr (.inl hik))))
       have HZ:=Lib.hid (fun y0 y1 y2 y3 y4 y5 y6=>And.intro (set7 HMN.out.res y0 y1 y2 y3 y4 y5 y6) (zba HMN.out.bel HMN.out.nr y0 y1 y2 y3 y4 y5 y6))
       clear HMN HOK HRR HK1 HK2 HG HKK hik HNN
       generalize G9.1.kind=gk at *
       go_wp2_with fail
       refine bodyPost_ret (zaa rfl _ _ q 23 _ (0,0) _ rfl (by exact (HZ.out _ _ _ _ _ _ _).1) Tryz.underlying23 rfl (by kernel_rfl) _ rfl) rfl ?_
       exact zc6.bad (HZ.out _ _ _ _ _ _ _).2
     | true =>
       have e1:(G9.1.kind==2)=true:=HKK.out.trans hik
       have e2:(G9.1.kind != 2)=false:=by simp only [bne,e1,Bool.not_true]
       have HMP:=Lib.hid (HMN.out.put (by omega))
       have hnn:(intN v (keyL 1))=G9.1.n:=HNN.out
       rw [hnn] at HMP
       have HOP := Lib.hid (show zgN v (1 + 1) from fun j hj => by
         rcases Nat.lt_or_ge j 1 with hh|hh
         · exact HOK.out j hh
         · obtain rfl : j = 1 := by omega
           exact hik)
       clear HMN HOK HKK hik HNN hnn
       generalize G9.1.kind=gk at *
       generalize G9.1.n=gn at *
       go_wp2_with fail
       exact ⟨⟨2,rfl,by omega,HMP,HOP⟩,by simp [intOf]⟩
   · have hix:=ix29_2
     go_wp2_with fail
     refine (HG.out _ HMK.out.val kE).mono ?_
     rintro e w9 ⟨sl9,rfl,hx9,hb9⟩
     have HKK:=Lib.hid (intK_b v kE)
     have HNN:=Lib.hid (show intN v kE=(getP (getV v kE)).1.n from rfl)
     generalize getP (getV v kE)=G9 at *
     obtain ⟨ua,uc,rfl,-,-,-⟩:=hx9.len
     have hb10:=hb9.alloc hb9.size (.cells #[.int .i64 G9.1.kind,.int .i64 G9.1.n,.string (mkB G9.1.s),.slice ua G9.1.l.length uc] 48)
     have HMN:=Lib.hid (HMK.out.next hb10)
     have HK10:=Lib.hid (zac (w:=w9) (b:=w9.heap.size) (.cells #[.int .i64 G9.1.kind,.int .i64 G9.1.n,.string (mkB G9.1.s),.slice ua G9.1.l.length uc] 48) rfl)
     clear hx9 hb9 hb10 HMK hix t0 t1 t2 t3 t4 t5 g0 g1 g2 g3 g4 g5 g6 z0 z1 z2 z3 z4 z5 z6
     go_upto_region 10 with fail
     generalize w9.heap.size=o9 at HK10 ⊢
     generalize w9.alloc _=W10 at *
     obtain ⟨⟨t0,t1,t2,t3⟩,-⟩:=zaf HK10.out
     obtain ⟨g0,g1,g2,g3,g4,g5,g6⟩:=zcx HMN.out.res
     obtain ⟨z0,z1,z2,z3,z4,z5,z6⟩:=za4 HMN.out.res
     obtain ⟨x0,x1,x2,x3,x4,xf⟩:=HMN.out.cellX
     have xf2:=xf 2
     clear xf
     cases hik:intK v kE with
     | false =>
       have e1:(G9.1.kind==2)=false:=HKK.out.trans hik
       have e2:(G9.1.kind != 2)=true:=by simp only [bne,e1,Bool.not_false]
       obtain rfl:R=({},false):=by rw [HRR.out];exact zdW (.inr (.inr (.inr (.inr (.inl hik)))))
       have HZ:=Lib.hid (fun y0 y1 y2 y3 y4 y5 y6=>And.intro (set7 HMN.out.res y0 y1 y2 y3 y4 y5 y6) (zba HMN.out.bel HMN.out.nr y0 y1 y2 y3 y4 y5 y6))
       clear HMN HOK HRR HK1 HK2 HG HKK hik HNN
       generalize G9.1.kind=gk at *
       go_wp2_with fail
       refine bodyPost_ret (zaa rfl _ _ q 23 _ (0,0) _ rfl (by exact (HZ.out _ _ _ _ _ _ _).1) Tryz.underlying23 rfl (by kernel_rfl) _ rfl) rfl ?_
       exact zc6.bad (HZ.out _ _ _ _ _ _ _).2
     | true =>
       have e1:(G9.1.kind==2)=true:=HKK.out.trans hik
       have e2:(G9.1.kind != 2)=false:=by simp only [bne,e1,Bool.not_true]
       have HMP:=Lib.hid (HMN.out.put (by omega))
       have hnn:(intN v (keyL 2))=G9.1.n:=HNN.out
       rw [hnn] at HMP
       have HOP := Lib.hid (show zgN v (2 + 1) from fun j hj => by
         rcases Nat.lt_or_ge j 2 with hh|hh
         · exact HOK.out j hh
         · obtain rfl : j = 2 := by omega
           exact hik)
       clear HMN HOK HKK hik HNN hnn
       generalize G9.1.kind=gk at *
       generalize G9.1.n=gn at *
       go_wp2_with fail
       exact ⟨⟨3,rfl,by omega,HMP,HOP⟩,by simp [intOf]⟩
   · have hix:=ix29_3
     go_wp2_with fail
     refine (HG.out _ HMK.out.val kN).mono ?_
     rintro e w9 ⟨sl9,rfl,hx9,hb9⟩
     have HKK:=Lib.hid (intK_b v kN)
     have HNN:=Lib.hid (show intN v kN=(getP (getV v kN)).1.n from rfl)
     generalize getP (getV v kN)=G9 at *
     obtain ⟨ua,uc,rfl,-,-,-⟩:=hx9.len
     have hb10:=hb9.alloc hb9.size (.cells #[.int .i64 G9.1.kind,.int .i64 G9.1.n,.string (mkB G9.1.s),.slice ua G9.1.l.length uc] 48)
     have HMN:=Lib.hid (HMK.out.next hb10)
     have HK10:=Lib.hid (zac (w:=w9) (b:=w9.heap.size) (.cells #[.int .i64 G9.1.kind,.int .i64 G9.1.n,.string (mkB G9.1.s),.slice ua G9.1.l.length uc] 48) rfl)
     clear hx9 hb9 hb10 HMK hix t0 t1 t2 t3 t4 t5 g0 g1 g2 g3 g4 g5 g6 z0 z1 z2 z3 z4 z5 z6
     go_upto_region 10 with fail
     generalize w9.heap.size=o9 at HK10 ⊢
     generalize w9.alloc _=W10 at *
     obtain ⟨⟨t0,t1,t2,t3⟩,-⟩:=zaf HK10.out
     obtain ⟨g0,g1,g2,g3,g4,g5,g6⟩:=zcx HMN.out.res
     obtain ⟨z0,z1,z2,z3,z4,z5,z6⟩:=za4 HMN.out.res
     obtain ⟨x0,x1,x2,x3,x4,xf⟩:=HMN.out.cellX
     have xf3:=xf 3
     clear xf
     cases hik:intK v kN with
     | false =>
       have e1:(G9.1.kind==2)=false:=HKK.out.trans hik
       have e2:(G9.1.kind != 2)=true:=by simp only [bne,e1,Bool.not_false]
       obtain rfl:R=({},false):=by rw [HRR.out];exact zdW (.inr (.inr (.inr (.inr (.inr (.inl hik))))))
       have HZ:=Lib.hid (fun y0 y1 y2 y3 y4 y5 y6=>And.intro (set7 HMN.out.res y0 y1 y2 y3 y4 y5 y6) (zba HMN.out.bel HMN.out.nr y0 y1 y2 y3 y4 y5 y6))
       clear HMN HOK HRR HK1 HK2 HG HKK hik HNN
       generalize G9.1.kind=gk at *
       go_wp2_with fail
       refine bodyPost_ret (zaa rfl _ _ q 23 _ (0,0) _ rfl (by exact (HZ.out _ _ _ _ _ _ _).1) Tryz.underlying23 rfl (by kernel_rfl) _ rfl) rfl ?_
       exact zc6.bad (HZ.out _ _ _ _ _ _ _).2
     | true =>
       have e1:(G9.1.kind==2)=true:=HKK.out.trans hik
       have e2:(G9.1.kind != 2)=false:=by simp only [bne,e1,Bool.not_true]
       have HMP:=Lib.hid (HMN.out.put (by omega))
       have hnn:(intN v (keyL 3))=G9.1.n:=HNN.out
       rw [hnn] at HMP
       have HOP := Lib.hid (show zgN v (3 + 1) from fun j hj => by
         rcases Nat.lt_or_ge j 3 with hh|hh
         · exact HOK.out j hh
         · obtain rfl : j = 3 := by omega
           exact hik)
       clear HMN HOK HKK hik HNN hnn
       generalize G9.1.kind=gk at *
       generalize G9.1.n=gn at *
       go_wp2_with fail
       exact ⟨⟨4,rfl,by omega,HMP,HOP⟩,by simp [intOf]⟩
   · have hix:=ix29_4
     go_wp2_with fail
     refine (HG.out _ HMK.out.val kT).mono ?_
     rintro e w9 ⟨sl9,rfl,hx9,hb9⟩
     have HKK:=Lib.hid (intK_b v kT)
     have HNN:=Lib.hid (show intN v kT=(getP (getV v kT)).1.n from rfl)
     generalize getP (getV v kT)=G9 at *
     obtain ⟨ua,uc,rfl,-,-,-⟩:=hx9.len
     have hb10:=hb9.alloc hb9.size (.cells #[.int .i64 G9.1.kind,.int .i64 G9.1.n,.string (mkB G9.1.s),.slice ua G9.1.l.length uc] 48)
     have HMN:=Lib.hid (HMK.out.next hb10)
     have HK10:=Lib.hid (zac (w:=w9) (b:=w9.heap.size) (.cells #[.int .i64 G9.1.kind,.int .i64 G9.1.n,.string (mkB G9.1.s),.slice ua G9.1.l.length uc] 48) rfl)
     clear hx9 hb9 hb10 HMK hix t0 t1 t2 t3 t4 t5 g0 g1 g2 g3 g4 g5 g6 z0 z1 z2 z3 z4 z5 z6
     go_upto_region 10 with fail
     generalize w9.heap.size=o9 at HK10 ⊢
     generalize w9.alloc _=W10 at *
     obtain ⟨⟨t0,t1,t2,t3⟩,-⟩:=zaf HK10.out
     obtain ⟨g0,g1,g2,g3,g4,g5,g6⟩:=zcx HMN.out.res
     obtain ⟨z0,z1,z2,z3,z4,z5,z6⟩:=za4 HMN.out.res
     obtain ⟨x0,x1,x2,x3,x4,xf⟩:=HMN.out.cellX
     have xf4:=xf 4
     clear xf
     cases hik:intK v kT with
     | false =>
       have e1:(G9.1.kind==2)=false:=HKK.out.trans hik
       have e2:(G9.1.kind != 2)=true:=by simp only [bne,e1,Bool.not_false]
       obtain rfl:R=({},false):=by rw [HRR.out];exact zdW (.inr (.inr (.inr (.inr (.inr (.inr hik))))))
       have HZ:=Lib.hid (fun y0 y1 y2 y3 y4 y5 y6=>And.intro (set7 HMN.out.res y0 y1 y2 y3 y4 y5 y6) (zba HMN.out.bel HMN.out.nr y0 y1 y2 y3 y4 y5 y6))
       clear HMN HOK HRR HK1 HK2 HG HKK hik HNN
       generalize G9.1.kind=gk at *
       go_wp2_with fail
       refine bodyPost_ret (zaa rfl _ _ q 23 _ (0,0) _ rfl (by exact (HZ.out _ _ _ _ _ _ _).1) Tryz.underlying23 rfl (by kernel_rfl) _ rfl) rfl ?_
       exact zc6.bad (HZ.out _ _ _ _ _ _ _).2
     | true =>
       have e1:(G9.1.kind==2)=true:=HKK.out.trans hik
       have e2:(G9.1.kind != 2)=false:=by simp only [bne,e1,Bool.not_true]
       have HMP:=Lib.hid (HMN.out.put (by omega))
       have hnn:(intN v (keyL 4))=G9.1.n:=HNN.out
       rw [hnn] at HMP
       have HOP := Lib.hid (show zgN v (4 + 1) from fun j hj => by
         rcases Nat.lt_or_ge j 4 with hh|hh
         · exact HOK.out j hh
         · obtain rfl : j = 4 := by omega
           exact hik)
       clear HMN HOK HKK hik HNN hnn
       generalize G9.1.kind=gk at *
       generalize G9.1.n=gn at *
       go_wp2_with fail
       exact ⟨⟨5,rfl,by omega,HMP,HOP⟩,by simp [intOf]⟩
def LpEnd (w:World) (R:LinD×Int) (e:Ending) (w':World):Prop:=e=.returned (.tuple #[linA R.1,.int .i64 R.2])∧Below w.heap.size w w'
theorem lin_res {bs:List UInt8} {last:Bool} {total er:Int} {st:Bool} {v:PV} (h6:er=6↔(frR bs last).1=6) (h0:frR bs last=(0,false)→er=0∧st=false∧v=(frD bs last).1) (h1:(frR bs last).1≠0∨(frR bs last).2=true→er≠0∨st=true) :
   (er=6∧linV bs last total=({},6))∨(er≠6∧er≠0∧linV bs last total=({},28))∨(er=0∧(if st=true then (({},false):LinD×Bool) else ofV v).2=false∧linV bs last total=({},28)) ∨
   (er=0∧(if st=true then (({},false):LinD×Bool) else ofV v).2=true∧linV bs last total=if chkL (if st=true then (({},false):LinD×Bool) else ofV v).1≠0∨(if st=true then (({},false):LinD×Bool) else ofV v).1.len≠total then ({},28) else ((if st=true then (({},false):LinD×Bool) else ofV v).1,0)):=by
 unfold linV
 by_cases e6:er=6
 · exact .inl ⟨e6,if_pos (h6.1 e6)⟩
 · have r6 : ¬ (frR bs last).1 = 6 := fun h => e6 (h6.2 h)
   rw [if_neg r6]
   by_cases hg:(frR bs last).1=0∧(frR bs last).2=false
   · obtain ⟨a,b,c⟩:=h0 (Prod.ext hg.1 hg.2)
     subst b c
     simp only [Bool.false_eq_true,if_false]
     right;right
     cases ho:(ofV (frD bs last).1).2 with
     | false=>exact .inl ⟨a,rfl,if_pos (.inr (.inr (.inl rfl)))⟩
     | true =>
       refine .inr ⟨a,rfl,?_⟩
       by_cases hc:chkL (ofV (frD bs last).1).1≠0∨(ofV (frD bs last).1).1.len≠total
       · rw [if_pos hc,if_pos (.inr (.inr (.inr hc)))]
       · rw [if_neg hc,if_neg]
         rintro (h|h|h|h)
         · exact h hg.1
         · rw [hg.2] at h;cases h
         · cases h
         · exact hc h
   · have hb:(frR bs last).1≠0∨(frR bs last).2=true:=by
       by_cases g:(frR bs last).1=0
       · right
         cases h:(frR bs last).2 with
         | true=>rfl
         | false=>exact absurd ⟨g,h⟩ hg
       · exact .inl g
     have hv:(if (frR bs last).1≠0∨(frR bs last).2=true∨(ofV (frD bs last).1).2=false∨chkL (ofV (frD bs last).1).1≠0∨(ofV (frD bs last).1).1.len≠total then (({},28):LinD×Int) else ((ofV (frD bs last).1).1,0))=({},28):=if_pos (hb.elim .inl fun h=>.inr (.inl h))
     rw [hv]
     by_cases e0:er=0
     · rcases h1 hb with h|h
       · exact absurd e0 h
       · subst h
         exact .inr (.inr (.inl ⟨e0,rfl,rfl⟩))
     · exact .inr (.inl ⟨e6,e0,rfl⟩)
theorem zgV {w:World} {a:Option Addr} {cap:Nat} {bs:List UInt8} {last:Bool} (hr:Row w 1 a bs.length cap (bs.map u8C)) (hn:bs.length≤399999) (HST:(frE bs last).1=true→StreamC a cap bs last) (total:Int) :
   Calls Tryz.prog 13 #[.slice a bs.length cap,.bool last,.int .i64 total] w (LpEnd w (linV bs last total)):=by
 have hb1:=zah w (.cells #[.int .i64 0,.int .i64 0,.int .i64 0,.int .i64 0,.int .i64 0,.int .i64 0,.int .i64 0] 23)
 have HP:=Lib.hid (fparse_any (hr.mono hb1) hn HST)
 have HQ:=Lib.hid (zac (w:=w) (b:=w.heap.size) (.cells #[.int .i64 0,.int .i64 0,.int .i64 0,.int .i64 0,.int .i64 0,.int .i64 0,.int .i64 0] 23) rfl)
 have HB:=Lib.hid hb1
 have HRES:=Lib.hid (fun er st v=>lin_res (bs:=bs) (last:=last) (total:=total) (er:=er) (st:=st) (v:=v))
 unfold zfv at HP
 unfold LpEnd
 generalize linV bs last total=L at *
 generalize frR bs last=R at *
 generalize (frD bs last).1=V at *
 clear hr hn HST hb1
 generalize bs.length=n at *
 go_enter Tryz.func13,Tryz.ntmps13
 go_upto_region 1 with fail
 obtain ⟨q,hq⟩:∃q,q=w.heap.size:=⟨_,rfl⟩
 rw [←hq] at HQ ⊢
 have HN:=Lib.hid (show w.heap.size≤q from Nat.le_of_eq hq.symm)
 clear hq
 generalize w.alloc _=W1 at *
 go_wp2_with fail
 refine HP.out.mono ?_
 rintro e w2 ⟨v,sl,st,d,n2,at2,er,rfl,hx,hev,hb,e6,e0,e1⟩
 have HRS:=Lib.hid (HRES.out er st v e6 e0 e1)
 obtain ⟨sa,sc,rfl,-,-,-⟩:=hx.len
 have hb3:=hb.alloc hb.size (.cells (obC v (.slice sa v.l.length sc) st d) 56)
 have HB3:=Lib.hid (HB.out.trans (hb3.mono HB.out.size))
 have HQ3:=Lib.hid (zab hb3 HQ.out)
 have HO3:=Lib.hid (zac (w:=w2) (b:=w2.heap.size) (.cells (obC v (.slice sa v.l.length sc) st d) 56) rfl)
 have HX3:=Lib.hid (hx.below (zah w2 (.cells (obC v (.slice sa v.l.length sc) st d) 56)))
 have HEV:=Lib.hid hev
 clear HP HB HQ HRES hb hb3 hx e6 e0 e1 hev
 unfold obC at HB3 HQ3 HO3 HX3 ⊢
 go_upto_region 2 with fail
 generalize w2.heap.size=o at HO3 ⊢
 generalize w2.alloc _=W3 at *
 obtain ⟨⟨o0,o1,o2,o3,o4,o5⟩,-⟩:=zc4 HO3.out
 obtain ⟨g0,g1,g2,g3,g4,g5,g6⟩:=zcx HQ3.out
 obtain ⟨z0,z1,z2,z3,z4,z5,z6⟩:=za4 HQ3.out
 by_cases h6:er=6
 · have HL:Hid (L=({},6)):=Lib.hid (by
     rcases HRS.out with ⟨-,h⟩|⟨h,-⟩|⟨h,-⟩|⟨h,-⟩
     · exact h
     · exact absurd h6 h
     · omega
     · omega)
   subst h6
   have HZ:=Lib.hid (fun y0 y1 y2 y3 y4 y5 y6=>And.intro (set7 HQ3.out y0 y1 y2 y3 y4 y5 y6) (zba HB3.out HN.out y0 y1 y2 y3 y4 y5 y6))
   clear HRS HB3 HQ3 HO3 HX3 HEV
   go_wp2_with fail
   refine bodyPost_ret (zaa rfl _ _ q 23 _ (0,0) _ rfl (by exact (HZ.out _ _ _ _ _ _ _).1) Tryz.underlying23 rfl (by kernel_rfl) _ rfl) rfl ?_
   rw [HL.out]
   exact ⟨rfl,(HZ.out _ _ _ _ _ _ _).2⟩
 have k6:(er==6)=false:=by rw [beq_eq_false_iff_ne];exact h6
 have HOF:=Lib.hid (of_any (st:=st) (d:=d) HX3.out HEV.out)
 unfold zc6 obC at HOF
 generalize (if st=true then (({},false):LinD×Bool) else ofV v)=S at *
 obtain ⟨S1,S2⟩:=S
 dsimp only at HOF HRS
 clear HX3 HEV
 generalize v.kind=vk at *
 generalize v.n=vn at *
 generalize mkB v.s=vs at *
 generalize v.l.length=vl at *
 go_wp2_with fail
 refine HOF.out.mono ?_
 rintro e w4 ⟨rfl,hb4⟩
 have HCK:=Lib.hid (fun W=>zdp S1 W)
 unfold zg4 at HCK
 have HZZ:=Lib.hid (show linA S1=.agg (linC S1).toArray from rfl)
 unfold linA at HCK ⊢
 have hb5:=hb4.alloc hb4.size (.cells #[.int .i64 S1.len,.int .i64 S1.at_,.int .i64 S1.n,.int .i64 S1.obj,.int .i64 S1.fin,.int .i64 S1.pages,.int .i64 S1.main] 23)
 have HB5:=Lib.hid (HB3.out.trans (hb5.mono HB3.out.size))
 have HQ5:=Lib.hid (zab hb5 HQ3.out)
 have HL5:=Lib.hid (zac (w:=w4) (b:=w4.heap.size) (.cells #[.int .i64 S1.len,.int .i64 S1.at_,.int .i64 S1.n,.int .i64 S1.obj,.int .i64 S1.fin,.int .i64 S1.pages,.int .i64 S1.main] 23) rfl)
 clear hb4 hb5 HOF HB3 HQ3 HO3 o0 o1 o2 o3 o4 o5 g0 g1 g2 g3 g4 g5 g6 z0 z1 z2 z3 z4 z5 z6
 have hcs:(er≠0∧L=({},28))∨(er=0∧S2=false∧L=({},28))∨(er=0∧S2=true∧¬chkL S1=0∧L=({},28))∨(er=0∧S2=true∧chkL S1=0∧¬S1.len=total∧L=({},28))∨(er=0∧S2=true∧chkL S1=0∧S1.len=total∧L=(S1,0)):=by
   rcases HRS.out with ⟨h,-⟩|⟨-,h,h2⟩|⟨h,h2,h3⟩|⟨h,h2,h3⟩
   · exact absurd h h6
   · exact .inl ⟨h,h2⟩
   · exact .inr (.inl ⟨h,h2,h3⟩)
   · by_cases c1:chkL S1=0
     · by_cases c2:S1.len=total
       · exact .inr (.inr (.inr (.inr ⟨h,h2,c1,c2,by rw [h3,if_neg (by simp [c1,c2])]⟩)))
       · exact .inr (.inr (.inr (.inl ⟨h,h2,c1,c2,by rw [h3,if_pos (.inr c2)]⟩)))
     · exact .inr (.inr (.inl ⟨h,h2,c1,by rw [h3,if_pos (.inl c1)]⟩))
 have HCS:=Lib.hid hcs
 clear hcs HRS h6 HZZ
 go_upto_region 5 with fail
 generalize w4.heap.size=o2 at HL5 ⊢
 generalize w4.alloc _=W5 at *
 obtain ⟨c0,c1,c2,c3,c4,c5,c6⟩:=za4 HL5.out
 obtain ⟨g0,g1,g2,g3,g4,g5,g6⟩:=zcx HQ5.out
 obtain ⟨z0,z1,z2,z3,z4,z5,z6⟩:=za4 HQ5.out
 have HLL:=Lib.hid (fun (W:World) (hb:Below W5.heap.size W5 W)=>And.intro (zab hb HQ5.out) (And.intro (zab hb HL5.out) (HB5.out.trans (hb.mono HB5.out.size))))
 have HEE:=Lib.hid (show linA ({}:LinD)=.agg #[.int .i64 0,.int .i64 0,.int .i64 0,.int .i64 0,.int .i64 0,.int .i64 0,.int .i64 0] from rfl)
 have HES:=Lib.hid (show linA S1=.agg #[.int .i64 S1.len,.int .i64 S1.at_,.int .i64 S1.n,.int .i64 S1.obj,.int .i64 S1.fin,.int .i64 S1.pages,.int .i64 S1.main] from rfl)
 have HZ:=Lib.hid (fun y0 y1 y2 y3 y4 y5 y6=>And.intro (set7 HQ5.out y0 y1 y2 y3 y4 y5 y6) (zba HB5.out HN.out y0 y1 y2 y3 y4 y5 y6))
 generalize chkL S1=ck at *
 rcases HCS.out with ⟨k0,rfl⟩|⟨rfl,rfl,rfl⟩|⟨rfl,rfl,k0,rfl⟩|⟨rfl,rfl,rfl,k0,rfl⟩|⟨rfl,rfl,rfl,k0,rfl⟩
 · have k1 : (er == 0) = false := by rw [beq_eq_false_iff_ne]; exact k0
   have k2:(er != 0)=true:=by simp only [bne,k1,Bool.not_false]
   clear HCS HLL HQ5 HL5 HB5 k0 HES HCK
   go_wp2_with fail
   refine bodyPost_ret (zaa rfl _ _ q 23 _ (0,0) _ rfl (by exact (HZ.out _ _ _ _ _ _ _).1) Tryz.underlying23 rfl (by kernel_rfl) _ rfl) rfl ?_
   rw [HEE.out]
   exact ⟨rfl,(HZ.out _ _ _ _ _ _ _).2⟩
 · clear HCS HLL HQ5 HL5 HB5 HES HCK
   go_wp2_with fail
   refine bodyPost_ret (zaa rfl _ _ q 23 _ (0,0) _ rfl (by exact (HZ.out _ _ _ _ _ _ _).1) Tryz.underlying23 rfl (by kernel_rfl) _ rfl) rfl ?_
   rw [HEE.out]
   exact ⟨rfl,(HZ.out _ _ _ _ _ _ _).2⟩
 all_goals
   replace k0:=Lib.hid k0
   clear HCS HQ5 HL5 HB5 HZ
   go_wp2_with fail
   refine (HCK.out _).mono ?_
   rintro e w6 ⟨rfl,hb6⟩
   obtain ⟨HQ6,HL6,HB6⟩:=HLL.out _ hb6
   have HZ:=Lib.hid (fun y0 y1 y2 y3 y4 y5 y6=>And.intro (set7 HQ6 y0 y1 y2 y3 y4 y5 y6) (zba HB6 HN.out y0 y1 y2 y3 y4 y5 y6))
   clear c0 c1 c2 c3 c4 c5 c6 g0 g1 g2 g3 g4 g5 g6 z0 z1 z2 z3 z4 z5 z6
   obtain ⟨c0,c1,c2,c3,c4,c5,c6⟩:=za4 HL6
   obtain ⟨g0,g1,g2,g3,g4,g5,g6⟩:=zcx HQ6
   obtain ⟨z0,z1,z2,z3,z4,z5,z6⟩:=za4 HQ6
   clear HLL HL6 HB6 hb6 HQ6 HCK
 · have k1 : (ck == 0) = false := by rw [beq_eq_false_iff_ne]; exact k0.out
   have k2:(ck != 0)=true:=by simp only [bne,k1,Bool.not_false]
   clear k0
   go_wp2_with fail
   refine bodyPost_ret (zaa rfl _ _ q 23 _ (0,0) _ rfl (by exact (HZ.out _ _ _ _ _ _ _).1) Tryz.underlying23 rfl (by kernel_rfl) _ rfl) rfl ?_
   rw [HEE.out]
   exact ⟨rfl,(HZ.out _ _ _ _ _ _ _).2⟩
 · have k1 : (S1.len == total) = false := by rw [beq_eq_false_iff_ne]; exact k0.out
   have k2:(S1.len != total)=true:=by simp only [bne,k1,Bool.not_false]
   clear k0
   go_wp2_with fail
   refine bodyPost_ret (zaa rfl _ _ q 23 _ (0,0) _ rfl (by exact (HZ.out _ _ _ _ _ _ _).1) Tryz.underlying23 rfl (by kernel_rfl) _ rfl) rfl ?_
   rw [HEE.out]
   exact ⟨rfl,(HZ.out _ _ _ _ _ _ _).2⟩
 · have k1 : (S1.len == total) = true := by rw [beq_iff_eq]; exact k0.out
   have k2:(S1.len != total)=false:=by simp only [bne,k1,Bool.not_true]
   clear k0
   go_wp2_with fail
   refine bodyPost_ret (zaa rfl _ _ q 23 _ (0,0) _ rfl (by exact (HZ.out _ _ _ _ _ _ _).1) Tryz.underlying23 rfl (by kernel_rfl) _ rfl) rfl ?_
   rw [HES.out]
   exact ⟨rfl,(HZ.out _ _ _ _ _ _ _).2⟩
theorem conv29 {w:World} {a:Option Addr} {cap:Nat} {bs:List UInt8} (hr:Row w 1 a bs.length cap (bs.map u8C)):(convert 24 9 (.slice a bs.length cap)).run Tryz.prog w=.ok (.string (mkB bs)) w:=by
 cases a with
 | none =>
   have h0:=hr.2.2.2.1 rfl
   have h1:=hr.2.1
   have ho:bs=[]:=List.eq_nil_of_length_eq_zero (by omega)
   subst ho
   rw [h0]
   exact run_convert_bytes_string w 24 9 5 none 0 0 Tryz.underlying24 Tryz.underlying5 Tryz.underlying9
 | some x =>
   refine run_convert_bytes_back (P:=Tryz.prog) w 24 9 5 x cap bs Tryz.underlying24 Tryz.underlying5 Tryz.underlying9 (fun j hj=>?_)
   obtain ⟨b,o,hx,-,hc⟩:=hr.2.2.2.2 (by omega)
   cases hx
   rw [Addr.add_lit]
   exact hc j (u8C bs[j]) (by simp [hj])
theorem frE_no {bs:List UInt8} {last:Bool} {e:Int} (h:frR bs last=(e,false)):(frE bs last).1=false:=by
 cases hb:(frE bs last).1 with
 | false=>rfl
 | true =>
   unfold frR at h
   rw [if_pos hb] at h
   cases h
def lin0:LinD:={ len:=900,at_:=100,n:=50,obj:=4,fin:=300,pages:=2,main:=700 }
theorem lin0_ok:zdN lin0=true:=by decide
theorem lparse_back {g:List UInt8} {n:Int} {l:LinD} (h1:1≤n) (h2:n≤4096) (hl:zdN l=true) (hg:gapS g) (hg9:g.length≤9) (behind:List UInt8) (hb:behind.length≤300) (last:Bool) (total:Int) {w:World} {a:Option Addr} {cap:Nat} {bs:List UInt8} (hbs:bs=g++(linB n l++behind)) (hr:Row w 1 a bs.length cap (bs.map u8C)) :
   Calls Tryz.prog 13 #[.slice a bs.length cap,.bool last,.int .i64 total] w (LpEnd w (if l.len=total then (l,0) else ({},28))):=by
 have hlen:=zhQ (n:=n) hl
 have hd:=zaQ 9 n.toNat (by omega)
 obtain ⟨q1,-⟩:=lin_fr (bs:=bs) h1 h2 hl hg behind last (by rw [hbs,List.length_append,List.length_append,hlen];omega) (by rw [hbs];exact cur_lin n l behind)
 have h:=zgV (last:=last) hr (by rw [hbs,List.length_append,List.length_append,hlen];omega) (fun h=>by rw [frE_no q1] at h;cases h) total
 have hv:linV bs last total=if l.len=total then (l,0) else ({},28):=by rw [hbs];exact lin_back h1 h2 hl hg behind last total
 rw [hv] at h
 exact h
theorem works29 (w : World) : Calls Tryz.prog 12 #[] w fun e w' => e = .returned (.bool true) ∧ Below w.heap.size w w' := by
 have HB:=Lib.hid (zah w (.cells #[.int .i64 900,.int .i64 100,.int .i64 50,.int .i64 4,.int .i64 300,.int .i64 2,.int .i64 700] 23))
 have HK:=Lib.hid (zac (w:=w) (b:=w.heap.size) (.cells #[.int .i64 900,.int .i64 100,.int .i64 50,.int .i64 4,.int .i64 300,.int .i64 2,.int .i64 700] 23) rfl)
 have HP:=Lib.hid (fun W=>show Calls Tryz.prog 8 #[.int .i64 7,.agg #[.int .i64 900,.int .i64 100,.int .i64 50,.int .i64 4,.int .i64 300,.int .i64 2,.int .i64 700]] W (OkEnd W 7 lin0) from lprint_ok (l:=lin0) (by decide) (by decide) lin0_ok W)
 have HPA:=Lib.hid (fun (W:World) (a:Option Addr) (cap:Nat) (hr:Row W 1 a (linB 7 lin0).length cap ((linB 7 lin0).map u8C)) =>
   show Calls Tryz.prog 13 #[.slice a (linB 7 lin0).length cap, .bool true, .int .i64 900] W (fun e w' => e = .returned (.tuple #[.agg #[.int .i64 900, .int .i64 100, .int .i64 50, .int .i64 4, .int .i64 300, .int .i64 2, .int .i64 700], .int .i64 0]) ∧ Below W.heap.size W w') from
     lparse_back (g:=[]) (l:=lin0) (n:=7) (by decide) (by decide) lin0_ok gap0 (by decide) [] (by decide) true 900 (by simp) hr)
 have HTX:=Lib.hid (fun W=>show Calls Tryz.prog 20 #[.int .i64 7,.agg #[.int .i64 900,.int .i64 100,.int .i64 50,.int .i64 4,.int .i64 300,.int .i64 2,.int .i64 700]] W (fun e w'=>e=.returned (.string (mkB (linB 7 lin0)))∧Below W.heap.size W w') from rtext29 (l:=lin0) (by decide) (by decide) lin0_ok W)
 have HC1:=Lib.hid (fun W=>show Calls Tryz.prog 10 #[.agg #[.int .i64 900,.int .i64 100,.int .i64 50,.int .i64 4,.int .i64 300,.int .i64 2,.int .i64 700]] W (fun e w'=>e=.returned (.int .i64 0)∧Below W.heap.size W w') from zdp lin0 W)
 have HC2:=Lib.hid (fun W=>show Calls Tryz.prog 10 #[.agg #[.int .i64 0,.int .i64 0,.int .i64 0,.int .i64 0,.int .i64 0,.int .i64 0,.int .i64 0]] W (fun e w'=>e=.returned (.int .i64 28)∧Below W.heap.size W w') from zdp {} W)
 unfold OkEnd at HP
 have HCV:=Lib.hid (fun (W:World) (a:Option Addr) (cap:Nat) (hr:Row W 1 a (linB 7 lin0).length cap ((linB 7 lin0).map u8C))=>conv29 hr)
 generalize linB 7 lin0=T at *
 have hqq:((mkB T).toList==(mkB T).toList)=true:=by simp
 generalize mkB T=S at *
 obtain ⟨L,hL⟩:∃L,L=T.length:=⟨_,rfl⟩
 rw [←hL] at HP HPA HCV
 clear hL
 generalize T.map u8C=cs at *
 go_enter Tryz.func12,Tryz.ntmps12
 go_upto_region 2 with fail
 obtain ⟨q,hq⟩:∃q,q=w.heap.size:=⟨_,rfl⟩
 rw [←hq] at HK ⊢
 clear hq
 generalize w.alloc _=W1 at *
 obtain ⟨c0,c1,c2,c3,c4,c5,c6⟩:=za4 HK.out
 go_wp2_with fail
 refine (HP.out _).mono ?_
 rintro e w2 ⟨g,c,rfl,hr2,-,-,hb2⟩
 have HK2:=Lib.hid (zab hb2 HK.out)
 have HB2:=Lib.hid (HB.out.trans (hb2.mono HB.out.size))
 have HR2:=Lib.hid hr2
 clear hr2 hb2 HB HK HP c0 c1 c2 c3 c4 c5 c6
 go_wp2_with fail
 refine (HPA.out _ _ _ HR2.out).mono ?_
 rintro e w3 ⟨rfl,hb3⟩
 have hb4:=hb3.alloc hb3.size (.cells #[.int .i64 900,.int .i64 100,.int .i64 50,.int .i64 4,.int .i64 300,.int .i64 2,.int .i64 700] 23)
 have HB4:=Lib.hid (HB2.out.trans (hb4.mono HB2.out.size))
 have HK4:=Lib.hid (zab hb4 HK2.out)
 have HX4:=Lib.hid (zac (w:=w3) (b:=w3.heap.size) (.cells #[.int .i64 900,.int .i64 100,.int .i64 50,.int .i64 4,.int .i64 300,.int .i64 2,.int .i64 700] 23) rfl)
 have HR4:=Lib.hid (HR2.out.mono hb4)
 clear hb3 hb4 HB2 HK2 HR2 HPA
 go_upto_region 4 with fail
 generalize w3.heap.size=x at HX4 ⊢
 generalize w3.alloc _=W4 at *
 have hcv:=fun p:zcr W4=>HCV.out p.w _ _ (HR4.out.mono p.h)
 have k0:=fun p:zcr W4=>za4 (zab p.h HK4.out)
 have j0:=fun p=>(k0 p).1
 have j1:=fun p=>(k0 p).2.1
 have j2:=fun p=>(k0 p).2.2.1
 have j3:=fun p=>(k0 p).2.2.2.1
 have j4:=fun p=>(k0 p).2.2.2.2.1
 have j5:=fun p=>(k0 p).2.2.2.2.2.1
 have j6:=fun p=>(k0 p).2.2.2.2.2.2
 have k1:=fun p:zcr W4=>za4 (zab p.h HX4.out)
 have i0:=fun p=>(k1 p).1
 have i1:=fun p=>(k1 p).2.1
 have i2:=fun p=>(k1 p).2.2.1
 have i3:=fun p=>(k1 p).2.2.2.1
 have i4:=fun p=>(k1 p).2.2.2.2.1
 have i5:=fun p=>(k1 p).2.2.2.2.2.1
 have i6:=fun p=>(k1 p).2.2.2.2.2.2
 clear k0 k1 HCV
 refine zcl (by kernel_rfl) (by kernel_rfl) ?_
 repeat (go_big_quiet_step (first
   | (go_at_call 20;with_reducible exact Calls.below_of (HTX.out _))
   | (go_at_call 10;with_reducible exact Calls.below_of (HC1.out _))
   | (go_at_call 10;with_reducible exact Calls.below_of (HC2.out _))))
 refine wpQuiet_nil ?_
 rintro w9 ⟨⟨_,hb9⟩,rfl⟩
 have HB9:=Lib.hid (HB4.out.trans (hb9.mono HB4.out.size))
 clear hb9
 go_wp2_with fail
 go_ret
 exact ⟨rfl,HB9.out⟩
end Go.Proofs.YtkhcjoomijkfbaaGreatDoor
