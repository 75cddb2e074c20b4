/-
  Our texts Fd5 to ZnBits, in one.
-/
import Derived.Test.YtkhcjoomijkfbaaGreatDoorPkT9
import Derived.BigQuiet
import Derived.WalkSpells
import Derived.Deep.AppendSrc
import Derived.Test.YtkhcjoomijkfbaaGreatDoorProg
import Derived.Deep.QuietTactic
import Derived.WalkKit
set_option maxRecDepth 8000
set_option maxHeartbeats 8000000
namespace Go.Proofs.YtkhcjoomijkfbaaGreatDoor
open Go.RowKit
section
variable {w0 w : World} {p : Nat} {a : Option Addr} {cap : Nat} {bs : List UInt8} {last : Bool} {s : Int × Int}
theorem zec (h : IsFd w0 w p a cap bs last s) : Calls Tryz.prog 100 #[.pointer (some ⟨p, 0, none⟩)] w fun e w' => e = .returned (.int .i64 (zbb last)) ∧ w' = w := by
 obtain ⟨⟨c0,c1,c2,c3⟩,f0,f1,f2,f3⟩:=h.cells
 clear h
 cases last with
 | true =>
   go_enter Tryz.func100,Tryz.ntmps100
   go_wp2_with fail
   go_ret
   exact ⟨rfl,rfl⟩
 | false =>
   go_enter Tryz.func100,Tryz.ntmps100
   go_wp2_with fail
   go_ret
   exact ⟨rfl,rfl⟩
theorem IsFd.at (h:IsFd w0 w p a cap bs last s) {k:Nat} (hk:k<bs.length):∃b off,a=some ⟨b,off,none⟩∧w.cell? ⟨b,off+k,none⟩=some (.int .u8 (bs.getD k 0).toNat):=by
 obtain ⟨b,off,rfl,_,hc⟩:=h.bytes.2.2.2.2 (Nat.zero_lt_of_lt hk)
 refine ⟨b,off,rfl,hc k _ ?_⟩
 rw [List.getElem?_map,List.getElem?_eq_getElem hk,List.getD_eq_getElem?_getD,List.getElem?_eq_getElem hk]
 rfl
theorem byte_ne {x y:UInt8} (h:x≠y):(x.toNat:Int)≠(y.toNat:Int):=fun e=>h (UInt8.toNat_inj.1 (by exact_mod_cast e))
theorem fline_any (h:IsFd w0 w p a cap bs last s) (h0:0≤s.1) (h1:s.1≤bs.length):Calls Tryz.prog 60 #[.pointer (some ⟨p,0,none⟩)] w fun e w' =>
   e=.returned (.tuple #[])∧IsFd w0 w' p a cap bs last (zbR bs last s)∧Keeps (fun b=>b=p) w w':=by
 obtain ⟨at0,er0⟩:=s
 dsimp only at h0 h1
 obtain ⟨k,rfl⟩:∃k:Nat,at0=k:=⟨at0.toNat,by omega⟩
 have HS:=Lib.hid h
 have hsm:=h.small
 by_cases hc:k<bs.length∧bs.getD k 0=13
 · obtain ⟨hk,h13⟩:=hc
   have hcr:crS bs k=k+1:=by unfold crS;rw [if_pos ⟨by omega,by rw [Int.toNat_natCast];exact h13⟩]
   obtain ⟨b,off,rfl,hb⟩:=h.at hk
   rw [h13] at hb
   obtain ⟨⟨c0,c1,c2,c3⟩,f0,f1,f2,f3⟩:=h.cells
   have d1:decide ((k:Int)<(bs.length:Int))=true:=decide_eq_true (by omega)
   have d2:(k:Int)<(bs.length:Int):=by omega
   go_enter Tryz.func60,Tryz.ntmps60
   go_wp2_with fail
   go_quiet (fail)
   go_upto_region 3 with fail
   have hM:=(HS.out.mono (zad (Below.refl _ _) nq)).setAt ((k:Int)+1)
   have hKp:=(zaK (S:=fun b=>b=p) (zad (Below.refl w.heap.size w) nq)).setCell (a:=⟨p,1,none⟩) (.inl rfl) (.int .i64 ((k:Int)+1))
   obtain ⟨m,hm⟩:∃m:Nat,(m:Int)=(k:Int)+1:=⟨k+1,by omega⟩
   rw [←hm] at hM hKp hcr ⊢
   clear hb d1 d2 c0 c1 c2 c3 f0 f1 f2 f3 h13
   dsimp only at hM
   generalize World.setCell _ _ _=W3 at *
   have hm1:m≤bs.length:=by omega
   clear hm hk
   have HM:=Lib.hid hM
   have HKp:=Lib.hid hKp
   have HCR:=Lib.hid hcr
   have HFA:=Lib.hid (fun (W:World) (hb:Below W3.heap.size W3 W) e=>zc3 (HM.out.mono hb) e)
   have HD1:=Lib.hid (show Below W3.heap.size W3 W3.drew from (Below.refl _ _).drew)
   have HD2:=Lib.hid (show Below W3.heap.size W3 W3.drew.drew from ((Below.refl _ _).drew).drew)
   have HOP:=Lib.hid (zec (hM.mono HD1.out))
   have HAT:=Lib.hid (fun (hk:m<bs.length)=>hM.at hk)
   obtain ⟨⟨c0,c1,c2,c3⟩,f0,f1,f2,f3⟩:=hM.cells
   clear hM hKp hcr h HS h0 h1
   by_cases he:er0=0
   case neg =>
     have HL:=Lib.hid (show zbR bs last ((k:Int),er0)=((m:Int),er0) from by unfold zbR;rw [if_pos he,HCR.out])
     have e1:(er0==0)=false:=by rw [beq_eq_false_iff_ne];exact he
     have e2:(er0 != 0)=true:=by simp only [bne,e1,Bool.not_false]
     clear he
     dsimp only at c1 c3
     go_wp2_with fail
     go_end0
     exact ⟨rfl,by rw [HL.out];exact HM.out,HKp.out⟩
   subst he
   dsimp only at c1 c3
   by_cases hl:m<bs.length
   case neg =>
     have HL:=Lib.hid (show zbR bs last ((k:Int),0)=((m:Int),zbb last) from by unfold zbR;rw [if_neg (by simp),HCR.out,if_pos (by omega)])
     have d1:decide ((m:Int)≥(bs.length:Int))=true:=decide_eq_true (by omega)
     have hl2:(bs.length:Int)≤(m:Int):=by omega
     clear hl
     go_wp2_with fail
     go_region
     go_wp2_with (first|(go_at_call 100;refine HOP.out.mono ?_;rintro e w' ⟨rfl,rfl⟩)|(go_at_call 57;refine (HFA.out _ HD1.out _).mono ?_;rintro e w5 ⟨rfl,h5,k5⟩;have H5:=Lib.hid h5;have K5:=Lib.hid k5;clear h5 k5))
     go_end0
     exact ⟨rfl,by rw [HL.out];exact H5.out,(HKp.out.trans (zaK (S:=fun b=>b=p) HD1.out) (fun _ h=>.inl h)).trans K5.out (fun _ h=>.inl h)⟩
   obtain ⟨b2,off2,hab,hb⟩:=HAT.out hl
   simp only [Option.some.injEq,Addr.mk.injEq,and_true] at hab
   obtain ⟨rfl,rfl⟩:=hab
   have d1:decide ((m:Int)≥(bs.length:Int))=false:=decide_eq_false (by omega)
   have hl2:(m:Int)<(bs.length:Int):=by omega
   have hl3:¬(bs.length:Int)≤(m:Int):=by omega
   by_cases h10:bs.getD m 0=10
   case neg =>
     have HL:=Lib.hid (show zbR bs last ((k:Int),0)=((m:Int),18) from by unfold zbR;rw [if_neg (by simp),HCR.out,if_neg hl3,if_pos (by rw [Int.toNat_natCast];exact h10)])
     have n10:(((bs.getD m 0).toNat:Int)==10)=false:=by rw [beq_eq_false_iff_ne];exact byte_ne h10
     have n11:(((bs.getD m 0).toNat:Int) != 10)=true:=by simp only [bne,n10,Bool.not_false]
     clear hl h10
     generalize ((bs.getD m 0).toNat:Int)=xx at *
     go_wp2_with fail
     go_region
     go_wp2_with fail
     go_region
     go_wp2_with (go_at_call 57;refine (HFA.out _ HD2.out _).mono ?_;rintro e w5 ⟨rfl,h5,k5⟩;have H5:=Lib.hid h5;have K5:=Lib.hid k5;clear h5 k5)
     go_end0
     exact ⟨rfl,by rw [HL.out];exact H5.out,(HKp.out.trans (zaK (S:=fun b=>b=p) HD2.out) (fun _ h=>.inl h)).trans K5.out (fun _ h=>.inl h)⟩
   have HL:=Lib.hid (show zbR bs last ((k:Int),0)=((m:Int)+1,0) from by unfold zbR;rw [if_neg (by simp),HCR.out,if_neg hl3,if_neg (by rw [Int.toNat_natCast,h10];decide)])
   rw [h10] at hb
   have HM2:=Lib.hid ((HM.out.mono HD2.out).setAt ((m:Int)+1))
   have HK2:=Lib.hid ((HKp.out.trans (zaK (S:=fun b=>b=p) HD2.out) (fun _ h=>.inl h)).setCell (a:=⟨p,1,none⟩) (.inl rfl) (.int .i64 ((m:Int)+1)))
   clear hl h10
   go_wp2_with fail
   go_region
   go_wp2_with fail
   go_region
   go_wp2_with fail
   go_end0
   exact ⟨rfl,by rw [HL.out];exact HM2.out,HK2.out⟩
 · have hcr : crS bs k = k := by unfold crS; rw [if_neg (fun h => hc ⟨by omega, by have := h.2; rwa [Int.toNat_natCast] at this⟩)]
   obtain ⟨⟨c0,c1,c2,c3⟩,f0,f1,f2,f3⟩:=h.cells
   by_cases hk:k<bs.length
   · obtain ⟨b,off,rfl,hb⟩:=h.at hk
     have n13:(((bs.getD k 0).toNat:Int)==13)=false:=by rw [beq_eq_false_iff_ne];exact byte_ne (fun e=>hc ⟨hk,e⟩)
     have d1:decide ((k:Int)<(bs.length:Int))=true:=decide_eq_true (by omega)
     have d2:(k:Int)<(bs.length:Int):=by omega
     clear hc
     obtain ⟨xx,hxx⟩:∃xx:Int,xx=((bs.getD k 0).toNat:Int):=⟨_,rfl⟩
     rw [←hxx] at n13 hb
     clear hxx
     go_enter Tryz.func60,Tryz.ntmps60
     go_wp2_with fail
     go_quiet (fail)
     go_upto_region 3 with fail
     have hM:=HS.out.mono (zad (Below.refl _ _) nq)
     have hKp:=zaK (S:=fun b=>b=p) (zad (Below.refl w.heap.size w) nq)
     clear hb d1 d2 c0 c1 c2 c3 f0 f1 f2 f3 n13
     generalize w.drewN nq=W3 at *
     have hm1:k≤bs.length:=by omega
     clear hk
     have HM:=Lib.hid hM
     have HKp:=Lib.hid hKp
     have HCR:=Lib.hid hcr
     have HFA:=Lib.hid (fun (W:World) (hb:Below W3.heap.size W3 W) e=>zc3 (HM.out.mono hb) e)
     have HD1:=Lib.hid (show Below W3.heap.size W3 W3.drew from (Below.refl _ _).drew)
     have HD2:=Lib.hid (show Below W3.heap.size W3 W3.drew.drew from ((Below.refl _ _).drew).drew)
     have HOP:=Lib.hid (zec (hM.mono HD1.out))
     have HAT:=Lib.hid (fun (hk:k<bs.length)=>hM.at hk)
     obtain ⟨⟨c0,c1,c2,c3⟩,f0,f1,f2,f3⟩:=hM.cells
     clear hM hKp hcr h HS h0 h1
     by_cases he:er0=0
     case neg =>
       have HL:=Lib.hid (show zbR bs last ((k:Int),er0)=((k:Int),er0) from by unfold zbR;rw [if_pos he,HCR.out])
       have e1:(er0==0)=false:=by rw [beq_eq_false_iff_ne];exact he
       have e2:(er0 != 0)=true:=by simp only [bne,e1,Bool.not_false]
       clear he
       dsimp only at c1 c3
       go_wp2_with fail
       go_end0
       exact ⟨rfl,by rw [HL.out];exact HM.out,HKp.out⟩
     subst he
     dsimp only at c1 c3
     by_cases hl:k<bs.length
     case neg =>
       have HL:=Lib.hid (show zbR bs last ((k:Int),0)=((k:Int),zbb last) from by unfold zbR;rw [if_neg (by simp),HCR.out,if_pos (by omega)])
       have d1:decide ((k:Int)≥(bs.length:Int))=true:=decide_eq_true (by omega)
       have hl2:(bs.length:Int)≤(k:Int):=by omega
       clear hl
       go_wp2_with fail
       go_region
       go_wp2_with (first|(go_at_call 100;refine HOP.out.mono ?_;rintro e w' ⟨rfl,rfl⟩)|(go_at_call 57;refine (HFA.out _ HD1.out _).mono ?_;rintro e w5 ⟨rfl,h5,k5⟩;have H5:=Lib.hid h5;have K5:=Lib.hid k5;clear h5 k5))
       go_end0
       exact ⟨rfl,by rw [HL.out];exact H5.out,(HKp.out.trans (zaK (S:=fun b=>b=p) HD1.out) (fun _ h=>.inl h)).trans K5.out (fun _ h=>.inl h)⟩
     obtain ⟨b2,off2,hab,hb⟩:=HAT.out hl
     simp only [Option.some.injEq,Addr.mk.injEq,and_true] at hab
     obtain ⟨rfl,rfl⟩:=hab
     have d1:decide ((k:Int)≥(bs.length:Int))=false:=decide_eq_false (by omega)
     have hl2:(k:Int)<(bs.length:Int):=by omega
     have hl3:¬(bs.length:Int)≤(k:Int):=by omega
     by_cases h10:bs.getD k 0=10
     case neg =>
       have HL:=Lib.hid (show zbR bs last ((k:Int),0)=((k:Int),18) from by unfold zbR;rw [if_neg (by simp),HCR.out,if_neg hl3,if_pos (by rw [Int.toNat_natCast];exact h10)])
       have n10:(((bs.getD k 0).toNat:Int)==10)=false:=by rw [beq_eq_false_iff_ne];exact byte_ne h10
       have n11:(((bs.getD k 0).toNat:Int) != 10)=true:=by simp only [bne,n10,Bool.not_false]
       clear hl h10
       generalize ((bs.getD k 0).toNat:Int)=xx at *
       go_wp2_with fail
       go_region
       go_wp2_with fail
       go_region
       go_wp2_with (go_at_call 57;refine (HFA.out _ HD2.out _).mono ?_;rintro e w5 ⟨rfl,h5,k5⟩;have H5:=Lib.hid h5;have K5:=Lib.hid k5;clear h5 k5)
       go_end0
       exact ⟨rfl,by rw [HL.out];exact H5.out,(HKp.out.trans (zaK (S:=fun b=>b=p) HD2.out) (fun _ h=>.inl h)).trans K5.out (fun _ h=>.inl h)⟩
     have HL:=Lib.hid (show zbR bs last ((k:Int),0)=((k:Int)+1,0) from by unfold zbR;rw [if_neg (by simp),HCR.out,if_neg hl3,if_neg (by rw [Int.toNat_natCast,h10];decide)])
     rw [h10] at hb
     have HM2:=Lib.hid ((HM.out.mono HD2.out).setAt ((k:Int)+1))
     have HK2:=Lib.hid ((HKp.out.trans (zaK (S:=fun b=>b=p) HD2.out) (fun _ h=>.inl h)).setCell (a:=⟨p,1,none⟩) (.inl rfl) (.int .i64 ((k:Int)+1)))
     clear hl h10
     go_wp2_with fail
     go_region
     go_wp2_with fail
     go_region
     go_wp2_with fail
     go_end0
     exact ⟨rfl,by rw [HL.out];exact HM2.out,HK2.out⟩
   · have d1 : decide ((k : Int) < (bs.length : Int)) = false := decide_eq_false (by omega)
     have hkn:=hk
     clear hc
     go_enter Tryz.func60,Tryz.ntmps60
     go_wp2_with fail
     go_quiet (fail)
     go_upto_region 3 with fail
     have hM:=HS.out.mono (zad (Below.refl _ _) nq)
     have hKp:=zaK (S:=fun b=>b=p) (zad (Below.refl w.heap.size w) nq)
     clear d1 c0 c1 c2 c3 f0 f1 f2 f3
     generalize w.drewN nq=W3 at *
     have hm1:k≤bs.length:=by omega
     clear hk
     have HM:=Lib.hid hM
     have HKp:=Lib.hid hKp
     have HCR:=Lib.hid hcr
     have HFA:=Lib.hid (fun (W:World) (hb:Below W3.heap.size W3 W) e=>zc3 (HM.out.mono hb) e)
     have HD1:=Lib.hid (show Below W3.heap.size W3 W3.drew from (Below.refl _ _).drew)
     have HD2:=Lib.hid (show Below W3.heap.size W3 W3.drew.drew from ((Below.refl _ _).drew).drew)
     have HOP:=Lib.hid (zec (hM.mono HD1.out))
     have HAT:=Lib.hid (fun (hk:k<bs.length)=>hM.at hk)
     obtain ⟨⟨c0,c1,c2,c3⟩,f0,f1,f2,f3⟩:=hM.cells
     clear hM hKp hcr h HS h0 h1
     by_cases he:er0=0
     case neg =>
       have HL:=Lib.hid (show zbR bs last ((k:Int),er0)=((k:Int),er0) from by unfold zbR;rw [if_pos he,HCR.out])
       have e1:(er0==0)=false:=by rw [beq_eq_false_iff_ne];exact he
       have e2:(er0 != 0)=true:=by simp only [bne,e1,Bool.not_false]
       clear he
       dsimp only at c1 c3
       go_wp2_with fail
       go_end0
       exact ⟨rfl,by rw [HL.out];exact HM.out,HKp.out⟩
     subst he
     dsimp only at c1 c3
     by_cases hl:k<bs.length
     case neg =>
       have HL:=Lib.hid (show zbR bs last ((k:Int),0)=((k:Int),zbb last) from by unfold zbR;rw [if_neg (by simp),HCR.out,if_pos (by omega)])
       have d1:decide ((k:Int)≥(bs.length:Int))=true:=decide_eq_true (by omega)
       have hl2:(bs.length:Int)≤(k:Int):=by omega
       clear hl
       go_wp2_with fail
       go_region
       go_wp2_with (first|(go_at_call 100;refine HOP.out.mono ?_;rintro e w' ⟨rfl,rfl⟩)|(go_at_call 57;refine (HFA.out _ HD1.out _).mono ?_;rintro e w5 ⟨rfl,h5,k5⟩;have H5:=Lib.hid h5;have K5:=Lib.hid k5;clear h5 k5))
       go_end0
       exact ⟨rfl,by rw [HL.out];exact H5.out,(HKp.out.trans (zaK (S:=fun b=>b=p) HD1.out) (fun _ h=>.inl h)).trans K5.out (fun _ h=>.inl h)⟩
     exact absurd hl hkn
end
end Go.Proofs.YtkhcjoomijkfbaaGreatDoor
namespace Go.Proofs.YtkhcjoomijkfbaaGreatDoor
open Go.RowKit
theorem Row.pieceF {w:World} {a:Option Addr} {c:Nat} {bs:List UInt8} (h:Row w 1 a bs.length c (bs.map u8C)) (k m:Nat) (hk:k+m≤bs.length) :
   Row w 1 (if c=k then a else a.map fun x=>x.add k) ((bs.drop k).take m).length (c-k) (((bs.drop k).take m).map u8C):=by
 obtain ⟨h1,h2,h3,h4,h5⟩:=h
 have hl:((bs.drop k).take m).length=m:=by rw [List.length_take,List.length_drop];omega
 rw [hl]
 by_cases hck:c=k
 · rw [if_pos hck]
   obtain rfl:m=0:=by omega
   exact ⟨by simp,by omega,by omega,fun _=>by omega,fun hn=>by omega⟩
 · rw [if_neg hck]
   refine ⟨by rw [List.length_map,hl,Nat.mul_one],by omega,by omega,fun e=>?_,fun hn=>?_⟩
   · cases a with
     | none=>have:=h4 rfl;omega
     | some x=>cases e
   · obtain ⟨b, off, rfl, hb, hcell⟩ := h5 (by omega)
     refine ⟨b,off+k,by simp [Addr.add],hb,fun j u hj=>?_⟩
     rw [List.getElem?_map,List.getElem?_take] at hj
     split at hj
     · rw [List.getElem?_drop,←List.getElem?_map] at hj
       rw [Nat.add_assoc];exact hcell _ u hj
     · cases hj
section
variable {w0 w : World} {p : Nat} {a : Option Addr} {cap : Nat} {bs : List UInt8} {last : Bool} {s : Int × Int}
def BytEnd (w0 w:World) (p:Nat) (a:Option Addr) (cap:Nat) (bs:List UInt8) (last:Bool) (s:Int×Int) (e:Ending) (w':World):Prop :=
 ∃(ds:List UInt8) (a2:Option Addr) (c2:Nat),e=.returned (.slice a2 ds.length c2)∧Row w0 1 a2 ds.length c2 (ds.map u8C)∧ds.length≤bs.length∧IsFd w0 w' p a cap bs last s∧Keeps (fun b=>b=p) w w'
theorem fbytes_any (h:IsFd w0 w p a cap bs last s) (n:Int) (hs:s.2=0→0≤s.1∧s.1≤bs.length∧0≤n):Calls Tryz.prog 61 #[.pointer (some ⟨p,0,none⟩),.int .i64 n] w (BytEnd w0 w p a cap bs last (bytS bs last n s)):=by
 obtain ⟨at0,er0⟩:=s
 dsimp only at hs
 have HM:=Lib.hid h
 have hsm:=h.small
 have HFA:=Lib.hid (fun (W:World) (hb:Below w.heap.size w W) e=>zc3 (h.mono hb) e)
 have HOP:=Lib.hid (fun (W:World) (hb:Below w.heap.size w W)=>zec (h.mono hb))
 obtain ⟨⟨c0,c1,c2,c3⟩,f0,f1,f2,f3⟩:=h.cells
 have HR:=Lib.hid h.bytes
 clear h
 dsimp only at c1 c3
 unfold BytEnd
 by_cases he:er0=0
 case neg =>
   have HL:=Lib.hid (show bytS bs last n (at0,er0)=(at0,er0) from by unfold bytS;rw [if_pos he])
   have e1:(er0==0)=false:=by rw [beq_eq_false_iff_ne];exact he
   have e2:(er0 != 0)=true:=by simp only [bne,e1,Bool.not_false]
   clear he hs
   go_enter Tryz.func61,Tryz.ntmps61
   go_wp2_with fail
   go_ret
   exact ⟨[],none,0,rfl,Row.nil _ 1,Nat.zero_le _,by rw [HL.out];exact HM.out,Keeps.refl _ _⟩
 subst he
 obtain ⟨h0,h1,h2⟩:=hs rfl
 obtain ⟨k,rfl⟩:∃k:Nat,at0=k:=⟨at0.toNat,by omega⟩
 obtain ⟨m,rfl⟩:∃m:Nat,n=m:=⟨n.toNat,by omega⟩
 have hw1:IntKind.i64.wrap ((bs.length:Int)-(k:Int))=(bs.length:Int)-(k:Int):=IntWalk.i64_in _ (by omega)
 clear hs h0 h2
 have HD1:=Lib.hid (show Below w.heap.size w w.drew from (Below.refl _ _).drew)
 by_cases hc:(bs.length:Int)-(k:Int)<(m:Int)
 · have HL := Lib.hid (show bytS bs last (m : Int) ((k : Int), 0) = ((k : Int), zbb last) from by unfold bytS; rw [if_neg (by simp), if_pos hc])
   have d1:decide ((m:Int) > (bs.length:Int)-(k:Int))=true:=decide_eq_true hc
   go_enter Tryz.func61,Tryz.ntmps61
   go_wp2_with fail
   go_region
   go_wp2_with (first|(go_at_call 100;refine (HOP.out _ HD1.out).mono ?_;rintro e w' ⟨rfl,rfl⟩)|(go_at_call 57;refine (HFA.out _ HD1.out _).mono ?_;rintro e w5 ⟨rfl,h5,k5⟩;have H5:=Lib.hid h5;have K5:=Lib.hid k5;clear h5 k5))
   go_ret
   exact ⟨[],none,0,rfl,Row.nil _ 1,Nat.zero_le _,by rw [HL.out];exact H5.out,(zaK (S:=fun b=>b=p) HD1.out).trans K5.out (fun _ h=>.inl h)⟩
 have HL:=Lib.hid (show bytS bs last (m:Int) ((k:Int),0)=((k:Int)+(m:Int),0) from by unfold bytS;rw [if_neg (by simp),if_neg hc])
 have d1:decide ((m:Int) > (bs.length:Int)-(k:Int))=false:=decide_eq_false (by omega)
 have hw2:IntKind.i64.wrap ((k:Int)+(m:Int))=((k+m:Nat):Int):=by rw [IntWalk.i64_in _ (by omega)];omega
 have hw3:IntKind.i64.wrap ((k:Int)+(m:Int)-(m:Int))=(k:Int):=by rw [IntWalk.i64_in _ (by omega)];omega
 have hkm:k+m≤bs.length:=by omega
 have hcp:=HR.out.2.1
 go_enter Tryz.func61,Tryz.ntmps61
 go_wp2_with fail
 go_region
 go_upto_region 7 with fail
 have HM3:=Lib.hid ((HM.out.setAt ((k:Int)+(m:Int))).mono ((Below.refl _ _).drew).drew)
 have HK3:=Lib.hid (((Keeps.refl (fun b=>b=p) w).setCell (a:=⟨p,1,none⟩) (.inl rfl) (.int .i64 ((k:Int)+(m:Int)))).trans (zaK (S:=fun b=>b=p) ((Below.refl _ _).drew).drew) (fun _ h=>.inl h))
 clear HM HR HFA HOP HD1 hw1 hw2 d1 hc h1
 have hb0:(0:Int)≤(k:Int)+(m:Int):=by omega
 have hb1:(k:Int)≤(k:Int)+(m:Int):=by omega
 have hb2:(k:Int)+(m:Int)≤(cap:Int):=by omega
 have hb3:0≤(k:Int):=by omega
 go_region
 have hl:((bs.drop k).take m).length=k+m-k:=by rw [List.length_take,List.length_drop];omega
 rw [←hl]
 generalize World.drew (World.drew _)=W3 at *
 have HRW:=Lib.hid (Row.pieceF HM3.out.row k m hkm)
 have HLE:=Lib.hid (show ((bs.drop k).take m).length≤bs.length by rw [List.length_take,List.length_drop];omega)
 clear hb0 hb1 hb2 hb3 hw3 hl
 generalize (if cap=k then a else a.map fun x=>x.add k)=a2 at *
 generalize (bs.drop k).take m=ds at *
 obtain ⟨dl,hdl⟩:∃dl,dl=ds.length:=⟨_,rfl⟩
 rw [←hdl] at HRW HLE ⊢
 have HDL:=Lib.hid hdl.symm
 clear hdl
 go_wp2_with fail
 go_ret
 exact ⟨ds,a2,cap-k,by rw [HDL.out];rfl,by rw [HDL.out];exact HRW.out,by rw [HDL.out];exact HLE.out,by rw [HL.out];exact HM3.out,HK3.out⟩
end
end Go.Proofs.YtkhcjoomijkfbaaGreatDoor
namespace Go.Proofs.YtkhcjoomijkfbaaGreatDoor
open Go.RowKit
theorem fhas_any {w : World} {F : Nat → Prop} {v : PV} {sl : Value} (h : IsV w F v sl) (hev : v.kind = 7 → v.l.length % 2 = 0) (key : List UInt8) : Calls Tryz.prog 59 #[pvA v sl, .string (mkB key)] w fun e w' => e = .returned (.bool (getP (getV v key)).2) ∧ Below w.heap.size w w' := by
 obtain ⟨a,c,rfl,-,-,-⟩:=h.len
 have HG:=Lib.hid (fun W (hb:Below w.heap.size w W)=>zea (h.below hb) hev key)
 have HB1:=Lib.hid (zah w (.cells #[.int .i64 v.kind,.int .i64 v.n,.string (mkB v.s),.slice a v.l.length c] 48))
 have HK1:=Lib.hid (zac (w:=w) (b:=w.heap.size) (.cells #[.int .i64 v.kind,.int .i64 v.n,.string (mkB v.s),.slice a v.l.length c] 48) rfl)
 generalize getP (getV v key)=G at *
 generalize mkB key=kk at *
 obtain ⟨g,is⟩:=G
 unfold zgS at HG
 unfold pvA at HG ⊢
 dsimp only at HG ⊢
 clear h hev
 generalize v.kind=k at *
 generalize v.n=n at *
 generalize mkB v.s=s at *
 generalize v.l.length=l at *
 go_enter Tryz.func59,Tryz.ntmps59
 go_upto_region 1 with fail
 generalize w.heap.size=r at HK1 ⊢
 generalize w.alloc _=W1 at *
 obtain ⟨⟨t0,t1,t2,t3⟩,-⟩:=zaf HK1.out
 go_wp2_with fail
 refine (HG.out _ HB1.out).mono ?_
 rintro e w2 ⟨sl2,rfl,hx,hb2⟩
 obtain ⟨ta,tc,rfl,-,-,-⟩:=hx.len
 have HB3:=Lib.hid (HB1.out.trans ((hb2.alloc hb2.size (.cells #[.int .i64 g.kind,.int .i64 g.n,.string (mkB g.s),.slice ta g.l.length tc] 48)).mono HB1.out.size))
 clear hb2 hx t0 t1 t2 t3 HK1 HB1 HG
 go_upto_region 2 with fail
 generalize w2.alloc _=W3 at *
 go_wp2_with fail
 go_ret
 exact ⟨rfl,HB3.out⟩
def filtO (g:PV):PV:=if g.kind=6∧g.l.length=1 then g.l.getD 0 PV.none else g
def mayO (g:PV) (is:Bool):Bool:=!is||(decide ((filtO g).kind=5)&&decide ((filtO g).s=zdh))
theorem mayV_is (v:PV):mayV v=mayO (getP (getV v za1)).1 (getP (getV v za1)).2:=rfl
theorem filt_cases (g:PV):(¬g.kind=6∧filtO g=g)∨(g.kind=6∧¬g.l.length=1∧filtO g=g)∨(∃x,g.kind=6∧g.l=[x]∧filtO g=x):=by
 by_cases h6:g.kind=6
 · by_cases h1:g.l.length=1
   · obtain ⟨x,hx⟩:∃x,g.l=[x]:=List.length_eq_one_iff.1 h1
     refine .inr (.inr ⟨x,h6,hx,?_⟩)
     unfold filtO
     rw [if_pos ⟨h6,h1⟩,hx];rfl
   · exact .inr (.inl ⟨h6,h1,if_neg fun h=>h1 h.2⟩)
 · exact .inl ⟨h6,if_neg fun h=>h6 h.1⟩
theorem may_cases (f:PV) (is:Bool):(is=false∧(!is||(decide (f.kind=5)&&decide (f.s=zdh)))=true)∨(is=true∧(f.kind==5)=false∧(!is||(decide (f.kind=5)&&decide (f.s=zdh)))=false) ∨
   (is=true∧(f.kind==5)=true∧decide (f.s=zdh)=false∧(!is||(decide (f.kind=5)&&decide (f.s=zdh)))=false)∨(is=true∧(f.kind==5)=true∧decide (f.s=zdh)=true∧(!is||(decide (f.kind=5)&&decide (f.s=zdh)))=true):=by
 cases is with
 | false=>exact .inl ⟨rfl,rfl⟩
 | true =>
   by_cases hk:f.kind=5
   · have e1 : (f.kind == 5) = true := by rw [hk]; rfl
     cases hs:decide (f.s=zdh) with
     | true=>exact .inr (.inr (.inr ⟨rfl,e1,rfl,by rw [decide_eq_true hk];rfl⟩))
     | false=>exact .inr (.inr (.inl ⟨rfl,e1,rfl,by rw [decide_eq_true hk];rfl⟩))
   · exact .inr (.inl ⟨rfl,by rw [beq_eq_false_iff_ne];exact hk,by rw [decide_eq_false hk];rfl⟩)
theorem set4F {w:World} {b:Nat} {x0 x1 x2 x3:Value} {t:TypeId} (h:w.heap[b]?=some (.cells #[x0,x1,x2,x3] t (0,0))) (y0 y1 y2 y3:Value) :
   ((((w.setCell ⟨b,0,none⟩ y0).setCell ⟨b,1,none⟩ y1).setCell ⟨b,2,none⟩ y2).setCell ⟨b,3,none⟩ y3).heap[b]?=some (.cells #[y0,y1,y2,y3] t (0,0)):=by
 rw [heap_setCell_same _ _ 3 _ _ _ (heap_setCell_same _ _ 2 _ _ _ (heap_setCell_same _ _ 1 _ _ _ (heap_setCell_same w _ 0 _ _ _ h)))];rfl
theorem fpacked_any {w : World} {F : Nat → Prop} {v : PV} {sl : Value} (h : IsV w F v sl) (hev : v.kind = 7 → v.l.length % 2 = 0) : Calls Tryz.prog 58 #[pvA v sl] w fun e w' => e = .returned (.tuple #[.bool (getP (getV v za1)).2, .bool (mayV v)]) ∧ Below w.heap.size w w' := by
 rw [mayV_is]
 obtain ⟨a,c,rfl,-,-,-⟩:=h.len
 have HG:=Lib.hid (fun W (hb:Below w.heap.size w W)=>zea (h.below hb) hev za1)
 have HB1:=Lib.hid (zah w (.cells #[.int .i64 v.kind,.int .i64 v.n,.string (mkB v.s),.slice a v.l.length c] 48))
 have HK1:=Lib.hid (zac (w:=w) (b:=w.heap.size) (.cells #[.int .i64 v.kind,.int .i64 v.n,.string (mkB v.s),.slice a v.l.length c] 48) rfl)
 generalize getP (getV v za1)=G at *
 obtain ⟨g,is⟩:=G
 unfold zgS at HG
 unfold pvA at HG ⊢
 dsimp only at HG ⊢
 have hcs:=filt_cases g
 unfold mayO
 generalize hf:filtO g=f at *
 have hms:=may_cases f is
 have hqs:=zd6 f.s zdh
 unfold zdh at hqs hms ⊢
 obtain ⟨M,hM⟩:∃M,M=(!is||(decide (f.kind=5)&&decide (f.s=[70,108,97,116,101,68,101,99,111,100,101]))):=⟨_,rfl⟩
 rw [←hM] at hms ⊢
 have HMS:=Lib.hid hms
 have HQS:=Lib.hid hqs
 clear hM hms hqs hf
 clear h hev
 generalize v.kind=k at *
 generalize v.n=n at *
 generalize mkB v.s=s at *
 generalize v.l.length=l at *
 go_enter Tryz.func58,Tryz.ntmps58
 go_upto_region 1 with fail
 generalize w.heap.size=r at HK1 ⊢
 generalize w.alloc _=W1 at *
 obtain ⟨⟨t0,t1,t2,t3⟩,-⟩:=zaf HK1.out
 go_wp2_with fail
 refine (HG.out _ HB1.out).mono ?_
 rintro e w2 ⟨sl2,rfl,hx,hb2⟩
 obtain ⟨ta,tc,rfl,hcp1,hcp2,-⟩:=hx.len
 have HB3:=Lib.hid (HB1.out.trans ((hb2.alloc hb2.size (.cells #[.int .i64 g.kind,.int .i64 g.n,.string (mkB g.s),.slice ta g.l.length tc] 48)).mono HB1.out.size))
 have HN3:=Lib.hid (show w.heap.size≤w2.heap.size from Nat.le_trans HB1.out.size hb2.size)
 have HK3:=Lib.hid (zac (w:=w2) (b:=w2.heap.size) (.cells #[.int .i64 g.kind,.int .i64 g.n,.string (mkB g.s),.slice ta g.l.length tc] 48) rfl)
 have HX3:=Lib.hid (hx.below (zah w2 (.cells #[.int .i64 g.kind,.int .i64 g.n,.string (mkB g.s),.slice ta g.l.length tc] 48)))
 clear hb2 hx t0 t1 t2 t3 HK1 HB1 HG
 go_upto_region 2 with fail
 obtain ⟨o,ho⟩:∃o,o=w2.heap.size:=⟨_,rfl⟩
 rw [←ho] at HK3 HN3 ⊢
 clear ho
 generalize w2.alloc _=W3 at *
 obtain ⟨⟨t0,t1,t2,t3⟩,u0,u1,u2,u3⟩:=zaf HK3.out
 unfold maxLen at hcp2
 rcases hcs with ⟨h6,rfl⟩|⟨h6,hl,rfl⟩|⟨x,h6,hl,rfl⟩
 · have e1 : (f.kind == 6) = false := by rw [beq_eq_false_iff_ne]; exact h6
   clear h6 HX3
   rcases HMS.out with ⟨rfl,rfl⟩|⟨rfl,m1,rfl⟩|⟨rfl,m1,m2,rfl⟩|⟨rfl,m1,m2,rfl⟩
   · clear HMS HQS
     generalize f.kind=fk at *
     generalize mkB f.s=fs at *
     go_wp2_with fail
     go_quiet (fail)
     go_wp2_with fail
     go_ret2
     exact ⟨rfl,zad HB3.out _⟩
   · clear HMS HQS
     generalize f.kind=fk at *
     generalize mkB f.s=fs at *
     go_wp2_with fail
     go_quiet (fail)
     go_wp2_with fail
     go_ret2
     exact ⟨rfl,zad HB3.out _⟩
   · have q:=HQS.out
     rw [m2] at q
     clear HMS HQS m2
     generalize f.kind=fk at *
     generalize mkB f.s=fs at *
     go_wp2_with fail
     go_quiet (fail)
     go_wp2_with fail
     go_ret2
     exact ⟨rfl,zad HB3.out _⟩
   · have q:=HQS.out
     rw [m2] at q
     clear HMS HQS m2
     generalize f.kind=fk at *
     generalize mkB f.s=fs at *
     go_wp2_with fail
     go_quiet (fail)
     go_wp2_with fail
     go_ret2
     exact ⟨rfl,zad HB3.out _⟩
 · have e1 : (f.kind == 6) = true := by rw [h6]; rfl
   have e2:((f.l.length:Int)==1)=false:=by rw [beq_eq_false_iff_ne];omega
   clear h6 hl HX3
   generalize f.l.length=gl at *
   rcases HMS.out with ⟨rfl,rfl⟩|⟨rfl,m1,rfl⟩|⟨rfl,m1,m2,rfl⟩|⟨rfl,m1,m2,rfl⟩
   · clear HMS HQS
     generalize f.kind=fk at *
     generalize mkB f.s=fs at *
     go_wp2_with fail
     go_quiet (fail)
     go_wp2_with fail
     go_ret2
     exact ⟨rfl,zad HB3.out _⟩
   · clear HMS HQS
     generalize f.kind=fk at *
     generalize mkB f.s=fs at *
     go_wp2_with fail
     go_quiet (fail)
     go_wp2_with fail
     go_ret2
     exact ⟨rfl,zad HB3.out _⟩
   · have q:=HQS.out
     rw [m2] at q
     clear HMS HQS m2
     generalize f.kind=fk at *
     generalize mkB f.s=fs at *
     go_wp2_with fail
     go_quiet (fail)
     go_wp2_with fail
     go_ret2
     exact ⟨rfl,zad HB3.out _⟩
   · have q:=HQS.out
     rw [m2] at q
     clear HMS HQS m2
     generalize f.kind=fk at *
     generalize mkB f.s=fs at *
     go_wp2_with fail
     go_quiet (fail)
     go_wp2_with fail
     go_ret2
     exact ⟨rfl,zad HB3.out _⟩
 · have e1 : (g.kind == 6) = true := by rw [h6]; rfl
   have hlen:g.l.length=1:=by rw [hl];rfl
   have e2:((g.l.length:Int)==1)=true:=by rw [hlen];rfl
   obtain ⟨-,-,-,b,off,rfl,hbW,-,hat⟩:=HX3.out.at (by omega)
   obtain ⟨s0,hs0,x0,x1,x2,x3⟩:=hat 0 f (by rw [hl];rfl)
   rw [Nat.zero_mul,Nat.add_zero] at x0 x1 x2 x3
   obtain ⟨xa,xc,rfl,-,-,-⟩:=hs0.len
   have hn0:(0:Int)<(g.l.length:Int):=by omega
   have HZ:=Lib.hid (set4F HK3.out (.int .i64 f.kind) (.int .i64 f.n) (.string (mkB f.s)) (.slice xa f.l.length xc))
   have HBZ:=Lib.hid (show Below w.heap.size w ((((W3.setCell ⟨o,0,none⟩ (.int .i64 f.kind)).setCell ⟨o,1,none⟩ (.int .i64 f.n)).setCell ⟨o,2,none⟩ (.string (mkB f.s))).setCell ⟨o,3,none⟩ (.slice xa f.l.length xc)) from (((HB3.out.setCell HN3.out _).setCell HN3.out _).setCell HN3.out _).setCell HN3.out _)
   clear hat h6 hl HX3 hlen hs0 HK3 HB3
   generalize g.l.length=gl at *
   generalize g.kind=gk at *
   generalize f.l.length=xl at *
   generalize f.n=xn at *
   go_upto_region 4 with fail
   generalize World.setCell _ _ _=W4 at *
   clear t0 t1 t2 t3 u0 u1 u2 u3 x0 x1 x2 x3
   obtain ⟨⟨t0,t1,t2,t3⟩,-⟩:=zaf HZ.out
   rcases HMS.out with ⟨rfl,rfl⟩|⟨rfl,m1,rfl⟩|⟨rfl,m1,m2,rfl⟩|⟨rfl,m1,m2,rfl⟩
   · clear HMS HQS
     generalize f.kind=fk at *
     generalize mkB f.s=fs at *
     go_wp2_with fail
     go_quiet (fail)
     go_wp2_with fail
     go_ret2
     exact ⟨rfl,zad HBZ.out _⟩
   · clear HMS HQS
     generalize f.kind=fk at *
     generalize mkB f.s=fs at *
     go_wp2_with fail
     go_quiet (fail)
     go_wp2_with fail
     go_ret2
     exact ⟨rfl,zad HBZ.out _⟩
   · have q:=HQS.out
     rw [m2] at q
     clear HMS HQS m2
     generalize f.kind=fk at *
     generalize mkB f.s=fs at *
     go_wp2_with fail
     go_quiet (fail)
     go_wp2_with fail
     go_ret2
     exact ⟨rfl,zad HBZ.out _⟩
   · have q:=HQS.out
     rw [m2] at q
     clear HMS HQS m2
     generalize f.kind=fk at *
     generalize mkB f.s=fs at *
     go_wp2_with fail
     go_quiet (fail)
     go_wp2_with fail
     go_ret2
     exact ⟨rfl,zad HBZ.out _⟩
theorem own_noneV {w:World} {base:Nat} (hb:base≤w.heap.size):(w.alloc (.cells #[] 48)).ownsRow base 48 4 (.slice (some ⟨w.heap.size,0,none⟩) 0 0) 0 [] :=
 ⟨rfl,.inr ⟨w.heap.size,0,#[],rfl,hb,zac _ rfl,Nat.le_refl _,Nat.zero_le _,rfl,rfl⟩⟩
theorem vclone_any {w:World} {x:Addr} {n cap:Nat} {xs:List Value} (hr:Row w 4 (some x) n cap xs) (h1:∀u∈xs,u.oneCell'=true) (hn:n≤1000000) (hn0:0<n) :
   Calls Tryz.prog 108 #[.slice (some x) n cap] w fun e w'=>∃v,e=.returned v∧w'.ownsRow w.heap.size 48 4 v n xs∧Below w.heap.size w w':=by
 have HO:=Lib.hid (own_noneV (w:=w) (base:=w.heap.size) (Nat.le_refl _))
 have HB:=Lib.hid (zah w (.cells #[] 48))
 have HR:=Lib.hid (hr.mono (zah w (.cells #[] 48)))
 have HS:=Lib.hid (zal w (.cells #[] 48))
 have H1:=Lib.hid h1
 have hq:(binOp .eql 46 (.slice (some x) n cap) (.slice none 0 0)).run Tryz.prog w=.ok (.bool false) w:=Lib.run_eql_slice_nil w 46 48 (some x) n cap 0 0 Tryz.underlying46
 clear hr h1
 go_enter Tryz.func108,Tryz.ntmps108
 go_wp2_with (at_builtin;(refine zef EPV rfl (.tmp 5) (.tmp 6) rfl w.heap.size _ 0 [] rfl HO.out (some x) n cap xs rfl HR.out H1.out (by unfold maxLen;omega) (by omega) (by rw [HS.out];omega) ?_);intro v6 w6 hO6 hg6 _;have HO6:=Lib.hid hO6;have HG6:=Lib.hid hg6;clear hO6 hg6)
 go_ret
 exact ⟨v6,rfl,by have:=HO6.out;rwa [Nat.zero_add,List.nil_append] at this,HB.out.grown HG6.out (by rw [HS.out];omega) (fun b hb=>(HO.out.lt b hb).1)⟩
def zfu:List Value:=[.int .i64 0,.int .i64 0,.string ⟨#[]⟩,.slice none 0 0,.int .i64 0,.int .i64 0,.string ⟨#[]⟩,.slice none 0 0]
theorem run_clear2 (w:World) (ty:TypeId) (b o c:Nat) (hc:∀j,j<8→(w.cell? ⟨b,o+j,none⟩).isSome=true) (hf:∀j,j<8→w.frozen? ⟨b,o+j,none⟩=false) :
   (Builtin.clear_ #[46] ty #[.slice (some ⟨b,o,none⟩) 2 c]).run Tryz.prog w=.ok (.tuple #[]) (w.setCells b o zfu):=by
 obtain ⟨i,hi,hz,hs',hb⟩:=info_parts (EPV).info
 have hst:=run_storeCells_cells (P:=Tryz.prog) b o zfu 0 w (by simpa [zfu] using hc) (by simpa [zfu] using hf) (by intro v hv;simp [zfu] at hv;rcases hv with rfl|rfl|rfl|rfl|rfl|rfl|rfl|rfl<;>rfl)
 simp only [Nat.add_zero] at hst
 have hzc:(Builtin.zeroCells (Value.agg #[.int .i64 0,.int .i64 0,.string ⟨#[]⟩,.slice none 0 0]).cells 2).toList=zfu:=by
   simp [Builtin.zeroCells,Value.cells,zfu]
   rfl
 have hv:∀w,(zeroValue 48).run Tryz.prog w=.ok (.agg #[.int .i64 0,.int .i64 0,.string ⟨#[]⟩,.slice none 0 0]) w:=fun w=>by simp [zeroValue,typeInfo,hi,hz]
 simp [Builtin.clear_,run_underlying Tryz.underlying46,hv,hzc,hst]
theorem gap_reads {w:World} {g n j:Nat} {cur:Array Value} (hg:w.heap[g]?=some (.cells cur 48 (0,0))) (hn:n * 4≤cur.size) :
   (loadCellsFrom ⟨g,j * 4,none⟩ 0 ((n-j) * 4) #[]).run Tryz.prog w=.ok ((cur.toList.take (n * 4)).drop (j * 4)).toArray w:=by
 have hnl:((cur.toList.take (n * 4)).drop (j * 4)).length=(n-j) * 4:=by rw [List.length_drop,List.length_take,Array.length_toList];omega
 have h := run_firstCells_some (P := Tryz.prog) w 4 (n - j) ⟨g, j * 4, none⟩ (n - j) 0 ((cur.toList.take (n * 4)).drop (j * 4)) hnl (fun q u hq => by
   rw [Addr.add_lit,cell_of_row w g _ _ _ (0,0) hg]
   rw [List.getElem?_drop,List.getElem?_take] at hq
   split at hq
   · rw [←Array.getElem?_toList];exact hq
   · cases hq)
 simpa [Builtin.firstCells,loadCells] using h
theorem gap_writes {w:World} {g n k j:Nat} {cur:Array Value} (hg:w.heap[g]?=some (.cells cur 48 (0,0))) (hn:n * 4≤cur.size) (hkj:k≤j) (hjn:j≤n) (h1:∀u∈cur.toList.take (n * 4),u.oneCell'=true) :
   (storeCells ⟨g,k * 4,none⟩ ((cur.toList.take (n * 4)).drop (j * 4))).run Tryz.prog w=.ok () (w.setCells g (k * 4) ((cur.toList.take (n * 4)).drop (j * 4))):=by
 have hnl:((cur.toList.take (n * 4)).drop (j * 4)).length=(n-j) * 4:=by rw [List.length_drop,List.length_take,Array.length_toList];omega
 have hst := run_storeCells_cells (P := Tryz.prog) g (k * 4) ((cur.toList.take (n * 4)).drop (j * 4)) 0 w (fun q hq => by
   rw [cell_of_row w g _ _ _ (0,0) hg,Array.getElem?_eq_getElem (by omega)];rfl) (fun q _=>frozen_of_row w g _ _ _ hg) (fun u hu=>h1 u (List.mem_of_mem_drop hu))
 simpa using hst
theorem zc9 {g:Nat} {t:TypeId}:∀(vs:List Value) (o:Nat) (w:World) (cur:Array Value),w.heap[g]?=some (.cells cur t (0,0))→o+vs.length≤cur.size →
   ∃cur2,(w.setCells g o vs).heap[g]?=some (.cells cur2 t (0,0))∧cur2.size=cur.size∧(∀q,q<o∨o+vs.length≤q→cur2[q]?=cur[q]?)∧∀j,j<vs.length→cur2[o+j]?=vs[j]?
 | [],o,w,cur,h,_=>⟨cur,h,rfl,fun _ _=>rfl,fun j hj=>absurd hj (Nat.not_lt_zero j)⟩
 | v :: vs, o, w, cur, h, hl => by
   rw [List.length_cons] at hl
   obtain ⟨cur2,h1,h2,h3,h4⟩:=zc9 vs (o+1) (w.setCell ⟨g,o,none⟩ v) (cur.setIfInBounds o v) (heap_setCell_same w g o _ _ _ h) (by rw [Array.size_setIfInBounds];omega)
   refine ⟨cur2,h1,by rw [h2,Array.size_setIfInBounds],fun q hq=>?_,fun j hj=>?_⟩
   · rw [List.length_cons] at hq
     rw [h3 q (by omega),Array.getElem?_setIfInBounds_ne (by omega)]
   · cases j with
     | zero =>
       rw [Nat.add_zero,h3 o (by omega),Array.getElem?_setIfInBounds_self_of_lt (by omega)]
       rfl
     | succ j =>
       rw [show o+(j+1)=o+1+j by omega,h4 j (by simpa using hj)]
       rfl
theorem zcE {g : Nat} : ∀ (vs : List Value) (o : Nat) {w0 w : World}, Keeps (fun b => b = g) w0 w → Keeps (fun b => b = g) w0 (w.setCells g o vs)
 | [],_,_,_,h=>h
 | v::vs,o,_,_,h=>zcE vs (o+1) (h.setCell (a:=⟨g,o,none⟩) (.inl rfl) v)
theorem gap_row {w:World} {g n cap k m:Nat} {cur:Array Value} {ds:List Value} (hg:w.heap[g]?=some (.cells cur 48 (0,0))) (hnc:n≤cap) (hcm:cap≤maxLen) (hcs:cap * 4≤cur.size) (hm:m+2=n) (hds:ds.length+k * 4=m * 4) :
   (∀q,q<8→((w.setCells g (k * 4) ds).cell? ⟨g,m * 4+q,none⟩).isSome=true)∧(∀q,q<8→(w.setCells g (k * 4) ds).frozen? ⟨g,m * 4+q,none⟩=false) ∧
   Row ((w.setCells g (k * 4) ds).setCells g (m * 4) zfu) 4 (some ⟨g,0,none⟩) m cap (cur.toList.take (k * 4)++ds):=by
 obtain ⟨c1,h1,h2,h3,h4⟩:=zc9 ds (k * 4) w cur hg (by omega)
 have hz:zfu.length=8:=rfl
 obtain ⟨c2,j1,j2,j3,j4⟩:=zc9 zfu (m * 4) _ c1 h1 (by omega)
 refine ⟨fun q hq=>by rw [cell_of_row _ g _ _ _ (0,0) h1,Array.getElem?_eq_getElem (by omega)];rfl,fun q _=>frozen_of_row _ g _ _ _ h1,?_⟩
 have hlk:(cur.toList.take (k * 4)).length=k * 4:=by rw [List.length_take,Array.length_toList];omega
 refine ⟨by rw [List.length_append,hlk];omega,by omega,hcm,fun e=>(by cases e),fun _=>⟨g,0,rfl,zag j1,fun q u hq=>?_⟩⟩
 rw [Nat.zero_add,cell_of_row _ g _ _ _ (0,0) j1]
 have hqm:q<m * 4:=by
   have:=(List.getElem?_eq_some_iff.1 hq).1
   rw [List.length_append,hlk] at this
   omega
 rw [j3 q (.inl hqm)]
 rcases Nat.lt_or_ge q (k * 4) with hlt|hge
 · rw [List.getElem?_append_left (by rw [hlk]; exact hlt), List.getElem?_take_of_lt hlt, Array.getElem?_toList] at hq
   rw [h3 q (.inl hlt)]
   exact hq
 · rw [List.getElem?_append_right (by rw [hlk]; exact hge), hlk] at hq
   have:=h4 (q-k * 4) (List.getElem?_eq_some_iff.1 hq).1
   rw [show k * 4+(q-k * 4)=q by omega] at this
   rw [this]
   exact hq
theorem vdelete_any {w:World} {g n cap k j:Nat} {cur:Array Value} (hg:w.heap[g]?=some (.cells cur 48 (0,0))) (hnc:n≤cap) (hcm:cap≤maxLen) (hcs:cap * 4≤cur.size) (hj0:Hid (j=k+2)) (hjn:j≤n) (hn:n≤1000000) (h1:∀u∈cur.toList.take (n * 4),u.oneCell'=true) :
   Calls Tryz.prog 107 #[.slice (some ⟨g,0,none⟩) n cap,.int .i64 k,.int .i64 j] w fun e w'=>e=.returned (.slice (some ⟨g,0,none⟩) (n-2) cap)∧Row w' 4 (some ⟨g,0,none⟩) (n-2) cap (cur.toList.take (k * 4)++(cur.toList.take (n * 4)).drop (j * 4))∧Keeps (fun b=>b=g) w w':=by
 have hj:=hj0.out
 have hb1:(k:Int)≤(j:Int):=by omega
 have hb2:(j:Int)≤(n:Int):=by omega
 have hb3:(n:Int)≤(cap:Int):=by omega
 have hb4:(j:Int)≤(cap:Int):=by omega
 have hb5:(k:Int)≤(cap:Int):=by omega
 have hnk:¬n=k:=by omega
 have e1:((k:Int)==(j:Int))=false:=by rw [beq_eq_false_iff_ne];omega
 have hrd:=gap_reads (w:=w.drew) (g:=g) (n:=n) (j:=j) (cur:=cur) hg (by omega)
 have hwr:=gap_writes (w:=w.drew) (g:=g) (n:=n) (k:=k) (j:=j) (cur:=cur) hg (by omega) (by omega) hjn h1
 obtain ⟨m,hm⟩:∃m,m=k+(n-j):=⟨_,rfl⟩
 have hdl:((cur.toList.take (n * 4)).drop (j * 4)).length+k * 4=m * 4:=by rw [List.length_drop,List.length_take,Array.length_toList];omega
 obtain ⟨ds,hds⟩:∃ds,ds=(cur.toList.take (n * 4)).drop (j * 4):=⟨_,rfl⟩
 rw [←hds] at hrd hwr hdl ⊢
 clear hds
 obtain ⟨r1,r2,r3⟩:=gap_row (w:=w.drew) (g:=g) (n:=n) (cap:=cap) (k:=k) (m:=m) (cur:=cur) (ds:=ds) hg hnc hcm hcs (by omega) hdl
 have HCL:=Lib.hid (fun ty=>run_clear2 (w.drew.setCells g (k * 4) ds) ty g (m * 4) (cap - m) r1 r2)
 have HROW:=Lib.hid r3
 have HKP:=Lib.hid (zcE zfu (m * 4) (zcE (g:=g) ds (k * 4) (zaq (S:=fun b=>b=g) (Below.refl w.heap.size w).drew)))
 have hn2:n-2=m:=by omega
 have hm1:(0:Int)≤(m:Int):=by omega
 have hm2:(m:Int)≤(n:Int):=by omega
 have hm4:(m:Int)≤(cap:Int):=by omega
 have hm5:¬cap=m:=by omega
 have hm6:n-m=2:=by omega
 have HM:=Lib.hid hm
 have HDL:=Lib.hid hdl
 rw [hn2]
 clear hj hg h1 hdl r1 r2 r3 hm hn2
 by_cases hcj:cap=j
 · have hjc : j = n := by omega
   obtain rfl:cap=n:=by omega
   subst hjc
   have hj:=hj0.out
   obtain rfl:m=k:=by have:=HM.out;omega
   obtain rfl:ds=[]:=List.eq_nil_of_length_eq_zero (by have:=HDL.out;omega)
   clear hrd hwr hj hb4 hcj hnc hjn hb2 hb3
   go_enter Tryz.func107,Tryz.ntmps107
   go_upto_region 5 with fail
   go_region_with (fail)
   have hcl:(Builtin.clear_ #[46] 0 #[.slice (some ⟨g,m * 4,none⟩) 2 2]).run Tryz.prog w.drew=.ok (.tuple #[]) (w.drew.setCells g (m * 4) zfu):=by
     have h:=HCL.out 0
     rw [hm6] at h
     exact h
   go_wp2_with fail
   go_ret
   exact ⟨rfl,HROW.out,HKP.out⟩
 go_enter Tryz.func107,Tryz.ntmps107
 go_upto_region 5 with fail
 go_region_with (fail)
 rw [←HM.out]
 clear hrd hwr
 generalize w.drew.setCells g (k * 4) ds=W5 at *
 have hcl:=HCL.out 0
 go_wp2_with fail
 go_ret
 exact ⟨rfl,HROW.out,HKP.out⟩
end Go.Proofs.YtkhcjoomijkfbaaGreatDoor
namespace Go.Proofs.YtkhcjoomijkfbaaGreatDoor
theorem fN_ltE (key:List UInt8):∀(l:List PV) (k:Nat),fN key l=some k→k<l.length∧k % 2=0
 | [],k,h=>by simp [fN] at h
 | [x], k, h => by
   unfold fN at h
   split at h
   · cases h;exact ⟨by simp,rfl⟩
   · simp at h
 | x :: y :: t, k, h => by
   unfold fN at h
   split at h
   · cases h;exact ⟨by simp,rfl⟩
   · obtain ⟨j,hj,rfl⟩:=Option.map_eq_some_iff.1 h
     obtain ⟨h1,h2⟩:=fN_ltE key t j hj
     exact ⟨by simp;omega,by omega⟩
def zb2 (v:PV) (key:List UInt8):PV:=match zdi v key with
 | none=>v
 | some k=>⟨v.kind,v.n,v.s,v.l.take k++v.l.drop (k+2)⟩
theorem zeX {v:PV} {key:List UInt8} (hev:v.kind=7→v.l.length % 2=0):(zb2 v key).kind=7→(zb2 v key).l.length % 2=0:=by
 unfold zb2
 cases hf:zdi v key with
 | none=>exact hev
 | some k =>
   intro h7
   have hk:=hev h7
   unfold zdi at hf
   rw [if_pos (show v.kind=7 from h7)] at hf
   obtain ⟨h1,h2⟩:=fN_ltE key v.l k hf
   show (v.l.take k++v.l.drop (k+2)).length % 2=0
   rw [List.length_append,List.length_take,List.length_drop]
   omega
end Go.Proofs.YtkhcjoomijkfbaaGreatDoor
namespace Go.Proofs.YtkhcjoomijkfbaaGreatDoor
open Go.RowKit
theorem IsVs.takeK {w:World} {F:Nat→Prop}:∀(k:Nat) {l:List PV} {cs:List Value},IsVs w F l cs→IsVs w F (l.take k) (cs.take (k * 4))
 | 0,_,_,_=>by simp [IsVs]
 | k+1,[],_,h=>by cases h;simp [IsVs]
 | k + 1, v :: l, _, ⟨sl, t, h, hv, ht⟩ => by
   subst h
   have:=ht.takeK k
   refine ⟨sl,t.take (k * 4),?_,hv,this⟩
   rw [List.take_append,show (k+1) * 4-(pvC v sl).length=k * 4 from by simp [pvC];omega,List.take_of_length_le (by simp [pvC];omega)]
def zhH (w:World) (F:Nat→Prop) (v:PV) (e:Ending) (w':World):Prop :=
 ∃sl,e=.returned (pvA v sl)∧IsV w' (fun b=>F b∨w.heap.size≤b) v sl∧Below w.heap.size w w'
theorem IsVs.cut2 {w:World} {F:Nat→Prop} {l:List PV} {cs:List Value} (h:IsVs w F l cs) (k:Nat):IsVs w F (l.take k++l.drop (k+2)) (cs.take (k * 4)++cs.drop ((k+2) * 4)):=(h.takeK k).append (h.drop (k+2))
def ClnEnd (w:World) (n:Nat) (cs:List Value) (e:Ending) (w':World):Prop:=∃v,e=.returned v∧w'.ownsRow w.heap.size 48 4 v n cs∧Below w.heap.size w w'
structure ClnM (w W:World) (g n cap:Nat) (cur:Array Value) (cs:List Value):Prop where
 blk:W.heap[g]?=some (.cells cur 48 (0,0))
 new:w.heap.size≤g
 nc:n≤cap
 cm:cap≤maxLen
 size:cap * 4≤cur.size
 row:cur.toList.take (n * 4)=cs
theorem ClnM.of {w W:World} {v:Value} {n:Nat} {cs:List Value} (h:W.ownsRow w.heap.size 48 4 v n cs) (hn:0<n):∃g cap cur,v=.slice (some ⟨g,0,none⟩) n cap∧ClnM w W g n cap cur cs:=by
 rcases h.2 with ⟨-,h0⟩|⟨g,cap,cur,hv,hg,hc,hnc,hcm,hsz,hrow⟩
 · omega
 · exact ⟨g,cap,cur,hv,hc,hg,hnc,hcm,by omega,hrow⟩
structure DrM (w W:World) (r q:Nat) (x0 x1 x2 x3:Value):Prop where
 kp:Keeps (fun b=>w.heap.size≤b) w W
 br:W.heap[r]?=some (.cells #[x0,x1,x2,x3] 48 (0,0))
 bq:W.heap[q]?=some (.cells #[.int .i64 0,.int .i64 0,.string ⟨#[]⟩,.slice none 0 0] 48 (0,0))
 lr:w.heap.size≤r
 lq:w.heap.size≤q
 ne:r≠q
section
variable {w W W' : World} {r q g : Nat} {x0 x1 x2 x3 : Value}
theorem DrM.mono (h:DrM w W r q x0 x1 x2 x3) (hb:Below W.heap.size W W'):DrM w W' r q x0 x1 x2 x3 :=
 ⟨h.kp.trans (zaq (S:=fun b=>w.heap.size≤b) hb) fun _ e=>.inl e,zab hb h.br,zab hb h.bq,h.lr,h.lq,h.ne⟩
theorem DrM.keep (h : DrM w W r q x0 x1 x2 x3) (hk : Keeps (fun b => b = g) W W') (hg : r < g) (hg2 : q < g) : DrM w W' r q x0 x1 x2 x3 :=
 ⟨h.kp.trans hk fun b e=>.inl (by rw [e];exact Nat.le_of_lt (Nat.lt_of_le_of_lt h.lr hg)),hk.obj h.br (by omega),hk.obj h.bq (by omega),h.lr,h.lq,h.ne⟩
theorem DrM.set3 (h:DrM w W r q x0 x1 x2 x3) (y:Value):DrM w (W.setCell ⟨r,3,none⟩ y) r q x0 x1 x2 y :=
 ⟨h.kp.setCell (a:=⟨r,3,none⟩) (.inl h.lr) y,by rw [heap_setCell_same _ r 3 _ _ _ h.br];rfl,by rw [heap_setCell_other _ _ _ _ (Ne.symm h.ne)];exact h.bq,h.lr,h.lq,h.ne⟩
theorem DrM.fin (h:DrM w W r q x0 x1 x2 x3) (y0 y1 y2 y3:Value):((((W.setCell ⟨q,0,none⟩ y0).setCell ⟨q,1,none⟩ y1).setCell ⟨q,2,none⟩ y2).setCell ⟨q,3,none⟩ y3).heap[q]?=some (.cells #[y0,y1,y2,y3] 48 (0,0)) ∧
   Keeps (fun b=>w.heap.size≤b) w ((((W.setCell ⟨q,0,none⟩ y0).setCell ⟨q,1,none⟩ y1).setCell ⟨q,2,none⟩ y2).setCell ⟨q,3,none⟩ y3) :=
 ⟨zhj h.bq _ _ _ _,zaJ h.kp h.lq _ _ _ _⟩
end
theorem zfB {w W:World} (h:Keeps (fun b=>w.heap.size≤b) w W):Below w.heap.size w W:=h.below (Nat.le_refl _) fun _ e=>e
theorem vdrop_any {w:World} {F:Nat→Prop} {v:PV} {sl:Value} (h:IsV w F v sl) (hev:v.kind=7→v.l.length % 2=0) (hl:v.l.length≤1000000) (key:List UInt8):Calls Tryz.prog 64 #[pvA v sl,.string (mkB key)] w (zhH w F (zb2 v key)):=by
 obtain ⟨a,c,rfl,hnc,hcm,hna⟩:=h.len
 obtain ⟨a',c',cs,hsl,hrow,hF,hs⟩:=(IsV.lt v h).out
 cases hsl
 have HF:=Lib.hid (fun W (hb:Below w.heap.size w W)=>vfind_any (h.below hb) hev key)
 have hb0:=(zah w (.cells #[.int .i64 v.kind,.int .i64 v.n,.string (mkB v.s),.slice a v.l.length c] 48)).alloc (by rw [zal];omega) (.cells #[.int .i64 0,.int .i64 0,.string ⟨#[]⟩,.slice none 0 0] 48)
 have HB0:=Lib.hid hb0
 have HM0:=Lib.hid (show DrM w ((w.alloc (.cells #[.int .i64 v.kind,.int .i64 v.n,.string (mkB v.s),.slice a v.l.length c] 48)).alloc (.cells #[.int .i64 0,.int .i64 0,.string ⟨#[]⟩,.slice none 0 0] 48)) w.heap.size (w.heap.size+1) (.int .i64 v.kind) (.int .i64 v.n) (.string (mkB v.s)) (.slice a v.l.length c) from
   ⟨zaq hb0,zak _ (zac _ rfl),zac _ (by rw [zal]),Nat.le_refl _,by omega,by omega⟩)
 have hfn : ∀ k, zdi v key = some k → k + 2 ≤ v.l.length := fun k hk => by
   unfold zdi at hk
   split at hk
   · rename_i h7
     have:=fN_ltE key v.l k hk
     have:=hev h7
     omega
   · cases hk
 have HD:=Lib.hid (show zb2 v key=match zdi v key with|none=>v|some k=>⟨v.kind,v.n,v.s,v.l.take k++v.l.drop (k+2)⟩ from rfl)
 have HCL:=Lib.hid (fun (hn:0<v.l.length) W (hb:Below w.heap.size w W)=>show ∀x,a=some x→Calls Tryz.prog 108 #[.slice (some x) v.l.length c] W (ClnEnd W v.l.length cs) from fun x hx=>by subst hx;exact vclone_any (hrow.mono hb) hs.one1 hl hn)
 have HS:=Lib.hid hs
 have HRW:=Lib.hid hrow
 have HIV:=Lib.hid h
 unfold FindEnd at HF
 unfold zhH
 generalize zb2 v key=X at *
 generalize zdi v key=o at *
 clear hb0 h hrow hs
 unfold pvA at HF ⊢
 generalize mkB key=kb at *
 cases o with
 | none =>
   obtain rfl:X=v:=HD.out
   clear HD hfn HCL hF HS HRW
   generalize X.kind=vk at *
   generalize X.n=vn at *
   generalize mkB X.s=vs at *
   generalize X.l.length=vl at *
   have hm1:foundI none=-1:=rfl
   rw [hm1] at HF
   go_enter Tryz.func64,Tryz.ntmps64
   go_upto_region 1 with fail
   obtain ⟨r,hr⟩:∃r,r=w.heap.size:=⟨_,rfl⟩
   obtain ⟨q,hq⟩:∃q,q=r+1:=⟨_,rfl⟩
   rw [←hr] at HM0 ⊢
   rw [←hq] at HM0 ⊢
   clear hr hq
   generalize (w.alloc _).alloc _=W0 at *
   obtain ⟨⟨c0,c1,c2,c3⟩,-⟩:=zaf HM0.out.br
   go_wp2_with fail
   refine (HF.out _ HB0.out).mono ?_
   rintro e w1 ⟨rfl,hb1⟩
   have HM1:=Lib.hid (HM0.out.mono hb1)
   clear hb1 c0 c1 c2 c3 HM0 HB0 HF
   obtain ⟨⟨c0,c1,c2,c3⟩,-⟩:=zaf HM1.out.br
   obtain ⟨⟨t0,t1,t2,t3⟩,g0,g1,g2,g3⟩:=zaf HM1.out.bq
   go_wp2_with fail
   have hfin:=HM1.out.fin (.int .i64 vk) (.int .i64 vn) (.string vs) (.slice a vl c)
   refine bodyPost_ret (results_cell_row rfl _ _ q 48 _ (0,0) _ rfl (by exact hfin.1) Tryz.underlying48 rfl (by kernel_rfl)) rfl ?_
   exact ⟨_,rfl,(HIV.out.below (zfB hfin.2)).weaken fun _ h=>.inl h,zfB hfin.2⟩
 | some k =>
   have hkl:=hfn k rfl
   obtain rfl:X=⟨v.kind,v.n,v.s,v.l.take k++v.l.drop (k+2)⟩:=HD.out
   have hn0:0<v.l.length:=by omega
   have hal:=fun e=>hna e
   obtain ⟨x,rfl⟩:∃x,a=some x:=by
     cases a with
     | none=>have:=hna rfl;omega
     | some x=>exact ⟨x,rfl⟩
   have HC2:=Lib.hid (fun W hb=>HCL.out hn0 W hb x rfl)
   clear HCL hal hna HD hfn
   obtain ⟨J,hJ⟩:∃J,J=k+2:=⟨_,rfl⟩
   have hlX:(v.l.take k++v.l.drop (k+2)).length=v.l.length-2:=by rw [List.length_append,List.length_take,List.length_drop];omega
   have hw1:IntKind.i64.wrap ((k:Int)+2)=(J:Int):=by rw [IntWalk.i64_in _ (by omega)];omega
   have hm1:¬((v.l.length:Int)<(J:Int)):=by omega
   have hm2:min (J:Int) (v.l.length:Int)=(J:Int):=by omega
   have hd1:decide ((k:Int)<0)=false:=decide_eq_false (by omega)
   have hfi:foundI (some k)=(k:Int):=rfl
   have HJ:=Lib.hid hJ
   have HJL:=Lib.hid (show J≤v.l.length by omega)
   have HN0:=Lib.hid hn0
   have HONE:=Lib.hid HS.out.one1
   rw [hfi] at HF
   show Calls _ _ _ _ fun e w'=>∃sl,e=.returned (.agg #[.int .i64 v.kind,.int .i64 v.n,.string (mkB v.s),sl])∧IsV w' (fun b=>F b∨w.heap.size≤b) ⟨v.kind,v.n,v.s,v.l.take k++v.l.drop (k+2)⟩ sl∧Below w.heap.size w w'
   have HFIN := Lib.hid (fun (W : World) (g cp : Nat) (hW : Below w.heap.size w W) (hg : w.heap.size ≤ g) (hr : Row W 4 (some ⟨g, 0, none⟩) (v.l.length - 2) cp (cs.take (k * 4) ++ cs.drop (J * 4))) => show IsV W (fun b => F b ∨ w.heap.size ≤ b) ⟨v.kind, v.n, v.s, v.l.take k ++ v.l.drop (k + 2)⟩ (.slice (some ⟨g, 0, none⟩) (v.l.length - 2) cp) from by
     have h1:=IsV.mk (w:=W) (F:=fun b=>F b∨w.heap.size≤b) (v:=⟨v.kind,v.n,v.s,v.l.take k++v.l.drop (k+2)⟩) (a:=some ⟨g,0,none⟩) (cap:=cp) (cs:=cs.take (k * 4)++cs.drop (J * 4)) (by rw [show (PV.mk v.kind v.n v.s (v.l.take k++v.l.drop (k+2))).l.length=v.l.length-2 from hlX];exact hr) (fun _ y hy=>by cases hy;exact .inr hg) (by rw [HJ.out];exact ((HS.out.below hW).weaken fun _ h=>.inl h.1).cut2 k)
     rw [show (PV.mk v.kind v.n v.s (v.l.take k++v.l.drop (k+2))).l.length=v.l.length-2 from hlX] at h1
     exact h1)
   clear hJ hlX HIV HRW HS hF hfi hn0 hev hkl hnc
   generalize v.kind=vk at *
   generalize v.n=vn at *
   generalize mkB v.s=vs at *
   generalize (PV.mk vk vn v.s (v.l.take k++v.l.drop (k+2)))=X at *
   generalize v.l.length=vl at *
   go_enter Tryz.func64,Tryz.ntmps64
   go_upto_region 1 with fail
   obtain ⟨r,hr⟩:∃r,r=w.heap.size:=⟨_,rfl⟩
   obtain ⟨q,hq⟩:∃q,q=r+1:=⟨_,rfl⟩
   rw [←hr] at HM0 ⊢
   rw [←hq] at HM0 ⊢
   have HRQ:=Lib.hid (And.intro hr hq)
   clear hr hq
   generalize (w.alloc _).alloc _=W0 at *
   obtain ⟨⟨c0,c1,c2,c3⟩,-⟩:=zaf HM0.out.br
   go_wp2_with fail
   refine (HF.out _ HB0.out).mono ?_
   rintro e w1 ⟨rfl,hb1⟩
   have HM1:=Lib.hid (HM0.out.mono hb1)
   have HB1:=Lib.hid (HB0.out.trans (hb1.mono HB0.out.size))
   clear hb1 c0 c1 c2 c3 HM0 HB0 HF
   obtain ⟨⟨c0,c1,c2,c3⟩,f0,f1,f2,f3⟩:=zaf HM1.out.br
   have hlt:=zag HM1.out.br
   have hlq:=zag HM1.out.bq
   have HLT:=Lib.hid (And.intro hlt hlq)
   clear hlt hlq
   go_upto_region 4 with fail
   go_region_with (first
     | (go_at_call 108;(with_reducible refine (HC2.out _ HB1.out.drew).mono ?_);rintro e w2 ⟨vC,rfl,hO,hb2⟩;obtain ⟨g,cp,cur,rfl,hC⟩:=ClnM.of hO HN0.out;have HM2:=Lib.hid (HM1.out.mono ((Below.refl _ _).drew.trans hb2));have HG:=Lib.hid (show r<g∧q<g∧w.heap.size≤g from by have h1:=HLT.out;have h2:=hC.new;have h3:w1.drew.heap.size=w1.heap.size:=rfl;have h4:=HB1.out.size;omega);have HD2:=Lib.hid (fun (W:World) (hW:W.heap[g]?=some (.cells cur 48 (0,0)))=>vdelete_any (k:=k) (j:=J) hW hC.nc hC.cm hC.size (Lib.hid HJ.out) HJL.out hl (fun u hu=>HONE.out u (hC.row▸hu)));obtain ⟨⟨d0,d1,d2,d3⟩,k0,k1,k2,k3⟩:=zaf HM2.out.br)
     | (go_at_call 107;(with_reducible refine (HD2.out _ hC.blk).mono ?_);rintro e w3 ⟨rfl,hrow3,hk3⟩;have HM3:=Lib.hid (HM2.out.keep hk3 HG.out.1 HG.out.2.1);obtain ⟨⟨e0,e1,e2,e3⟩,l0,l1,l2,l3⟩:=zaf HM3.out.br))
   all_goals
     have HM4:=Lib.hid (HM3.out.set3 (.slice (some ⟨g,0,none⟩) (vl-2) cp))
     have HR4:=Lib.hid (hrow3.keeps ((Keeps.refl (fun b=>b=r) w3).setCell (a:=⟨r,3,none⟩) (.inl rfl) (.slice (some ⟨g,0,none⟩) (vl-2) cp)) (fun y hy=>by cases hy;have:=HG.out;show ¬g=r;omega))
     obtain ⟨W4,hW4⟩:∃W4,W4=w3.setCell ⟨r,3,none⟩ (.slice (some ⟨g,0,none⟩) (vl-2) cp):=⟨_,rfl⟩
     rw [←hW4] at HM4 HR4 ⊢
     clear hW4 c0 c1 c2 c3 f0 f1 f2 f3 d0 d1 d2 d3 k0 k1 k2 k3 e0 e1 e2 e3 l0 l1 l2 l3 hrow3 hk3 HM3 HD2
     obtain ⟨⟨c0,c1,c2,c3⟩,-⟩:=zaf HM4.out.br
     obtain ⟨⟨t0,t1,t2,t3⟩,g0,g1,g2,g3⟩:=zaf HM4.out.bq
     go_wp2_with fail
     have hfin:=HM4.out.fin (.int .i64 vk) (.int .i64 vn) (.string vs) (.slice (some ⟨g,0,none⟩) (vl-2) cp)
     refine bodyPost_ret (results_cell_row rfl _ _ q 48 _ (0,0) _ rfl (by exact hfin.1) Tryz.underlying48 rfl (by kernel_rfl)) rfl ?_
     refine ⟨_,rfl,HFIN.out _ g cp (zfB hfin.2) HG.out.2.2 ?_,zfB hfin.2⟩
     rw [←hC.row,List.take_take,Nat.min_eq_left (by have:=HJ.out;have:=HJL.out;omega)]
     exact HR4.out.keeps (((((Keeps.refl (fun b=>b=q) W4).setCell (a:=⟨q,0,none⟩) (.inl rfl) _).setCell (a:=⟨q,1,none⟩) (.inl rfl) _).setCell (a:=⟨q,2,none⟩) (.inl rfl) _).setCell (a:=⟨q,3,none⟩) (.inl rfl) _) (fun y hy=>by cases hy;have:=HG.out;show ¬g=q;omega)
end Go.Proofs.YtkhcjoomijkfbaaGreatDoor
namespace Go.Proofs.YtkhcjoomijkfbaaGreatDoor.Z
open Go.RowKit Go.Sort
theorem ins_any {α:Type} [Inhabited α] (enc:α→Value) (hE:∀x,∃n,enc x=.int .i64 n) (cf:α→α→Int) (D:α→Prop) (f:FuncId) (cb:Array Value) (g cap a b:Nat) (rest:List Value) (d:Array α) (w0 w:World)
   (hC:CmpQ Tryz.prog f cb enc cf D w0 g) (hS:SB enc w0 g 3 rest d w) (hD:∀i,i<d.size→D d[i]!) (hab:a≤b) (hb:b≤d.size) (hsz:d.size<4611686018427387904) :
   Calls Tryz.prog 249 #[.slice (some ⟨g,0,none⟩) d.size cap,.int .i64 a,.int .i64 b,.func (.func f) #[] cb] w fun e w'=>e=.returned (.tuple #[])∧SB enc w0 g 3 rest (Sort.insertionSort (ltOf cf) d a b) w':=by
 have eg:=hC.enters
 have HC:=Lib.hid hC
 have HS:=Lib.hid hS
 have HD:=Lib.hid hD
 clear hC hS hD
 go_enter Tryz.func249,Tryz.ntmps249
 go_wp2
 go_loopw [8] (fun vi wr => ∃ (i : Nat) (dk : Array α), vi = .int .i64 i ∧ a < i ∧ i ≤ b + 1 ∧ dk.size = d.size ∧ Hid (SB enc w0 g 3 rest dk wr) ∧ Hid (∀ i, i < dk.size → D dk[i]!) ∧
     Hid (insOuter (ltOf cf) a b i dk=insOuter (ltOf cf) a b (a+1) d)) (fun vi _=>b+1-(intOf vi).toNat)
 case atStart=>exact ⟨a+1,d,by go_num,by omega,by omega,rfl,HS,HD,rfl⟩
 case round =>
   obtain ⟨i,dk,rfl,hai,hib,hsk,HSk,HDk,HO⟩:=hrel
   clear HS
   by_cases hlt:i<b
   · go_wp2
     go_loopw [9] (fun vj wr2 => ∃ (j : Nat) (dj : Array α), vj = .int .i64 j ∧ a ≤ j ∧ j ≤ i ∧ dj.size = d.size ∧ Hid (SB enc w0 g 3 rest dj wr2) ∧ Hid (∀ i, i < dj.size → D dj[i]!) ∧
         Hid (insInner (ltOf cf) a j dj=insInner (ltOf cf) a i dk)) (fun vj _=>(intOf vj).toNat)
     case atStart=>exact ⟨i,dk,rfl,by omega,Nat.le_refl _,hsk,HSk,HDk,rfl⟩
     case round =>
       obtain ⟨j,dj,rfl,haj,hji,hsj,HSj,HDj,HI⟩:=hrel
       clear HSk HDk
       by_cases hja:a<j
       · have hc1 := HSj.out.cell j (by omega)
         have hc2:=HSj.out.cell (j-1) (by omega)
         have hf1:=HSj.out.free j
         have hf2:=HSj.out.free (j-1)
         have hcall:=fun q=>HC.out.calls (wr.drewN q) (HSj.out.drewN q).grown dj[j]! dj[j-1]! (HDj.out j (by omega)) (HDj.out (j-1) (by omega))
         obtain ⟨X,hX⟩:∃X,X=dj[j]! := ⟨_,rfl⟩
         obtain ⟨Y,hY⟩:∃Y,Y=dj[j-1]! := ⟨_,rfl⟩
         rw [←hX] at hc1 hcall
         rw [←hY] at hc2 hcall
         have HX:=Lib.hid hX
         have HY:=Lib.hid hY
         obtain ⟨x,hx⟩:=hE X
         obtain ⟨y,hy⟩:=hE Y
         rw [hx] at hc1 hcall
         rw [hy] at hc2 hcall
         have HCALL:=Lib.hid hcall
         have HEx:=Lib.hid hx
         have HEy:=Lib.hid hy
         clear hcall hx hy hX hY
         have hj1:(0:Int)≤(j:Int)-1:=by omega
         have hj2:((j:Int)-1).toNat=j-1:=by omega
         have hjd:j<d.size:=by omega
         have hjd1:(j:Int)<(d.size:Int):=by omega
         have out:ltOf cf X Y=false→∀q,∃i' dk',Value.int .i64 ((i:Int)+1)=.int .i64 (i':Nat)∧a<i'∧i'≤b+1∧dk'.size=d.size∧Hid (SB enc w0 g 3 rest dk' (wr.drewN q))∧Hid (∀i,i<dk'.size→D dk'[i]!)∧Hid (insOuter (ltOf cf) a b i' dk'=insOuter (ltOf cf) a b (a+1) d) :=
           fun hl q=>⟨i+1,dj,by go_num,by omega,by omega,hsj,HSj.out.drewN q,HDj,by rw [←HO.out,zdB _ _ _ _ _ hlt,←HI.out,zdt _ _ _ _ (.inr (by rw [←HX.out,←HY.out];exact hl))];exact Lib.hid rfl⟩
         have OUT:=Lib.hid out
         clear out
         by_cases hcf:cf X Y<0
         · have hl : ltOf cf X Y = true := by simpa [ltOf] using hcf
           have HL:=Lib.hid hl
           clear hl
           go_wp2_with fail
           go_quiet ((refine Calls.quiet_of (HCALL.out _)))
           go_wp2
           go_region
           all_goals go_wp2
           go_roundw
           case rel =>
             refine ⟨j-1,swp dj j (j-1),by congr 1;omega,by omega,by omega,by rw [size_swp];exact hsj,?_,?_,?_⟩
             · have hw := HSj.out.swp j (j - 1) (by omega) (by omega) (nq + 1)
               rw [←HX.out,←HY.out,HEx.out,HEy.out] at hw
               exact Lib.hid hw
             · exact Lib.hid (fun q hq => by
                 rw [size_swp] at hq
                 by_cases h1:q=j
                 · subst h1;rw [swp_left _ _ _ hq (by omega)];exact HDj.out _ (by omega)
                 · by_cases h2:q=j-1
                   · subst h2;rw [swp_right _ _ _ hq];exact HDj.out _ (by omega)
                   · rw [swp_other _ _ _ _ h1 h2];exact HDj.out _ hq)
             · exact Lib.hid (by rw [←HI.out,inner_go (ltOf cf) a j dj hja (by rw [←HX.out,←HY.out];exact HL.out)])
           case measure=>simp [intOf];omega
         · have hl : ltOf cf X Y = false := by simpa [ltOf] using hcf
           have HL:=Lib.hid hl
           clear hl
           go_wp2_with fail
           go_quiet ((refine Calls.quiet_of (HCALL.out _)))
           go_wp2
           go_roundw
           case rel=>exact OUT.out HL.out nq
           case measure=>simp [intOf];omega
       · have out:∀q,∃i' dk',Value.int .i64 ((i:Int)+1)=.int .i64 (i':Nat)∧a<i'∧i'≤b+1∧dk'.size=d.size∧Hid (SB enc w0 g 3 rest dk' (wr.drewN q))∧Hid (∀i,i<dk'.size→D dk'[i]!)∧Hid (insOuter (ltOf cf) a b i' dk'=insOuter (ltOf cf) a b (a+1) d) :=
           fun q=>⟨i+1,dj,by go_num,by omega,by omega,hsj,HSj.out.drewN q,HDj,by rw [←HO.out,zdB _ _ _ _ _ hlt,←HI.out,zdt _ _ _ _ (.inl (by omega))];exact Lib.hid rfl⟩
         have OUT:=Lib.hid out
         clear out
         have hja2:decide ((a:Int)<(j:Int))=false:=by simp;omega
         go_wp2
         go_quiet (fail)
         go_wp2
         go_roundw
         case rel=>exact OUT.out nq
         case measure=>simp [intOf];omega
   · go_wp2
     go_end0
     refine ⟨rfl,?_⟩
     have e:Sort.insertionSort (ltOf cf) d a b=dk:=by
       unfold Sort.insertionSort;rw [←HO.out,zb7 _ _ _ _ _ hlt]
     rw [e]
     exact HSk.out
theorem stable_nil (fv : Value) (w : World) : Calls Tryz.prog 234 #[.slice none 0 0, fv] w fun e w' => e = .returned (.tuple #[]) ∧ w = w' := by
 go_enter Tryz.func234,Tryz.ntmps234
 go_wp2
 refine wp_loop_once ?_
 go_wp2
 refine wp_loop_once ?_
 go_wp2
 go_end0
 go_wp2
 refine wp_loop_once ?_
 go_wp2
 go_end0
 go_wp2
 go_end0
 exact ⟨rfl,rfl⟩
end Go.Proofs.YtkhcjoomijkfbaaGreatDoor.Z
namespace Go.Proofs.YtkhcjoomijkfbaaGreatDoor.Z
theorem zbq {α:Type} (d:α) (l:List α) (k:Nat) (h:k<l.length):l.take (k+1)=l.take k++[l.getD k d]:=by
 rw [List.take_succ_eq_append_getElem h];simp [List.getD,h]
def hby (n:Int):Int:=32768 / 2 ^ n.toNat
def hadd (s n:Int):Int:=if 0<n then s+hby n else s
def hsum (l:List Int):Int:=l.foldl hadd 0
def hok (l:List Int):Bool:=l.all fun n=>decide (0≤n)&&decide (n≤15)
def zaY (l:List Int):Int:=if l.length=0∨320<l.length∨hok l=false then -1 else if 32768<hsum l then -1 else hsum l
theorem hby_bd (n:Int):0≤hby n∧hby n≤32768:=by
 unfold hby
 have h:(0:Int)<2 ^ n.toNat:=Int.pow_pos (by omega)
 exact ⟨Int.ediv_nonneg (by omega) (by omega),Int.ediv_le_self _ (by omega)⟩
theorem zfH (l:List Int) (x:Int):hsum (l++[x])=hadd (hsum l) x:=by simp [hsum]
theorem hadd_bd (s n:Int):s≤hadd s n∧hadd s n≤s+32768:=by
 have:=hby_bd n
 unfold hadd;split<;>omega
theorem zif (l:List Int):∀s:Int,s≤l.foldl hadd s∧l.foldl hadd s≤s+32768 * l.length:=by
 induction l with
 | nil=>intro s;simp
 | cons x l ih =>
   intro s
   have h1:=hadd_bd s x
   have h2:=ih (hadd s x)
   simp only [List.foldl_cons,List.length_cons]
   omega
theorem hsum_bd (l:List Int):0≤hsum l∧hsum l≤32768 * l.length:=by
 have:=zif l 0;unfold hsum;omega
theorem hok_snoc (l:List Int) (x:Int):hok (l++[x])=(hok l&&(decide (0≤x)&&decide (x≤15))):=by simp [hok]
theorem hok_not {l:List Int} {k:Nat} (hk:k<l.length) (h:l.getD k 0<0∨15<l.getD k 0):hok l=false:=by
 simp only [hok,List.all_eq_false]
 refine ⟨l[k],List.getElem_mem _,?_⟩
 simp [List.getD,hk] at h
 simp
 omega
theorem zbZ {l:List Int} (h:hok l=true):∀x∈l,0≤x∧x≤15:=by
 simpa [hok] using h
theorem zbd {l:List Int} (h:0≤zaY l):l.length≠0∧l.length≤320∧hok l=true∧hsum l≤32768:=by
 unfold zaY at h
 split at h
 · omega
 · rename_i h1
   split at h
   · omega
   · simp only [not_or] at h1
     exact ⟨h1.1,by omega,by simpa using h1.2.2,by omega⟩
def cn (l:List Int) (m:Nat):Int:=if m=0 then 0 else ((l.filter fun x=>x==(m:Int)).length:Nat)
theorem zcA (l:List Int) (x:Int) (m:Nat) (hx:0≤x):cn (l++[x]) m=cn l m+if 0<x∧m=x.toNat then 1 else 0:=by
 unfold cn
 by_cases hm:m=0
 · subst hm;simp;omega
 · rw [if_neg hm,if_neg hm,List.filter_append]
   by_cases h:x=(m:Int)
   · subst h
     simp
     omega
   · have h2 : ¬ (0 < x ∧ m = x.toNat) := by omega
     simp [h,h2]
theorem zfd (l:List Int) (m:Nat):0≤cn l m∧cn l m≤l.length:=by
 unfold cn
 have:=List.length_filter_le (fun x=>x==(m:Int)) l
 split<;>omega
theorem ze1 (l:List Int) (k m:Nat):cn (l.take k) m≤cn l m:=by
 unfold cn
 split
 · omega
 · have := ((List.take_sublist k l).filter (fun x => x == (m : Int))).length_le
   omega
theorem cn_lt {l:List Int} {k m:Nat} (hk:k<l.length) (hm:0<m) (h:l.getD k 0=(m:Int)):cn (l.take k) m+1≤cn l m:=by
 have h1:=ze1 l (k+1) m
 rw [zbq 0 l k hk,zcA _ _ _ (by omega),if_pos (by omega)] at h1
 exact h1
def zaO (c:Nat→Int):Nat→Int
 | 0=>0
 | n+1=>(zaO c n+c n) * 2
theorem zfg (c:Nat→Int) (h:∀m,0≤c m):∀n,0≤zaO c n
 | 0=>by simp [zaO]
 | n+1=>by have:=zfg c h n;have:=h n;simp only [zaO];omega
def weigh (c:Nat→Int):Int:=16384 * c 1+8192 * c 2+4096 * c 3+2048 * c 4+1024 * c 5+512 * c 6+256 * c 7+128 * c 8+64 * c 9+32 * c 10+16 * c 11+8 * c 12+4 * c 13+2 * c 14+c 15
theorem case15 {x:Int} (h0:0<x) (h:x≤15):x=1∨x=2∨x=3∨x=4∨x=5∨x=6∨x=7∨x=8∨x=9∨x=10∨x=11∨x=12∨x=13∨x=14∨x=15:=by omega
theorem weigh_snoc (l:List Int) (x:Int) (h0:0≤x) (h:x≤15):weigh (cn (l++[x]))=weigh (cn l)+(if 0<x then hby x else 0):=by
 unfold weigh
 simp only [zcA l x _ h0]
 by_cases hp:0<x
 · rcases case15 hp h with rfl|rfl|rfl|rfl|rfl|rfl|rfl|rfl|rfl|rfl|rfl|rfl|rfl|rfl|rfl<;>simp [hby]<;>omega
 · simp [hp]
theorem hsum_weigh (l:List Int) (h:hok l=true):hsum l=weigh (cn l):=by
 have key:∀k,k≤l.length→hsum (l.take k)=weigh (cn (l.take k)):=by
   intro k
   induction k with
   | zero=>intro _;simp [hsum,weigh,cn]
   | succ k ih =>
     intro hk
     have hx:=zbZ h (l.getD k 0) (by simp [List.getD,show k<l.length by omega])
     rw [zbq 0 l k (by omega),zfH,weigh_snoc _ _ hx.1 hx.2,ih (by omega)]
     unfold hadd;split<;>omega
 have:=key l.length (Nat.le_refl _)
 simpa using this
theorem fcode_weigh (c:Nat→Int) (h0:c 0=0) (hc:∀m,0≤c m) (hw:weigh c≤32768) (n:Nat) (hn:n≤15):(zaO c n+c n) * 2 ^ (15-n)≤32768:=by
 unfold weigh at hw
 have h1:=hc 1;have h2:=hc 2;have h3:=hc 3;have h4:=hc 4;have h5:=hc 5;have h6:=hc 6;have h7:=hc 7;have h8:=hc 8;have h9:=hc 9
 have h10:=hc 10;have h11:=hc 11;have h12:=hc 12;have h13:=hc 13;have h14:=hc 14;have h15:=hc 15
 rcases (by omega : n = 0 ∨ n = 1 ∨ n = 2 ∨ n = 3 ∨ n = 4 ∨ n = 5 ∨ n = 6 ∨ n = 7 ∨ n = 8 ∨ n = 9 ∨ n = 10 ∨ n = 11 ∨ n = 12 ∨ n = 13 ∨ n = 14 ∨ n = 15) with
   rfl|rfl|rfl|rfl|rfl|rfl|rfl|rfl|rfl|rfl|rfl|rfl|rfl|rfl|rfl|rfl<;>simp only [zaO,h0]<;>omega
theorem zcT {l:List Int} (h:0≤zaY l) (n:Nat) (hn:n≤15):0≤zaO (cn l) n∧zaO (cn l) n+cn l n≤2 ^ n:=by
 obtain ⟨_,_,h3,h4⟩:=zbd h
 refine ⟨zfg _ (fun m=>(zfd l m).1) n,?_⟩
 have h5:=fcode_weigh (cn l) (by simp [cn]) (fun m=>(zfd l m).1) (by rw [←hsum_weigh l h3];exact h4) n hn
 rcases (by omega : n = 0 ∨ n = 1 ∨ n = 2 ∨ n = 3 ∨ n = 4 ∨ n = 5 ∨ n = 6 ∨ n = 7 ∨ n = 8 ∨ n = 9 ∨ n = 10 ∨ n = 11 ∨ n = 12 ∨ n = 13 ∨ n = 14 ∨ n = 15) with
   rfl|rfl|rfl|rfl|rfl|rfl|rfl|rfl|rfl|rfl|rfl|rfl|rfl|rfl|rfl|rfl<;>omega
theorem zet {n:Nat} (hn:n≤15):(2:Int) ^ n≤32768:=by
 rcases (by omega : n = 0 ∨ n = 1 ∨ n = 2 ∨ n = 3 ∨ n = 4 ∨ n = 5 ∨ n = 6 ∨ n = 7 ∨ n = 8 ∨ n = 9 ∨ n = 10 ∨ n = 11 ∨ n = 12 ∨ n = 13 ∨ n = 14 ∨ n = 15) with
   rfl|rfl|rfl|rfl|rfl|rfl|rfl|rfl|rfl|rfl|rfl|rfl|rfl|rfl|rfl|rfl<;>omega
def zaV (l:List Int) (k:Nat):Int:=if 0<l.getD k 0 then zaO (cn l) (l.getD k 0).toNat+cn (l.take k) (l.getD k 0).toNat else 0
theorem zgj {l:List Int} (h:0≤zaY l) (k:Nat):0≤zaV l k∧zaV l k≤32768:=by
 unfold zaV
 split
 · rename_i hp
   obtain ⟨_,_,h3,_⟩:=zbd h
   by_cases hk:k<l.length
   · have hx := zbZ h3 (l.getD k 0) (by simp [List.getD, hk])
     have h1:=zcT h (l.getD k 0).toNat (by omega)
     have h2:=ze1 l k (l.getD k 0).toNat
     have h4:=(zfd (l.take k) (l.getD k 0).toNat).1
     have h5:=zet (n:=(l.getD k 0).toNat) (by omega)
     omega
   · simp [List.getD,hk] at hp
 · omega
end Go.Proofs.YtkhcjoomijkfbaaGreatDoor.Z
namespace Go.Proofs.YtkhcjoomijkfbaaGreatDoor.Z
open Go.Sort
def ats (l:List Int):Nat→Int
 | 0=>0
 | n+1=>ats l n+cn l n
theorem zdD (l:List Int) (n:Nat):∀m,n≤m→ats l n≤ats l m
 | 0, h => by obtain rfl : n = 0 := by omega
              exact Int.le_refl _
 | m + 1, h => by
   by_cases e:n=m+1
   · subst e;exact Int.le_refl _
   · have := zdD l n m (by omega)
     have:=(zfd l m).1
     simp only [ats];omega
theorem ats_nonneg (l:List Int) (n:Nat):0≤ats l n:=zdD l 0 n (Nat.zero_le _)
def zdR (l:List Int) (n:Nat):Bool:=l.any fun x=>decide ((n:Int)≤x)
theorem cn_pos {l:List Int} {m:Nat} (hm:0<m) (h:(m:Int)∈l):1≤cn l m:=by
 obtain ⟨k,hk,he⟩:=List.mem_iff_getElem.1 h
 have:=cn_lt (l:=l) (k:=k) (m:=m) hk hm (by simp [List.getD,hk,he])
 have:=(zfd (l.take k) m).1
 omega
theorem cn_zero {l:List Int} {m:Nat} (h:¬(m:Int)∈l):cn l m=0:=by
 unfold cn
 split
 · rfl
 · have : l.filter (fun x => x == (m : Int)) = [] := by
     rw [List.filter_eq_nil_iff]
     intro x hx
     simp
     intro e;subst e;exact h hx
   simp [this]
theorem ats_long {l:List Int} (hok1:hok l=true) {n:Nat} (hn:1≤n) (hn2:n≤16):(ats l n=ats l 16)↔zdR l n=false:=by
 constructor
 · intro h
   rw [zdR,List.any_eq_false]
   intro x hx
   have hx15:=zbZ hok1 x hx
   simp
   refine Int.not_le.1 fun hnx=>?_
   have hp:=cn_pos (l:=l) (m:=x.toNat) (by omega) (by rw [Int.toNat_of_nonneg hx15.1];exact hx)
   have h1:=zdD l n x.toNat (by omega)
   have h2:=zdD l (x.toNat+1) 16 (by omega)
   rw [show ats l (x.toNat+1)=ats l x.toNat+cn l x.toNat from rfl] at h2
   omega
 · intro h
   rw [zdR,List.any_eq_false] at h
   have key:∀m,n≤m→m≤16→ats l m=ats l n:=by
     intro m
     induction m with
     | zero => intro h1 _; obtain rfl : n = 0 := by omega
               rfl
     | succ m ih =>
       intro h1 h2
       by_cases e:n=m+1
       · subst e;rfl
       · simp only [ats]
         rw [ih (by omega) (by omega),cn_zero (fun hm=>by have:=h _ hm;simp at this;omega)]
         omega
   exact (key 16 hn2 (Nat.le_refl _)).symm
def zcb (l:List Int) (n:Nat) (x:Int):Option Nat:=(List.range l.length).find? fun k=>l.getD k 0==(n:Int)&&zaV l k==x
theorem zdU {l:List Int} {n:Nat} (hn:0<n):∀(N:Nat),N≤l.length→∀r:Int,0≤r→r<cn (l.take N) n→∃k,k<N∧l.getD k 0=(n:Int)∧cn (l.take k) n=r
 | 0,_,r,h0,h=>by simp [cn] at h;omega
 | N + 1, hN, r, h0, h => by
   rw [zbq 0 l N (by omega)] at h
   by_cases he:l.getD N 0=(n:Int)
   · rw [zcA _ _ _ (by omega), if_pos (by omega)] at h
     by_cases hr:r<cn (l.take N) n
     · obtain ⟨k, hk, h1, h2⟩ := zdU hn N (by omega) r h0 hr
       exact ⟨k,by omega,h1,h2⟩
     · exact ⟨N,by omega,he,by omega⟩
   · have hr:r<cn (l.take N) n:=by
       have e:cn (l.take N++[l.getD N 0]) n=cn (l.take N) n:=by
         unfold cn
         rw [if_neg (by omega),if_neg (by omega),List.filter_append]
         have:¬(l.getD N 0==(n:Int))=true:=by simpa using he
         simp only [List.getD] at this
         simp [this]
       omega
     obtain ⟨k,hk,h1,h2⟩:=zdU hn N (by omega) r h0 hr
     exact ⟨k,by omega,h1,h2⟩
theorem cn_take_mono (l:List Int) (n:Nat) {j k:Nat} (h:j≤k):cn (l.take j) n≤cn (l.take k) n:=by
 have:=ze1 (l.take k) j n
 rwa [List.take_take,Nat.min_eq_left h] at this
theorem findSym_some {l:List Int} {n:Nat} {x:Int} (hn:0<n) (h0:zaO (cn l) n≤x) (h1:x-zaO (cn l) n<cn l n) :
   ∃k,zcb l n x=some k∧k<l.length∧l.getD k 0=(n:Int)∧cn (l.take k) n=x-zaO (cn l) n:=by
 obtain ⟨k,hk,hl,hc⟩:=zdU (l:=l) hn l.length (Nat.le_refl _) (x-zaO (cn l) n) (by omega) (by rw [List.take_length];exact h1)
 have hkx:zaV l k=x:=by unfold zaV;rw [if_pos (by omega),hl];simp only [Int.toNat_natCast];omega
 have hs:(zcb l n x).isSome:=by
   rw [zcb,List.find?_isSome]
   exact ⟨k,by simpa using hk,by simp only [hl,hkx];simp⟩
 obtain ⟨k',hk'⟩:=Option.isSome_iff_exists.1 hs
 have hp:=List.find?_some hk'
 have hm:=List.mem_of_find?_eq_some hk'
 simp only [Bool.and_eq_true,beq_iff_eq] at hp
 have hc':cn (l.take k') n=x-zaO (cn l) n:=by
   have:=hp.2
   unfold zaV at this
   rw [if_pos (by omega),hp.1] at this
   simp only [Int.toNat_natCast] at this
   omega
 exact ⟨k',hk',by simpa using hm,hp.1,hc'⟩
theorem findSym_none {l:List Int} {n:Nat} {x:Int} (hn:0<n) (h:¬(zaO (cn l) n≤x∧x-zaO (cn l) n<cn l n)):zcb l n x=none:=by
 rw [zcb,List.find?_eq_none]
 intro k hk
 simp only [Bool.and_eq_true,beq_iff_eq,not_and]
 intro hl hc
 apply h
 have hkl:k<l.length:=by simpa using hk
 have h1:=cn_lt hkl hn hl
 have h2:=(zfd (l.take k) n).1
 unfold zaV at hc
 rw [if_pos (by omega),hl] at hc
 simp only [Int.toNat_natCast] at hc
 omega
def valN (f:Nat→Bool):Nat→Nat
 | 0=>0
 | n+1=>2 * valN f n+if f n then 1 else 0
theorem valN_lt (f:Nat→Bool):∀n,valN f n<2 ^ n
 | 0=>by simp [valN]
 | n+1=>by have:=valN_lt f n;simp only [valN,Nat.pow_succ];split<;>omega
def zci (l:List Int) (f:Nat→Bool) (left:Nat):Nat→Nat→Nat×Nat×Int
 | 0,n=>(0,n-1,13)
 | fuel+1,n =>
   if zdR l n=false then (0,n-1,13) else
   if left<n then (0,n-1,10) else
   match zcb l n (valN f n) with
   | some k=>(k,n,0)
   | none=>zci l f left fuel (n+1)
def zeR (l:List Int) (f:Nat→Bool) (left:Nat):Nat×Nat×Int:=zci l f left 15 1
structure SrtOf (l srt:List Int):Prop where
 len:(srt.length:Int)=ats l 16
 at_:∀k,k<l.length→0<l.getD k 0→srt.getD (ats l (l.getD k 0).toNat+cn (l.take k) (l.getD k 0).toNat).toNat 0=(k:Int)
def zar (l:List Int) (N:Nat):List Int:=((List.range N).filter fun k=>decide (0<l.getD k 0)).map fun (k:Nat)=>(k:Int)
theorem zd2 (l:List Int) (N:Nat):zar l (N+1)=zar l N++if 0<l.getD N 0 then [(N:Int)] else []:=by
 unfold zar
 rw [List.range_succ,List.filter_append,List.map_append]
 by_cases h:0<l.getD N 0
 · simp only [if_pos h];simp only [List.getD] at h;simp [h]
 · simp only [if_neg h];simp only [List.getD] at h;simp [h]
def zc8 (l:List Int) (x y:Int):Bool:=decide (l.getD x.toNat 0<l.getD y.toNat 0)||(decide (l.getD x.toNat 0=l.getD y.toNat 0)&&decide (x<y))
theorem zem (l:List Int):SWO (zc8 l):=by
 refine ⟨fun x=>?_,fun x y z h1 h2=>?_,fun x y z h1 h2=>?_⟩
 · simp [zc8]
 · simp only [zc8,Bool.or_eq_true,Bool.and_eq_true,decide_eq_true_eq] at *;omega
 · simp only [zc8,Bool.or_eq_false_iff,Bool.and_eq_false_iff,decide_eq_false_iff_not] at *;omega
theorem zgL {l:List Int} {N:Nat} {x:Int}:x∈zar l N↔∃k:Nat,k<N∧0<l.getD k 0∧x=(k:Int):=by
 simp only [zar,List.mem_map,List.mem_filter,List.mem_range,decide_eq_true_eq]
 constructor
 · rintro ⟨k,⟨h1,h2⟩,rfl⟩;exact ⟨k,h1,h2,rfl⟩
 · rintro ⟨k,h1,h2,rfl⟩;exact ⟨k,⟨h1,h2⟩,rfl⟩
theorem zib (l:List Int) (x:Int) (hx:0≤x):∀L:Nat,ats (l++[x]) L=ats l L+if 0<x∧x<(L:Int) then 1 else 0
 | 0=>by simp [ats];omega
 | L + 1 => by
   simp only [ats]
   rw [zib l x hx L,zcA l x L hx]
   by_cases h1:0<x∧x<(L:Int)
   · rw [if_pos h1,if_neg (by omega),if_pos (by omega)];omega
   · by_cases h2:0<x∧L=x.toNat
     · rw [if_neg h1,if_pos h2,if_pos (by omega)];omega
     · rw [if_neg h1,if_neg h2,if_neg (by omega)];omega
theorem cnt1 (X Y:Int) (b:Bool):(((if (decide (X<Y)||decide (X=Y)&&b)=true then 1 else 0:Nat)):Int)=if X<Y∨(X=Y∧b=true) then 1 else 0:=by
 by_cases h:X<Y
 · simp [h]
 · by_cases h':X=Y<;>cases b<;>simp [h,h']
theorem count_one (l : List Int) (N k : Nat) : [(N : Int)].countP (fun y => zc8 l y (k : Int)) = if (decide (l.getD N 0 < l.getD k 0) || decide (l.getD N 0 = l.getD k 0) && decide ((N : Int) < (k : Int))) = true then 1 else 0 := by
 rw [List.countP_cons,List.countP_nil,Nat.zero_add];rfl
theorem zfS {l:List Int} (hok1:hok l=true) (k:Nat) (hk:k<l.length) (hp:0<l.getD k 0):∀N,N≤l.length →
   (((zar l N).countP fun y=>zc8 l y (k:Int):Nat):Int)=ats (l.take N) (l.getD k 0).toNat+cn (l.take (min N k)) (l.getD k 0).toNat
 | 0, _ => by
   have e:ats (l.take 0) (l.getD k 0).toNat=0:=by
     have : ∀ L, ats ([] : List Int) L = 0 := by intro L; induction L with
       | zero=>rfl
       | succ L ih=>simp [ats,ih,cn]
     simpa using this _
   rw [e];simp [zar,cn]
 | N + 1, hN => by
   have ih:=zfS hok1 k hk hp N (by omega)
   have hx:=zbZ hok1 (l.getD N 0) (by simp [List.getD,show N<l.length by omega])
   rw [zd2,List.countP_append,zbq 0 l N (by omega),zib _ _ hx.1]
   push_cast
   rw [ih]
   by_cases hNk:N<k
   · have e1 : min (N + 1) k = N + 1 := by omega
     have e2:min N k=N:=by omega
     rw [e1,e2,zbq 0 l N (by omega),zcA _ _ _ hx.1]
     by_cases hpos:0<l.getD N 0
     · rw [if_pos hpos]
       have e3 : (([(N : Int)].countP fun y => zc8 l y (k : Int) : Nat) : Int) = if l.getD N 0 < l.getD k 0 ∨ l.getD N 0 = l.getD k 0 then 1 else 0 := by
         rw [count_one,cnt1];simp [hNk]
       rw [e3]
       by_cases h:l.getD N 0<l.getD k 0
       · rw [if_pos (.inl h),if_pos (by omega),if_neg (by omega)];omega
       · by_cases h':l.getD N 0=l.getD k 0
         · rw [if_pos (.inr h'),if_neg (by omega),if_pos (by omega)];omega
         · rw [if_neg (by omega),if_neg (by omega),if_neg (by omega)];omega
     · rw [if_neg hpos,if_neg (by omega),if_neg (by omega)];simp
   · have e1 : min (N + 1) k = k := by omega
     have e2:min N k=k:=by omega
     rw [e1,e2]
     by_cases hpos:0<l.getD N 0
     · rw [if_pos hpos]
       have e3 : (([(N : Int)].countP fun y => zc8 l y (k : Int) : Nat) : Int) = if l.getD N 0 < l.getD k 0 then 1 else 0 := by
         rw [count_one,cnt1];simp [hNk]
       rw [e3]
       by_cases h:l.getD N 0<l.getD k 0
       · rw [if_pos h,if_pos (by omega)];omega
       · rw [if_neg h,if_neg (by omega)];omega
     · rw [if_neg hpos,if_neg (by omega)];simp
theorem zcW {l:List Int} (hok1:hok l=true):∀N,N≤l.length→((zar l N).length:Int)=ats (l.take N) 16
 | 0,_=>by simp [zar,ats,cn]
 | N + 1, hN => by
   have hx:=zbZ hok1 (l.getD N 0) (by simp [List.getD,show N<l.length by omega])
   rw [zd2,List.length_append,zbq 0 l N (by omega),zib _ _ hx.1]
   push_cast
   rw [zcW hok1 N (by omega)]
   by_cases hpos:0<l.getD N 0
   · rw [if_pos hpos,if_pos (by omega)];simp
   · rw [if_neg hpos,if_neg (by omega)];simp
theorem zeu {α:Type} (p:α→Bool):∀(R:List α) (i:Nat),i≤R.length→(∀j (h:j<R.length),p R[j]=decide (j<i))→R.countP p=i
 | [],i,h,_=>by simp at h;simp [h]
 | x :: R, 0, _, hp => by
   rw [List.countP_eq_zero]
   intro y hy
   obtain ⟨j,hj,rfl⟩:=List.mem_iff_getElem.1 hy
   rw [hp j hj];simp
 | x :: R, i + 1, h, hp => by
   have h0:=hp 0 (by simp)
   simp only [List.getElem_cons_zero] at h0
   rw [List.countP_cons_of_pos (by rw [h0]; simp), zeu p R i (by simpa using h) (fun j hj => by
     have:=hp (j+1) (by simpa using hj)
     simpa using this)]
theorem srt_of {l:List Int} (hok1:hok l=true) (R:Array Int) (hP:PermIn 0 (zar l l.length).length (zar l l.length).toArray R) (hS:SortedIn (zc8 l) 0 (zar l l.length).length R):SrtOf l R.toList:=by
 obtain ⟨hsz,_,hperm⟩:=hP
 have hsz':R.size=(zar l l.length).length:=by simpa using hsz
 have hperm':R.toList.Perm (zar l l.length):=by
   have e1:R.extract 0 (zar l l.length).length=R:=by rw [←hsz'];simp
   have e2:(zar l l.length).toArray.extract 0 (zar l l.length).length=(zar l l.length).toArray:=by simp
   rw [e1,e2] at hperm
   simpa using hperm
 have hnd:(zar l l.length).Nodup:=by
   unfold zar
   refine List.Pairwise.map _ (R:=fun a b:Nat=>a≠b) (fun a b h e=>h (by omega)) ?_
   exact List.Pairwise.filter _ List.nodup_range
 have hnd':R.toList.Nodup:=hperm'.symm.nodup hnd
 have hstrict:∀i j (hi:i<R.toList.length) (hj:j<R.toList.length),i<j→zc8 l R.toList[i] R.toList[j]=true:=by
   intro i j hi hj hij
   have h1:=hS i j (Nat.zero_le _) hij (by rw [←hsz'];simpa using hj)
   have hi':i<R.size:=by simpa using hi
   have hj':j<R.size:=by simpa using hj
   simp only [getElem!_pos,hi',hj'] at h1
   have hne : R.toList[i] ≠ R.toList[j] := fun e => by
     have:=(List.getElem_inj hnd').1 e
     omega
   simp only [Array.getElem_toList] at hne ⊢
   simp only [zc8,Bool.or_eq_false_iff,Bool.and_eq_false_iff,decide_eq_false_iff_not] at h1
   simp only [zc8,Bool.or_eq_true,Bool.and_eq_true,decide_eq_true_eq]
   omega
 refine ⟨?_,fun k hk hp=>?_⟩
 · rw [hperm'.length_eq,zcW hok1 _ (Nat.le_refl _),List.take_length]
 · have hmem:(k:Int)∈R.toList:=hperm'.mem_iff.2 (zgL.2 ⟨k,hk,hp,rfl⟩)
   obtain ⟨i,hi,he⟩:=List.mem_iff_getElem.1 hmem
   have hc := zeu (fun y => zc8 l y (k : Int)) R.toList i (by omega) (fun j hj => by
     by_cases hji:j<i
     · have:=hstrict j i hj hi hji
       rw [he] at this
       simpa [hji] using this
     · by_cases e:j=i
       · subst e;rw [he];simp [(zem l).irrefl]
       · have h1 := hstrict i j hi hj (by omega)
         rw [he] at h1
         have h2:zc8 l R.toList[j] (k:Int)=false:=by
           cases h3:zc8 l R.toList[j] (k:Int) with
           | false=>rfl
           | true=>have:=(zem l).trans _ _ _ h1 h3;rw [(zem l).irrefl] at this;cases this
         rw [h2];simp [hji])
   rw [hperm'.countP_eq] at hc
   have hcount:=zfS hok1 k hk hp l.length (Nat.le_refl _)
   rw [hc,List.take_length,Nat.min_eq_right (by omega)] at hcount
   have e:(ats l (l.getD k 0).toNat+cn (l.take k) (l.getD k 0).toNat).toNat=i:=by omega
   rw [e,←List.getElem_eq_getD (h:=hi),he]
end Go.Proofs.YtkhcjoomijkfbaaGreatDoor.Z
namespace Go.Proofs.YtkhcjoomijkfbaaGreatDoor.Z
open Go.RowKit
theorem kraft_end {l:List Int} {n:Nat} (hl:l.length=n) (h1:¬(n:Int)<1) (h2:¬320<(n:Int)) (hok1:hok (l.take n)=true) :
   zaY l=if 32768<hsum (l.take n) then -1 else hsum (l.take n):=by
 subst hl
 rw [List.take_length] at hok1 ⊢
 unfold zaY
 rw [if_neg (by rintro (h|h|h)<;>first|omega|simp_all)]
theorem kraft_any (a:Option Addr) (n cap:Nat) (l:List Int) (w:World) (hr:Row w 1 a n cap (l.map (Value.int .i64))) :
   Calls Tryz.prog 242 #[.slice a n cap] w fun e w'=>e=.returned (.int .i64 (zaY l))∧w=w':=by
 have hm:=hr.i64
 have hl:=hr.len1
 by_cases h1:(n:Int)<1
 · have hv : zaY l = -1 := by unfold zaY; rw [if_pos (by omega)]
   have HV:=Lib.hid hv;clear hv
   go_enter Tryz.func242,Tryz.ntmps242
   go_wp2
   go_ret
   exact ⟨zan HV.out.symm,rfl⟩
 by_cases h2:320<(n:Int)
 · have hv : zaY l = -1 := by unfold zaY; rw [if_pos (by omega)]
   have HV:=Lib.hid hv;clear hv
   go_enter Tryz.func242,Tryz.ntmps242
   go_wp2
   go_ret
   exact ⟨zan HV.out.symm,rfl⟩
 have HL:=Lib.hid hl;clear hl
 go_enter Tryz.func242,Tryz.ntmps242
 go_wp2
 go_loop [3,16] (fun s i=>∃k:Nat,k≤n∧i=.int .i64 k∧s=.int .i64 (hsum (l.take k))∧Hid (hok (l.take k)=true)) (fun s i=>n-(intOf i).toNat)
 case atStart=>exact ⟨0,by omega,rfl,rfl,Lib.hid rfl⟩
 case round =>
   obtain ⟨k,hk,rfl,rfl,hok1⟩:=hrel
   by_cases hlt:k<n
   · obtain ⟨b,off,rfl,hb,hc⟩:=hr.at 0 k hlt
     have hck:=hc k hlt
     have hs:=hsum_bd (l.take k)
     have hs2:(l.take k).length≤k:=List.length_take_le _ _
     have ht:=zbq 0 l k (by rw [HL.out];exact hlt)
     obtain ⟨x,hx⟩:∃x,x=l.getD k 0:=⟨_,rfl⟩
     rw [←hx] at hck ht
     have HX:=Lib.hid hx
     have HT:=Lib.hid ht
     clear hc hx ht
     by_cases hneg:x<0
     · have hv : zaY l = -1 := by unfold zaY; rw [if_pos (.inr (.inr (hok_not (k := k) (by rw [HL.out]; exact hlt) (by rw [← HX.out]; omega))))]
       have HV:=Lib.hid hv;clear hv
       go_wp2
       go_ret
       exact ⟨zan HV.out.symm,rfl⟩
     by_cases h15:15<x
     · have hv : zaY l = -1 := by unfold zaY; rw [if_pos (.inr (.inr (hok_not (k := k) (by rw [HL.out]; exact hlt) (by rw [← HX.out]; omega))))]
       have HV:=Lib.hid hv;clear hv
       go_wp2
       go_ret
       exact ⟨zan HV.out.symm,rfl⟩
     have hbd:=hby_bd x
     unfold hby at hbd
     by_cases hp:0<x
     · go_wp2
       go_round
       case rel=>exact ⟨k+1,by omega,by go_num,by rw [HT.out,zfH];unfold hadd hby;rw [if_pos hp],Lib.hid (by rw [HT.out,hok_snoc,hok1.out];simp;omega)⟩
       case measure=>simp [intOf];omega
     · go_wp2
       go_round
       case rel=>exact ⟨k+1,by omega,by go_num,by rw [HT.out,zfH];unfold hadd;rw [if_neg hp],Lib.hid (by rw [HT.out,hok_snoc,hok1.out];simp;omega)⟩
       case measure=>simp [intOf];omega
   · obtain rfl : k = n := by omega
     have hv:=kraft_end HL.out (by omega) (by omega) hok1.out
     by_cases hw:32768<hsum (l.take k)
     · rw [if_pos hw] at hv
       have HV:=Lib.hid hv;clear hv
       go_wp2
       go_ret
       exact ⟨zan HV.out.symm,rfl⟩
     · rw [if_neg hw] at hv
       have HV:=Lib.hid hv;clear hv
       go_wp2
       go_ret
       exact ⟨zan HV.out.symm,rfl⟩
theorem infoA16:(Tryz.prog.info? 300).map (·.size)=some 16:=by kernel_rfl
theorem zfG:(Tryz.prog.info? 310).map (·.size)=some 16:=by kernel_rfl
def cnV (l:List Int) (m:Nat):Value:=.int .i64 (cn l m)
theorem zcB {n:Nat} {f:Nat→Value} (h:∀i,(f i).oneCell'=true):(fl n f).toArray.all (·.oneCell')=true:=by
 rw [Array.all_eq_true_iff_forall_mem]
 intro v hv
 simp [fl] at hv
 obtain ⟨i,_,rfl⟩:=hv
 exact h i
theorem zga (a:Option Addr) (n cap:Nat) (l:List Int) (w:World) (hr:Row w 1 a n cap (l.map (Value.int .i64))) (hok1:hok l=true) :
   Calls Tryz.prog 233 #[.slice a n cap] w fun e w'=>e=.returned (.agg (fl 16 (cnV l)).toArray)∧Below w.heap.size w w':=by
 have hm:=hr.i64
 have hl:=hr.len1
 have h15:=zbZ hok1
 have HL:=Lib.hid hl;clear hl
 go_enter Tryz.func233,Tryz.ntmps233
 go_wp2
 obtain ⟨Z,hZ⟩:∃Z:List Value,#[Value.int IntKind.i64 0,Value.int IntKind.i64 0,Value.int IntKind.i64 0,Value.int IntKind.i64 0,
         Value.int IntKind.i64 0,Value.int IntKind.i64 0,Value.int IntKind.i64 0,Value.int IntKind.i64 0,
         Value.int IntKind.i64 0,Value.int IntKind.i64 0,Value.int IntKind.i64 0,Value.int IntKind.i64 0,
         Value.int IntKind.i64 0,Value.int IntKind.i64 0,Value.int IntKind.i64 0,Value.int IntKind.i64 0]=Z.toArray:=⟨_,rfl⟩
 rw [hZ]
 have hZ2:Z=fl 16 (cnV []):=by
   have:=congrArg Array.toList hZ
   simpa [fl,cnV,cn,List.range_succ] using this.symm
 subst hZ2
 clear hZ
 go_loopw [8] (fun i wr => ∃ k : Nat, k ≤ n ∧ i = .int .i64 k ∧ wr.heap[w.heap.size + 1]? = some (.cells (fl 16 (cnV (l.take k))).toArray 300 (0, 0)) ∧
    wr.heap[w.heap.size]?=some (.cells (fl 16 (cnV [])).toArray 300 (0,0))∧Below w.heap.size w wr) (fun i _=>n-(intOf i).toNat)
 case atStart=>exact ⟨0,by omega,rfl,heap_alloc2_new _ _ _,heap_alloc2_old _ _ _,((Below.refl _ _).alloc (Nat.le_refl _) _).alloc (by simp) _⟩
 case round =>
   obtain ⟨k,hk,rfl,hB1,hB0,hbel⟩:=hrel
   by_cases hlt:k<n
   · obtain ⟨b,off,rfl,hb,hc⟩:=(hr.mono hbel).at 0 k hlt
     have hck:=hc k hlt
     have hkl:k<l.length:=by rw [HL.out];exact hlt
     have ht:=zbq 0 l k hkl
     have hx15:=h15 (l.getD k 0) (by simp [List.getD,hkl])
     obtain ⟨x,hx⟩:∃x,x=l.getD k 0:=⟨_,rfl⟩
     rw [←hx] at hck ht hx15
     have HT:=Lib.hid ht
     have HB0:=Lib.hid hB0
     have HB1:=Lib.hid hB1
     clear hc hx ht h15 hB0 hB1
     have hcb:=zfd (l.take k) x.toNat
     have hs2:(l.take k).length≤k:=List.length_take_le _ _
     by_cases hp:0<x
     · have hcell := zaD HB1.out x.toNat (by omega)
       unfold cnV at hcell
       have hfree:=zbN HB1.out x.toNat
       go_wp2
       go_roundw
       case rel =>
         refine ⟨k+1,by omega,by go_num,?_,za3 HB0.out (by simp) _,hbel.setCell (by simp) _⟩
         rw [zby HB1.out]
         have e : fl 16 (fun j => if j = x.toNat then Value.int IntKind.i64 (cn (l.take k) x.toNat + 1) else cnV (l.take k) j) = fl 16 (cnV (l.take (k + 1))) := zax fun i _ => by
           unfold cnV
           rw [HT.out,zcA _ _ _ hx15.1]
           by_cases hi:i=x.toNat
           · subst hi;simp [hp]
           · simp [hi]
         rw [e]
       case measure=>simp [intOf];omega
     · go_wp2
       go_roundw
       case rel =>
         refine ⟨k+1,by omega,by go_num,?_,HB0.out,hbel⟩
         rw [HB1.out]
         have e : fl 16 (cnV (l.take k)) = fl 16 (cnV (l.take (k + 1))) := zax fun i _ => by
           unfold cnV
           rw [HT.out,zcA _ _ _ hx15.1]
           simp [hp]
         rw [e]
       case measure=>simp [intOf];omega
   · obtain rfl : k = n := by omega
     have hT:l.take k=l:=by rw [←HL.out];exact List.take_length
     rw [hT] at hB1
     have HB0:=Lib.hid hB0
     have HB1:=Lib.hid hB1
     clear hB0 hB1 hT
     go_wp2_with (first
       | (refine wpList_load_row rfl 300 (.tmp 3) rfl (w.heap.size+1) rfl 300 _ (0,0) _ HB1.out Tryz.underlying300 rfl (by rw [infoA16];simp [zbs]) ?_)
       | (refine wpList_store_row rfl 300 (.tmp 2) (.tmp 20) rfl w.heap.size _ rfl rfl 300 _ HB0.out (by rw [infoA16];simp [zbs]) (by simp [zbs]) (zcB fun _=>rfl) ?_))
     refine bodyPost_ret (results_cell_row rfl _ _ w.heap.size 300 _ (0,0) _ rfl (setRow_heap _ _ _ _ _ _ HB0.out) Tryz.underlying300 rfl (by rw [infoA16];simp [zbs])) rfl ⟨rfl,?_⟩
     exact hbel.trans ⟨rfl,rfl,rfl,by simp,fun j hj=>setRow_other _ _ _ _ (by omega)⟩
def fcV (l:List Int) (k:Nat) (m:Nat):Value:=.int .u32 (if m<k then zaO (cn l) m else 0)
theorem firsts_any (l:List Int) (w:World) (hroom:0≤zaY l) :
   Calls Tryz.prog 243 #[.agg (fl 16 (cnV l)).toArray] w fun e w'=>e=.returned (.agg (fl 16 (fcV l 16)).toArray)∧Below w.heap.size w w':=by
 have hlen:=(zbd hroom).2.1
 have HR:=Lib.hid hroom;clear hroom
 go_enter Tryz.func243,Tryz.ntmps243
 go_wp2
 obtain ⟨Z,hZ⟩:∃Z:List Value,#[Value.int IntKind.u32 0,Value.int IntKind.u32 0,Value.int IntKind.u32 0,Value.int IntKind.u32 0,
         Value.int IntKind.u32 0,Value.int IntKind.u32 0,Value.int IntKind.u32 0,Value.int IntKind.u32 0,
         Value.int IntKind.u32 0,Value.int IntKind.u32 0,Value.int IntKind.u32 0,Value.int IntKind.u32 0,
         Value.int IntKind.u32 0,Value.int IntKind.u32 0,Value.int IntKind.u32 0,Value.int IntKind.u32 0]=Z.toArray:=⟨_,rfl⟩
 rw [hZ]
 have hZ2:Z=fl 16 (fcV l 0):=by
   have:=congrArg Array.toList hZ
   simpa [fl,fcV,List.range_succ] using this.symm
 subst hZ2
 clear hZ
 go_loopw [4, 6] (fun c i wr => ∃ k : Nat, k ≤ 16 ∧ i = .int .i64 k ∧ c = .int .u32 (zaO (cn l) (k - 1)) ∧ wr.heap[w.heap.size + 2]? = some (.cells (fl 16 (fcV l k)).toArray 310 (0, 0)) ∧
    wr.heap[w.heap.size+1]?=some (.cells (fl 16 (fcV l 0)).toArray 310 (0,0))∧wr.heap[w.heap.size]?=some (.cells (fl 16 (cnV l)).toArray 300 (0,0))∧Below w.heap.size w wr) (fun _ i _=>16-(intOf i).toNat)
 case atStart=>exact ⟨0,by omega,rfl,rfl,zac _ (by simp),zak _ (zac _ (by simp)),zak _ (zak _ (zac _ rfl)),zh6 _ _ _ _⟩
 case round =>
   obtain ⟨k,hk,rfl,rfl,hB2,hB1,hB0,hbel⟩:=hrel
   have HB0:=Lib.hid hB0
   have HB1:=Lib.hid hB1
   have HB2:=Lib.hid hB2
   clear hB0 hB1 hB2
   by_cases hlt:k<16
   · rcases k with _|k
     · go_wp2
       go_roundw
       case rel =>
         refine ⟨1,by omega,by go_num,rfl,?_,HB1.out,HB0.out,hbel⟩
         rw [HB2.out]
         have e : fl 16 (fcV l 0) = fl 16 (fcV l 1) := zax fun i _ => by
           unfold fcV
           by_cases hi:i=0
           · subst hi;simp [zaO]
           · simp [show ¬i<1 by omega]
         rw [e]
       case measure=>simp [intOf]
     · have hcell := zaD HB0.out k (by omega)
       unfold cnV at hcell
       have hcell2:=zaD HB2.out (k+1) (by omega)
       have hfree2:=zbN HB2.out (k+1)
       unfold fcV at hcell2
       have hcb:=zfd l k
       have hft:=zcT HR.out k (by omega)
       have hp:=zet (n:=k) (by omega)
       go_wp2
       go_roundw
       case rel =>
         refine ⟨k+2,by omega,by go_num,?_,?_,za3 HB1.out (by simp) _,za3 HB0.out (by simp;omega) _,hbel.setCell (by simp;omega) _⟩
         · rfl
         · rw [show w.heap.size+1+1=w.heap.size+2 from rfl,zby HB2.out]
           exact congrArg (fun x => some (Obj.cells (List.toArray x) _ _)) (zax fun i _ => by
             unfold fcV
             by_cases hi:i=k+1
             · subst hi;simp;rfl
             · have : (i < k + 1) = (i < k + 2) := by simp; omega
               simp [hi,this])
       case measure=>simp [intOf];omega
   · obtain rfl : k = 16 := by omega
     go_wp2_with (first
       | (refine wpList_load_row rfl 310 (.tmp 3) rfl (w.heap.size+2) rfl 310 _ (0,0) _ HB2.out Tryz.underlying310 rfl (by rw [zfG];simp [zbs]) ?_)
       | (refine wpList_store_row rfl 310 (.tmp 2) (.tmp 23) rfl (w.heap.size+1) _ rfl rfl 310 _ HB1.out (by rw [zfG];simp [zbs]) (by simp [zbs]) (zcB fun _=>rfl) ?_))
     refine bodyPost_ret (results_cell_row rfl _ _ (w.heap.size+1) 310 _ (0,0) _ rfl (setRow_heap _ _ _ _ _ _ HB1.out) Tryz.underlying310 rfl (by rw [zfG];simp [zbs])) rfl ⟨rfl,?_⟩
     exact zff hbel (by omega) _
theorem EU32:zfp Tryz.prog 257 181 (.int .u32 0) 1 4:=⟨Tryz.underlying257,by kernel_rfl,rfl,by omega⟩
theorem made_fl (z : Value) (n : Nat) : (madeCells #[z] (n * 1)).toList = fl n (fun _ => z) := by
 rw [Nat.mul_one,toList_madeCells_one,fl_replicate]
theorem own_cell {w:World} {base e g n cap:Nat} {enc:Nat→Value} (h:w.ownsRow base e 1 (.slice (some ⟨g,0,none⟩) n cap) n (fl n enc)) (i:Nat) (hi:i<n):w.cell? ⟨g,i,none⟩=some (enc i):=by
 rw [h.cellAt i (by omega),fl_get enc hi]
theorem own_set {w:World} {base e g n cap:Nat} {enc:Nat→Value} (h:w.ownsRow base e 1 (.slice (some ⟨g,0,none⟩) n cap) n (fl n enc)) (i:Nat) (v:Value) :
   (w.setCell ⟨g,i,none⟩ v).ownsRow base e 1 (.slice (some ⟨g,0,none⟩) n cap) n (fl n (fun j=>if j=i then v else enc j)):=by
 rw [←fl_set];exact (h.stored i v).1
theorem zcL {w:World} {base e sz:Nat} {v:Value} {n:Nat} {xs:List Value} (h:w.ownsRow base e sz v n xs) {a:Addr} (ha:v.ownBlock≠some a.block) (u:Value):(w.setCell a u).ownsRow base e sz v n xs:=ownsRow_setCell_other h ha u
theorem zev {w:World} {base e sz:Nat} {v:Value} {n:Nat} {xs ys:List Value} (h:w.ownsRow base e sz v n xs) (hx:xs=ys):w.ownsRow base e sz v n ys:=hx▸h
def cdV (l:List Int) (k i:Nat):Value:=.int .u32 (if i<k then zaV l i else 0)
def nxV (l:List Int) (k m:Nat):Value:=.int .u32 (zaO (cn l) m+cn (l.take k) m)
theorem codes_ok (a:Option Addr) (n cap:Nat) (l:List Int) (w:World) (hr:Row w 1 a n cap (l.map (Value.int .i64))) (hroom:0≤zaY l) :
   Calls Tryz.prog 231 #[.slice a n cap] w fun e w'=>∃v,e=.returned (.tuple #[v,.int .i64 0])∧w'.ownsRow w.heap.size 181 1 v n (fl n (cdV l n))∧Below w.heap.size w w':=by
 have hm:=hr.i64
 have hl:=hr.len1
 have hok1:=(zbd hroom).2.2.1
 have hlen:=(zbd hroom).2.1
 have h15:=zbZ hok1
 have hn:n≤320:=by omega
 have HL:=Lib.hid hl
 have HR:=Lib.hid hroom
 have H15:=Lib.hid h15
 have HOK:=Lib.hid hok1
 clear hl hroom h15 hok1
 go_enter Tryz.func231,Tryz.ntmps231
 go_wp2_with (first
   | (go_at_call 242;refine (kraft_any _ _ _ l _ hr).mono ?_;rintro e w' ⟨rfl,rfl⟩;have hrr:=HR.out))
 refine (zga _ _ _ l _ hr HOK.out).mono ?_
 rintro e w1 ⟨rfl,hb1⟩
 go_wp2_with fail
 refine (firsts_any l _ HR.out).mono ?_
 rintro e w2 ⟨rfl,hb2⟩
 have hn2:(n:Int)≤320:=by omega
 go_wp2_with (first
   | (with_reducible show wpList _ _ _ (Oper.mk _ (Op.store 310 (Operand.tmp 4) _) _ _ _ _::_) _ _;refine store_fresh rfl 310 (.tmp 4) (.tmp 13) rfl _ _ (fl 16 (fcV l 16)).toArray rfl rfl (by rw [zfG];simp [zbs]) (by simp [zbs]) (zcB fun _=>rfl) ?_;intro w3 hB3 hb3 hs3;have HB3:=Lib.hid hB3;have HS3:=Lib.hid hs3;clear hB3 hs3)
   | (at_make;refine make_full EU32 rfl (.tmp 15) (.tmp 15) rfl .i64 .i64 _ _ n rfl rfl rfl rfl (by omega) (by unfold maxLen;omega) ?_;intro w4 hown hb4;have HO:=Lib.hid (zev hown (made_fl _ n));clear hown))
 have hbA:=hb1.trans (hb2.mono hb1.size)
 have hbB:=hbA.trans (hb3.mono hbA.size)
 have hbC:=hbB.trans (hb4.mono hbB.size)
 have hne:¬w3.heap.size=w2.heap.size:=by have:=HS3.out;omega
 have hne2:¬w2.heap.size=w3.heap.size:=by have:=HS3.out;omega
 have hB4:=zab hb4 HB3.out
 have hgeB:=hbA.size
 have hgeG:=hbB.size
 have HB4:=Lib.hid hB4
 clear hB4 HB3 HS3 hb1 hb2 hb3 hb4 hbA hbB
 generalize w2.heap.size=B at *
 generalize w3.heap.size=G at *
 go_loopw [19] (fun i wr => ∃ k : Nat, k ≤ n ∧ i = .int .i64 k ∧ wr.ownsRow w.heap.size 181 1 (.slice (some ⟨G, 0, none⟩) n n) n (fl n (cdV l k)) ∧
    wr.heap[B]?=some (.cells (fl 16 (nxV l k)).toArray 310 (0,0))∧Below w.heap.size w wr) (fun i _=>n-(intOf i).toNat)
 case atStart =>
   refine ⟨0,by omega,rfl,zev (zbT HO.out hgeG) (zax fun i _=>by simp [cdV]),?_,hbC⟩
   rw [HB4.out]
   exact congrArg (fun x=>some (Obj.cells (List.toArray x) _ _)) (zax fun i hi=>by simp [fcV,nxV,hi];simp [cn])
 case round =>
   obtain ⟨k,hk,rfl,hO,hBk,hbel⟩:=hrel
   clear HO HB4 hbC
   have HO:=Lib.hid hO
   have HB:=Lib.hid hBk
   clear hO hBk
   by_cases hlt:k<n
   · obtain ⟨b,off,rfl,hb,hc⟩:=(hr.mono hbel).at 0 k hlt
     have hck:=hc k hlt
     have hkl:k<l.length:=by rw [HL.out];exact hlt
     have ht:=zbq 0 l k hkl
     have hx15:=H15.out (l.getD k 0) (by simp [List.getD,hkl])
     have hcl:=fun hp:0<l.getD k 0=>cn_lt (m:=(l.getD k 0).toNat) hkl (by omega) (by omega)
     have hcA:zaV l k=if 0<l.getD k 0 then zaO (cn l) (l.getD k 0).toNat+cn (l.take k) (l.getD k 0).toNat else 0:=rfl
     obtain ⟨x,hx⟩:∃x,x=l.getD k 0:=⟨_,rfl⟩
     rw [←hx] at hck ht hx15 hcl hcA
     have HT:=Lib.hid ht
     have HC:=Lib.hid hcA
     clear hc ht hx hcA
     by_cases hp:0<x
     · have hft := zcT HR.out x.toNat (by omega)
       have hcl':=hcl hp
       have hpw:=zet (n:=x.toNat) (by omega)
       have hcb:=zfd (l.take k) x.toNat
       clear hcl
       have hcell:=zaD HB.out x.toNat (by omega)
       unfold nxV at hcell
       have hfree:=zbN HB.out x.toNat
       have hcell2:=own_cell HO.out k hlt
       have hfree2:=HO.out.frozenAt k
       go_wp2
       go_roundw
       case rel =>
         refine ⟨k+1,by omega,by go_num,zev (zcL (own_set HO.out k _) (by simp [Value.ownBlock];omega) _) (zax fun i _=>?_),?_,(hbel.setCell (by simp;omega) _).setCell (by simp;omega) _⟩
         · unfold cdV
           by_cases hi:i=k
           · subst hi;simp [HC.out,hp]
           · have : (i < k) = (i < k + 1) := by simp; omega
             simp [hi,this]
         · rw [zby (za3 HB.out (by simp; omega) _)]
           exact congrArg (fun x => some (Obj.cells (List.toArray x) _ _)) (zax fun i _ => by
             unfold nxV
             rw [HT.out,zcA _ _ _ hx15.1]
             by_cases hi:i=x.toNat
             · subst hi;simp [hp];omega
             · simp [hi])
       case measure=>simp [intOf];omega
     · go_wp2
       go_roundw
       case rel =>
         refine ⟨k+1,by omega,by go_num,zev HO.out (zax fun i _=>?_),?_,hbel⟩
         · unfold cdV
           by_cases hi:i=k
           · subst hi;simp [HC.out,hp]
           · have : (i < k) = (i < k + 1) := by simp; omega
             simp [this]
         · rw [HB.out]
           exact congrArg (fun x => some (Obj.cells (List.toArray x) _ _)) (zax fun i _ => by
             unfold nxV
             rw [HT.out,zcA _ _ _ hx15.1]
             simp [hp])
       case measure=>simp [intOf];omega
   · obtain rfl : k = n := by omega
     go_wp2
     go_ret2
     exact ⟨_,rfl,HO.out,hbel⟩
theorem codes_bad (a:Option Addr) (n cap:Nat) (l:List Int) (w:World) (hr:Row w 1 a n cap (l.map (Value.int .i64))) (hroom:zaY l<0) :
   Calls Tryz.prog 231 #[.slice a n cap] w fun e w'=>e=.returned (.tuple #[.slice none 0 0,.int .i64 13])∧w=w':=by
 go_enter Tryz.func231,Tryz.ntmps231
 go_wp2_with (first
   | (go_at_call 242;refine (kraft_any _ _ _ l _ hr).mono ?_;rintro e w' ⟨rfl,rfl⟩))
 go_ret2
 exact ⟨rfl,rfl⟩
theorem ETI:zfp Tryz.prog 188 3 (.int .i64 0) 1 8:=⟨Tryz.underlying188,by kernel_rfl,rfl,by omega⟩
theorem cloneI (a:Option Addr) (n cap:Nat) (xs:List Value) (w:World) (hr:Row w 1 a n cap xs) (h1:∀u∈xs,u.oneCell'=true) (hby:n * 8≤140737488355328) :
   Calls Tryz.prog 232 #[.slice a n cap] w fun e w'=>∃v,e=.returned v∧w'.ownsRow w.heap.size 3 1 v n xs∧Below w.heap.size w w'∧NN a v:=by
 rcases a with _|ad
 · obtain ⟨r1,r2,r3,r4,r5⟩:=hr
   obtain rfl:=r4 rfl
   obtain rfl:n=0:=by omega
   obtain rfl:xs=[]:=List.eq_nil_of_length_eq_zero (by simpa using r1)
   have hnil:=fun W:World=>Lib.run_eql_slice_nil (P:=Tryz.prog) W 188 3 none 0 0 0 0 Tryz.underlying188
   go_enter Tryz.func232,Tryz.ntmps232
   go_wp2
   go_ret
   exact ⟨_,rfl,World.ownsRow_nil _ _ _ _,Below.refl _ _,fun h=>absurd rfl h⟩
 · have hm:n≤maxLen:=Nat.le_trans hr.2.1 hr.2.2.1
   have hnil:=fun W:World=>Lib.run_eql_slice_nil (P:=Tryz.prog) W 188 3 (some ad) n cap 0 0 Tryz.underlying188
   have HR:=Lib.hid (hr.mono (zah w (.cells #[] 3)))
   have hO:=World.ownsRow_lit (base:=w.heap.size) (e:=3) (size:=1) w #[] 0 (Nat.le_refl _) (by simp [maxLen]) (by simp)
   have HO:=Lib.hid hO
   clear hO hr
   go_enter Tryz.func232,Tryz.ntmps232
   go_wp2_with (at_builtin;refine zbJ ETI rfl (.tmp 5) (.tmp 6) rfl w.heap.size (.slice (some ⟨w.heap.size,0,none⟩) 0 0) 0 _ rfl HO.out _ n _ _ rfl HR.out h1 (by omega) (by omega) (by simp) ?_;intro v' w1 hO1 hg hnil;have HO1:=Lib.hid hO1;have HN:=Lib.hid hnil;have HG:=Lib.hid hg;clear hO1 hnil hg)
   go_ret
   refine ⟨_,rfl,by simpa using HO1.out,zfR (zah w _) HG.out (by rw [zal];omega) (fun k hk=>by simp [Value.ownBlock] at hk;omega),fun _ h=>?_⟩
   have:=HN.out.1 h;simp at this
theorem ETB:zfp Tryz.prog 24 5 (.int .u8 0) 1 1:=⟨Tryz.underlying24,by kernel_rfl,rfl,by omega⟩
theorem cloneB (a:Option Addr) (n cap:Nat) (xs:List Value) (w:World) (hr:Row w 1 a n cap xs) (h1:∀u∈xs,u.oneCell'=true) (hby:n * 1≤140737488355328) :
   Calls Tryz.prog 176 #[.slice a n cap] w fun e w'=>∃v,e=.returned v∧w'.ownsRow w.heap.size 5 1 v n xs∧Below w.heap.size w w'∧NN a v:=by
 rcases a with _|ad
 · obtain ⟨r1,r2,r3,r4,r5⟩:=hr
   obtain rfl:=r4 rfl
   obtain rfl:n=0:=by omega
   obtain rfl:xs=[]:=List.eq_nil_of_length_eq_zero (by simpa using r1)
   have hnil:=fun W:World=>Lib.run_eql_slice_nil (P:=Tryz.prog) W 24 5 none 0 0 0 0 Tryz.underlying24
   go_enter Tryz.func176,Tryz.ntmps176
   go_wp2
   go_ret
   exact ⟨_,rfl,World.ownsRow_nil _ _ _ _,Below.refl _ _,fun h=>absurd rfl h⟩
 · have hm:n≤maxLen:=Nat.le_trans hr.2.1 hr.2.2.1
   have hnil:=fun W:World=>Lib.run_eql_slice_nil (P:=Tryz.prog) W 24 5 (some ad) n cap 0 0 Tryz.underlying24
   have HR:=Lib.hid (hr.mono (zah w (.cells #[] 5)))
   have hO:=World.ownsRow_lit (base:=w.heap.size) (e:=5) (size:=1) w #[] 0 (Nat.le_refl _) (by simp [maxLen]) (by simp)
   have HO:=Lib.hid hO
   clear hO hr
   go_enter Tryz.func176,Tryz.ntmps176
   go_wp2_with (at_builtin;refine zbJ ETB rfl (.tmp 5) (.tmp 6) rfl w.heap.size (.slice (some ⟨w.heap.size,0,none⟩) 0 0) 0 _ rfl HO.out _ n _ _ rfl HR.out h1 (by omega) (by omega) (by simp) ?_;intro v' w1 hO1 hg hnil;have HO1:=Lib.hid hO1;have HN:=Lib.hid hnil;have HG:=Lib.hid hg;clear hO1 hnil hg)
   go_ret
   refine ⟨_,rfl,by simpa using HO1.out,zfR (zah w _) HG.out (by rw [zal];omega) (fun k hk=>by simp [Value.ownBlock] at hk;omega),fun _ h=>?_⟩
   have:=HN.out.1 h;simp at this
theorem i64_and7 (n:Int):bits .and .i64 n 7=n % 8:=by
 have h7:(BitVec.ofInt 64 7).toNat=2 ^ 3-1:=by decide
 have key:(BitVec.ofInt 64 n &&& BitVec.ofInt 64 7).toNat=(n % ((2 ^ 64:Nat):Int)).toNat % 2 ^ 3:=by
   rw [BitVec.toNat_and,BitVec.toNat_ofInt,h7,Nat.and_two_pow_sub_one_eq_mod]
 show IntKind.i64.wrap ((BitVec.ofInt 64 n &&& BitVec.ofInt 64 7).toNat:Nat)=n % 8
 rw [key,IntKind.wrap_i64]
 omega
theorem case8 (s:Nat) (h:s<8):s=0∨s=1∨s=2∨s=3∨s=4∨s=5∨s=6∨s=7:=by omega
def zhD (at_:Nat) (high:Bool):Nat:=if high then 7-at_ % 8 else at_ % 8
def maskV (at_:Nat) (high:Bool):Int:=((2 ^ zhD at_ high:Nat):Int)
theorem maskE_lt (at_:Nat) (high:Bool):zhD at_ high<8:=by unfold zhD;split<;>omega
theorem mask_any (b off at_:Nat) (high:Bool) (w:World) (h0:w.cell? ⟨b,off,none⟩=some (.int .i64 at_)) (h1:w.cell? ⟨b,off+1,none⟩=some (.bool high)) :
   Calls Tryz.prog 228 #[.pointer (some ⟨b,off,none⟩)] w fun e w'=>e=.returned (.int .u8 (maskV at_ high))∧w=w':=by
 obtain ⟨s,hs⟩:∃s,s=at_ % 8:=⟨_,rfl⟩
 have hand:bits .and .i64 (at_:Int) 7=(s:Int):=by rw [i64_and7];omega
 have hv:maskV at_ high=if high then ((2 ^ (7-s):Nat):Int) else ((2 ^ s:Nat):Int):=by
   unfold maskV zhD;rw [←hs];cases high<;>rfl
 have hs8:s<8:=by omega
 have HV:=Lib.hid hv
 clear hv hs
 rcases case8 s hs8 with rfl|rfl|rfl|rfl|rfl|rfl|rfl|rfl<;>cases high
 all_goals
   clear hs8
   go_enter Tryz.func228,Tryz.ntmps228
   go_wp2
   go_ret
   exact ⟨congrArg (fun x=>Ending.returned (.int .u8 x)) HV.out.symm,rfl⟩
def zde (k n:Nat) (high:Bool):Nat:=if high then n-1-k else k
theorem turn_any (b off k n:Nat) (high:Bool) (w:World) (h1:w.cell? ⟨b,off+1,none⟩=some (.bool high)) (hk:k<n) (hn:n≤32) :
   Calls Tryz.prog 229 #[.pointer (some ⟨b,off,none⟩),.int .i64 k,.int .i64 n] w fun e w'=>e=.returned (.int .i64 (zde k n high:Nat))∧w=w':=by
 have hv:((zde k n high:Nat):Int)=if high then (n:Int)-1-k else (k:Int):=by unfold zde;cases high<;>simp<;>omega
 have HV:=Lib.hid hv
 clear hv
 cases high
 all_goals
   go_enter Tryz.func229,Tryz.ntmps229
   go_wp2
   go_ret
   exact ⟨congrArg (fun x=>Ending.returned (.int .i64 x)) HV.out.symm,rfl⟩
structure IsRd (w:World) (r:Nat) (bs:List UInt8) (high:Bool) (at_:Nat):Prop where
 ex : ∃ a cap, w.heap[r]? = some (.cells (fl 4 (fun i => if i = 0 then .int .i64 at_ else if i = 1 then .bool high else if i = 2 then .bool true else .slice a bs.length cap)).toArray 248 (0, 0)) ∧
   Row w 1 a bs.length cap (bs.map fun b=>.int .u8 b.toNat)∧∀x,a=some x→x.block<r
 le:at_≤8 * bs.length
 small:8 * bs.length<4611686018427387904
theorem zda (r:Nat) (bs:List UInt8) (high:Bool) (at_:Nat) (w:World) (h:IsRd w r bs high at_) :
   Calls Tryz.prog 184 #[.pointer (some ⟨r,0,none⟩)] w fun e w'=>e=.returned (.bool false)∧w=w':=by
 obtain ⟨⟨a,cap,hb,hr,hne⟩,hle,hsm⟩:=h
 have h2:=zaD hb 2 (by omega)
 simp only [if_pos,Nat.reduceEqDiff,if_false] at h2
 go_enter Tryz.func184,Tryz.ntmps184
 go_wp2
 go_ret
 exact ⟨rfl,rfl⟩
theorem left_any (r:Nat) (bs:List UInt8) (high:Bool) (at_:Nat) (w:World) (h:IsRd w r bs high at_) :
   Calls Tryz.prog 227 #[.pointer (some ⟨r,0,none⟩)] w fun e w'=>e=.returned (.int .i64 ((8 * bs.length-at_:Nat):Int))∧∃q,w'=w.drewN q:=by
 have hdead:=zda r bs high at_ w h
 have HD:=Lib.hid hdead
 obtain ⟨⟨a,cap,hb,hr,hne⟩,hle,hsm⟩:=h
 have h0:=zaD hb 0 (by omega)
 have h3:=zaD hb 3 (by omega)
 simp only [if_pos,Nat.reduceEqDiff,if_false] at h0 h3
 have hv:((8 * bs.length-at_:Nat):Int)=8 * (bs.length:Int)-at_:=by omega
 have HV:=Lib.hid hv
 clear hv hb hr hne hdead
 generalize bs.length=n at *
 go_enter Tryz.func227,Tryz.ntmps227
 go_wp2_with (go_at_call 184;refine HD.out.mono ?_;rintro e w' ⟨rfl,rfl⟩)
 go_quiet (fail)
 go_wp2
 go_ret
 exact ⟨congrArg (fun x=>Ending.returned (.int .i64 x)) HV.out.symm,_,rfl⟩
end Go.Proofs.YtkhcjoomijkfbaaGreatDoor.Z
