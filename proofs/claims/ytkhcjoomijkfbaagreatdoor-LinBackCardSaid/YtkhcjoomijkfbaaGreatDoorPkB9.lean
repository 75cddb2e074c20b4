/-
  Our texts Stk2 to QSym4, in one.
-/
import Derived.Test.YtkhcjoomijkfbaaGreatDoorPkB8
import Derived.BigQuiet
import Derived.Sort.LotA
import Derived.Sort.Lot0
import Derived.Deep.Draws
import Derived.RangeFuncBox
import Derived.RangeFuncNested
import Derived.RangeFuncBound
import Derived.RangeFuncCalls
import Derived.RangeFuncLeaves
import Derived.Shelf.Abstract
import Derived.Shelf.RegionOpen
import Derived.OwnWalkIn
import Derived.TacticsInMore
import Derived.LoopNIn
import Derived.LoopIn
import Derived.Lib.AppendZeros
import Derived.Test.YtkhcjoomijkfbaaGreatDoorProg
import Derived.Deep.QuietTactic
set_option maxRecDepth 8000
set_option maxHeartbeats 8000000
namespace Go.Proofs.YtkhcjoomijkfbaaGreatDoor
open Go.RowKit
theorem ptrs_cons (g:Nat) (gs:List Nat):ptrs (g::gs)=ptrs gs++[.pointer (some ⟨g,0,none⟩)]:=by simp [ptrs]
section
variable {w0 w w' : World} {F F' G G' : Nat → Prop} {p : Nat} {a : Option Addr} {cap : Nat} {bs : List UInt8} {last : Bool} {st : List Lv} {at_ : Int} {gs : List Nat} {osl : Value}
theorem zav.ownp (h:zav w0 w F G p a cap bs last st at_ gs osl) {b:Nat} (hb:osl.ownBlock=some b):b≠p:=by
 obtain ⟨cs,hc⟩:=zaT h.own hb;exact zbj hc h.blk (by decide)
theorem zav.ownF (h : zav w0 w F G p a cap bs last st at_ gs osl) {b : Nat} (hb : osl.ownBlock = some b) : ¬ F b := fun hf => by
 obtain ⟨cs,hc⟩:=zaT h.own hb
 obtain ⟨_,_,ds,hd⟩:=h.fb b hf
 exact zbj hc hd (by decide) rfl
theorem zav.Flt (h:zav w0 w F G p a cap bs last st at_ gs osl) {b:Nat} (hb:F b):b<w.heap.size:=by obtain ⟨_,_,cs,hc⟩:=h.fb b hb;exact zaj hc
theorem isLV_ne {w:World} {b c:Nat} {x:Array Value} {t:TypeId} {f:Nat×Nat} (h:IsLV w b) (hc:w.heap[c]?=some (.cells x t f)) (h1:t≠168) (h2:t≠48):b≠c:=by
 rcases h with ⟨cs,h⟩|⟨cs,h⟩
 · exact zbj h hc (Ne.symm h1)
 · exact zbj h hc (Ne.symm h2)
theorem zav.push (h:zav w0 w F G p a cap bs last st at_ gs osl) (d:Bool) (hd:st.length<64) (o:Obj) {w2:World} {v':Value}
   (hO:w2.ownsRow w0.heap.size 165 1 v' (st.length+1) (ptrs gs++[.pointer (some ⟨w.heap.size,0,none⟩)]))
   (hg:((w.alloc (.cells #[.bool d,.slice none 0 0] 168)).alloc o).grownBy w2 osl.ownBlock) (hN:NewAt ((w.alloc (.cells #[.bool d,.slice none 0 0] 168)).alloc o) osl v') :
   Nxt w0 w F G p a cap bs last ({ dict:=d,l:=[] }::st) at_ F (w2.setCell ⟨p,3,none⟩ v'):=by
 have hs1:((w.alloc (.cells #[.bool d,.slice none 0 0] 168)).alloc o).heap.size=w.heap.size+2:=by rw [zas,zas]
 have hs2:=hg.size
 rw [hs1] at hs2
 have hb1:=zcn w (.cells #[.bool d,.slice none 0 0] 168) o
 have hp:=h.lt
 have hol:∀b,osl.ownBlock=some b→b<w.heap.size:=fun b hb=>(h.own.lt b hb).2
 have hkw:∀b,b<w.heap.size→osl.ownBlock≠some b→w2.heap[b]?=w.heap[b]?:=fun b hb hn=>(hg.block b (by rw [hs1];omega) (fun e=>hn e.symm)).trans (hb1.block b hb)
 have hk3:∀b,b≠p→(w2.setCell ⟨p,3,none⟩ v').heap[b]?=w2.heap[b]?:=fun b hb=>heap_setCell_other _ _ _ _ hb
 have hs3:(w2.setCell ⟨p,3,none⟩ v').heap.size=w2.heap.size:=by simp [World.setCell]
 have hpo:osl.ownBlock≠some p:=fun e=>h.ownp e rfl
 have hgb:w2.heap[w.heap.size]?=some (.cells #[.bool d,.slice none 0 0] 168 (0,0)):=by
   rw [hg.block w.heap.size (by rw [hs1];omega) (fun e=>by have:=hol _ e.symm;omega)]
   exact zao o (zac _ rfl)
 have hp2:w2.heap[p]?=_:=(hkw p hp hpo).trans h.blk
 have hv':∀b,v'.ownBlock=some b→b≠p:=fun b hb=>by obtain ⟨cs,hc⟩:=zaT hO hb;exact zbj hc hp2 (by decide)
 have hFs : za4 F w (w2.setCell ⟨p, 3, none⟩ v') := ⟨by omega, fun b hb hf => by
   rw [hk3 b (h.notF hf),hkw b hb (fun e=>h.ownF e hf)]⟩
 refine ⟨⟨w.heap.size::gs,v',heap_setCell_same w2 p 3 _ _ _ hp2,h.base,h.gp,?_,fun b hb hG=>?_,?_,fun b hb=>?_,fun b hb=>?_,?_,h.row,h.small,by simp;omega⟩,⟨by omega,fun b hb hG=>?_⟩,hFs,fun _ h=>h⟩
 · rw [ptrs_cons];exact zby hO fun b hb=>hk3 b (hv' b hb)
 · rcases hN b hb with e|e
   · exact h.go b e hG
   · have:=(h.gb b hG).2;rw [hs1] at e;omega
 · refine ⟨w.heap.size, gs, .slice none 0 0, [], rfl, h.bel.size, fun hG => by have := (h.gb _ hG).2; omega, (hk3 _ (by omega)).trans hgb, World.ownsRow_nil _ _ _ _, rfl, fun b hb => (by cases hb), ?_⟩
   refine h.lvs.keep' hFs (fun _ h=>h) (fun b hb hn hl=>?_) (fun b hb=>.inl hb) (fun b hb=>?_)
   · rw [hk3 b (isLV_ne hl h.blk (by decide) (by decide)),hkw b hb (fun e=>by obtain ⟨cs,hc⟩:=zaT h.own e;exact isLV_ne hl hc (by decide) (by decide) rfl)]
   · rcases hb with hb|hb|hb
     · exact .inl hb
     · exact .inr (Nat.le_of_eq hb.symm)
     · cases hb
 · obtain ⟨h1,h2,cs,h3⟩:=h.fb b hb
   exact ⟨h1,h2,cs,by rw [hFs.2 b (h.Flt hb) hb];exact h3⟩
 · have:=h.gb b hb;omega
 · refine h.bel.trans (Below.setCell (w := w2) (a := w) (p := ⟨p, 3, none⟩) ⟨?_, ?_, ?_, ?_, fun b hb => ?_⟩ h.base _)
   · exact hg.os.trans hb1.os
   · exact hg.tape.trans hb1.tape
   · exact hg.output.trans hb1.output
   · have:=h.bel.size;omega
   · exact hkw b (by have:=h.bel.size;omega) (fun e=>by have:=(h.own.lt b e).1;omega)
 · rw [hk3 b (fun e=>h.gp (e▸hG)),hkw b hb (fun e=>h.go b e hG)]
theorem zav.pop {v:Lv} (h:zav w0 w F G p a cap bs last (v::st) at_ gs osl) {ao:Option Addr} {oc:Nat} (ho:osl=.slice ao (st.length+1) oc) :
   ∃F' sl,(∀b,F b→F' b)∧(∃g t cs,gs=g::t∧w.heap[g]?=some (.cells #[.bool v.dict,sl] 168 (0,0))∧w.ownsRow w0.heap.size 48 4 sl v.l.length cs∧IsVs w F' v.l cs∧(∀b,sl.ownBlock=some b→F' b)) ∧
     Nxt w0 w F G p a cap bs last st at_ F' (w.setCell ⟨p,3,none⟩ (.slice ao st.length oc)):=by
 obtain ⟨g,t,sl,cs,h1,h2,h3,h4,h5,h6,h7,h8⟩:=h.lvs
 have hk3:∀b,b≠p→(w.setCell ⟨p,3,none⟩ (.slice ao st.length oc)).heap[b]?=w.heap[b]?:=fun b hb=>heap_setCell_other _ _ _ _ hb
 have hs3:(w.setCell ⟨p,3,none⟩ (.slice ao st.length oc)).heap.size=w.heap.size:=by simp [World.setCell]
 have hsp:∀b,sl.ownBlock=some b→b≠p:=fun b hb=>by obtain ⟨cs,hc⟩:=zaT h5 hb;exact zbj hc h.blk (by decide)
 subst ho h1
 have hFs:za4 F w (w.setCell ⟨p,3,none⟩ (.slice ao st.length oc)):=⟨by omega,fun b hb hf=>hk3 b (h.notF hf)⟩
 refine ⟨fun b => F b ∨ sl.ownBlock = some b, sl, fun b hb => .inl hb, ⟨g, t, cs, rfl, h4, h5, h6.weaken (fun b hb => .inl hb), fun b hb => .inr hb⟩, ⟨t, .slice ao st.length oc, heap_setCell_same w p 3 _ _ _ h.blk, h.base, h.gp, ?_, fun b hb => ?_, ?_, fun b hb => ?_, fun b hb => by rw [hs3]; exact h.gb b hb, h.bel.trans ((Below.refl _ _).setCell h.base _), h.row, h.small, by have := h.deep; simp at this; omega⟩,
   ⟨by omega,fun b hb hG=>hk3 b (fun e=>h.gp (e▸hG))⟩,hFs,fun b hb=>.inl hb⟩
 · have ho:=h.own
   rw [ptrs_cons] at ho
   obtain ⟨hl,ho⟩:=ho
   rcases ho with ⟨hn,-⟩|⟨gg,cc,cur,hv,hb,hh,hc1,hc2,hc3,hc4⟩
   · simp at hn
   · simp only [Value.slice.injEq] at hv
     obtain ⟨rfl,-,rfl⟩:=hv
     have hlp:(ptrs t).length=st.length:=by simpa using hl
     refine ⟨by simpa using hlp,.inr ⟨gg,oc,cur,rfl,hb,?_,by simp at hc1;omega,hc2,hc3,?_⟩⟩
     · rw [hk3 gg (by intro e;subst e;exact h.ownp rfl rfl)];exact hh
     · have:=congrArg (List.take st.length) hc4
       simpa [List.take_take,hlp] using this
 · refine h.go b ?_
   cases ao with
   | none=>cases hb
   | some x=>exact hb
 · refine h8.keep' hFs (fun b hb => .inl hb) (fun b hb hn hl => hk3 b (isLV_ne hl h.blk (by decide) (by decide))) (fun b hb => ?_) (fun b hb => .inl (.inl hb))
   rcases hb with hb|hb
   · exact .inl hb
   · exact .inr (.inl (.inr (.inr hb)))
 · rcases hb with hb|hb
   · obtain ⟨k1,k2,ds,k3⟩:=h.fb b hb
     exact ⟨k1,k2,ds,by rw [hk3 b (h.notF hb)];exact k3⟩
   · obtain ⟨ds,k3⟩:=zaT h5 hb
     exact ⟨(h5.lt b hb).1,(h7 b hb).2,ds,by rw [hk3 b (hsp b hb)];exact k3⟩
theorem zav.lastL {v:Lv} (h:zav w0 w F G p a cap bs last (v::st) at_ gs osl):∃g t sa sc cs,gs=g::t∧v.l.length≤sc∧sc≤maxLen∧w0.heap.size≤g∧¬G g∧w.heap[g]?=some (.cells #[.bool v.dict,.slice sa v.l.length sc] 168 (0,0)) ∧
   w.ownsRow w0.heap.size 48 4 (.slice sa v.l.length sc) v.l.length cs∧IsVs w F v.l cs∧∀b,(Value.slice sa v.l.length sc).ownBlock=some b→¬F b∧¬G b:=by
 obtain ⟨g,t,sl,cs,h1,h2,h3,h4,h5,h6,h7,h8⟩:=h.lvs
 obtain ⟨sa,sc,rfl,h9,h10⟩:=zbi h5
 exact ⟨g,t,sa,sc,cs,h1,h9,h10,h2,h3,h4,h5,h6,h7⟩
theorem zav.put {v:Lv} {g:Nat} {t:List Nat} (h:zav w0 w F G p a cap bs last (v::st) at_ (g::t) osl) {sl:Value} (h4:w.heap[g]?=some (.cells #[.bool v.dict,sl] 168 (0,0))) {cs:List Value}
   (h6:IsVs w F v.l cs) {x:PV} {sx:Value} (hx:IsV w F x sx) {w3:World} {v':Value} (hO:w3.ownsRow w0.heap.size 48 4 v' (v.l.length+1) (cs++pvC x sx)) (hk:zak (fun b=>sl.ownBlock=some b) w w3)
   (hN:∀b,v'.ownBlock=some b→sl.ownBlock=some b∨w.heap.size≤b) :
   Nxt w0 w F G p a cap bs last ({ v with l:=v.l++[x] }::st) at_ F (w3.setCell ⟨g,1,none⟩ v'):=by
 obtain ⟨g',t',sl',cs',h1,h2,h3,h4',h5,-,h7,h8⟩:=h.lvs
 simp only [List.cons.injEq] at h1
 obtain ⟨rfl,rfl⟩:=h1
 have hsl:sl'=sl:=by
   rw [h4] at h4'
   simpa using h4'.symm
 subst hsl
 have hgl:=zaj h4
 have hsg:∀b,sl'.ownBlock=some b→b≠g:=fun b hb=>by obtain ⟨ds,hc⟩:=zaT h5 hb;exact zbj hc h4 (by decide)
 have hsl:∀b,sl'.ownBlock=some b→b<w.heap.size:=fun b hb=>(h5.lt b hb).2
 have hk4:∀b,b≠g→(w3.setCell ⟨g,1,none⟩ v').heap[b]?=w3.heap[b]?:=fun b hb=>heap_setCell_other _ _ _ _ hb
 have hs4:(w3.setCell ⟨g,1,none⟩ v').heap.size=w3.heap.size:=by simp [World.setCell]
 have hsz:=hk.size
 have hg3:w3.heap[g]?=some (.cells #[.bool v.dict,sl'] 168 (0,0)):=hk.obj h4 (fun e=>hsg g e rfl)
 have hvg:∀b,v'.ownBlock=some b→b≠g:=fun b hb=>by obtain ⟨ds,hc⟩:=zaT hO hb;exact zbj hc hg3 (by decide)
 have hpg:p≠g:=zbj h.blk h4 (by decide)
 have hps:sl'.ownBlock≠some p:=fun e=>by obtain ⟨ds,hc⟩:=zaT h5 e;exact zbj hc h.blk (by decide) rfl
 have hFg:∀b,F b→b≠g:=fun b hb=>by obtain ⟨_,_,ds,hc⟩:=h.fb b hb;exact zbj hc h4 (by decide)
 have hFs:za4 F w (w3.setCell ⟨g,1,none⟩ v'):=⟨by omega,fun b hb hf=>by rw [hk4 b (hFg b hf),hk.block b hb (fun e=>(h7 b e).1 hf)]⟩
 have hob : ∀ b, osl.ownBlock = some b → b ≠ g ∧ sl'.ownBlock ≠ some b ∧ b < w.heap.size := fun b hb => by
   obtain ⟨ds,hc⟩:=zaT h.own hb
   exact ⟨zbj hc h4 (by decide),fun e=>by obtain ⟨es,hd⟩:=zaT h5 e;exact zbj hc hd (by decide) rfl,(h.own.lt b hb).2⟩
 refine ⟨⟨g::t,osl,by rw [hk4 p hpg,hk.block p h.lt hps];exact h.blk,h.base,h.gp,zby h.own fun b hb=>?_,h.go,?_,fun b hb=>?_,fun b hb=>by have:=h.gb b hb;omega,?_,h.row,h.small,h.deep⟩,⟨by omega,fun b hb hG=>?_⟩,hFs,fun _ h=>h⟩
 · rw [hk4 b (hob b hb).1,hk.block b (hob b hb).2.2 (hob b hb).2.1]
 · refine ⟨g, t, v', cs ++ pvC x sx, rfl, h2, h3, heap_setCell_same w3 g 1 _ _ _ hg3, ?_, ?_, fun b hb => ?_, ?_⟩
   · show World.ownsRow _ _ _ _ _ (v.l++[x]).length _
     rw [List.length_append]
     exact zby hO fun b hb=>hk4 b (hvg b hb)
   · exact (IsVs.keep hFs (fun _ h=>h) _ h6).snoc (IsV.keep hFs (fun _ h=>h) _ hx)
   · rcases hN b hb with e|e
     · exact h7 b e
     · exact ⟨fun hf=>by have:=h.Flt hf;omega,fun hG=>by have:=(h.gb b hG).2;omega⟩
   · refine h8.keep' hFs (fun _ h => h) (fun b hb hn hl => ?_) (fun b hb => .inl hb) (fun b hb => ?_)
     · rw [hk4 b (fun e=>hn (.inr (.inl e))),hk.block b hb (fun e=>hn (.inr (.inr e)))]
     · rcases hb with hb|hb|hb
       · exact .inl (.inl hb)
       · exact .inl (.inr (.inl hb))
       · rcases hN b hb with e|e
         · exact .inl (.inr (.inr e))
         · exact .inr e
 · obtain ⟨k1,k2,ds,k3⟩:=h.fb b hb
   exact ⟨k1,k2,ds,by rw [hFs.2 b (h.Flt hb) hb];exact k3⟩
 · have h9:=h.bel.size
   refine h.bel.trans (Below.setCell (w:=w3) (a:=w) (p:=⟨g,1,none⟩) ⟨hk.os,hk.tape,hk.output,hsz,fun b hb=>hk.block b (by omega) (fun e=>by have:=(h5.lt b e).1;omega)⟩ h2 _)
 · rw [hk4 b (fun e=>h3 (e▸hG)),hk.block b hb (fun e=>(h7 b e).2 hG)]
end
end Go.Proofs.YtkhcjoomijkfbaaGreatDoor
namespace Go.Proofs.YtkhcjoomijkfbaaGreatDoor
open Go.RowKit
theorem ELvp:ElemT Tryz.prog 159 165 (.pointer none) 1 8:=⟨Tryz.underlying159,by kernel_rfl,rfl,by omega⟩
section
variable {w0 w w' : World} {F F' G : Nat → Prop} {p : Nat} {a : Option Addr} {cap : Nat} {bs : List UInt8} {last : Bool} {st : List Lv} {at_ : Int} {gs : List Nat} {osl : Value}
theorem Nxt.refl (h:zav w0 w F G p a cap bs last st at_ gs osl) (hb:Below w.heap.size w w'):Nxt w0 w F G p a cap bs last st at_ F w' :=
 ⟨⟨_,_,h.mono hb⟩,za4.of_below hb,za4.of_below hb,fun _ h=>h⟩
theorem row_newP (w:World) (x:Value) (e:TypeId) {b:Nat} (h:b=w.heap.size):Row (w.alloc (.cells #[x] e)) 1 (some ⟨b,0,none⟩) 1 1 [x]:=by subst h;exact zbo w x e
theorem owns_some {w:World} {base e sz:Nat} {v:Value} {n:Nat} {xs:List Value} (h:w.ownsRow base e sz v (n+1) xs) (_:0<sz):∃g cap,v=.slice (some ⟨g,0,none⟩) (n+1) cap:=by
 rcases h.2 with ⟨-,h0⟩|⟨g,cap,cur,rfl,-⟩
 · cases h0
 · exact ⟨g,cap,rfl⟩
theorem zav.keepP (h:zav w0 w F G p a cap bs last st at_ gs osl) {W1 w2:World} (hb:Below w.heap.size w W1) (hg:W1.grownBy w2 osl.ownBlock) :
   w2.heap[p]?=some (.cells #[.slice a bs.length cap,.int .i64 at_,.bool last,osl] 161 (0,0)) :=
 (hg.block p (Nat.lt_of_lt_of_le h.lt hb.size) (fun e=>h.ownp e.symm rfl)).trans (zab hb h.blk)
theorem begin_any (h:zav w0 w F G p a cap bs last st at_ gs osl) (d:Bool):Calls Tryz.prog 131 #[.pointer (some ⟨p,0,none⟩),.bool d] w fun e w' =>
   e=.returned (.int .i64 (zcb st d).2)∧Nxt w0 w F G p a cap bs last (zcb st d).1 at_ F w':=by
 obtain ⟨R,hR⟩:∃R,R=zcb st d:=⟨_,rfl⟩
 rw [←hR]
 unfold zcb at hR
 have HR:=Lib.hid hR
 have HTOP:=Lib.hid (zgF h)
 have HTP:=Lib.hid (fun q=>(h.drewN q).top)
 have HS:=Lib.hid h
 have hdp:=h.deep
 clear h hR
 go_enter Tryz.func131,Tryz.ntmps131
 go_wp2_with fail
 refine HTOP.out.mono ?_
 rintro e w1 ⟨rfl,q,rfl⟩
 have HS1:=Lib.hid (HS.out.drewN q)
 go_upto_region 2 with fail
 go_cut [13] from 6 (fun v13 wx=>v13=.bool (topW st)∧w.drewN q=wx)
 case first =>
   rcases HTP.out q with ⟨rfl,rfl⟩|⟨v,st',g,t',sa,sc,rfl,rfl,h1,h2,h3⟩
   · unfold topP
     go_wp2
     go_meet
     exact ⟨rfl,rfl⟩
   · have HWT := Lib.hid (ze2 h3 (by omega))
     have HTW:=Lib.hid (show topW (v::st')=(v.dict&&v.l.length % 2==0) from rfl)
     unfold topP
     generalize (v.dict&&v.l.length % 2==0)=tw at *
     clear h1 h2 h3
     go_wp2_with (go_at_call 162;refine HWT.out.mono ?_;rintro e w' ⟨rfl,rfl⟩)
     go_meet
     exact ⟨by rw [HTW.out],rfl⟩
 case rest =>
   obtain ⟨rfl,rfl⟩:=hcut
   obtain ⟨tw,htw⟩:∃tw,tw=topW st:=⟨_,rfl⟩
   rw [←htw]
   have HTW:=Lib.hid htw
   clear htw
   cases tw with
   | true =>
     have hr2:=HR.out
     rw [if_pos HTW.out.symm] at hr2
     have HR2:=Lib.hid hr2
     clear hr2 HR
     go_wp2
     go_ret
     rw [HR2.out]
     exact ⟨rfl,Nxt.refl HS.out (zag (Below.refl _ _) q)⟩
   | false =>
     have hr2:=HR.out
     rw [if_neg (by rw [←HTW.out];decide)] at hr2
     have HRX:=Lib.hid hr2
     obtain ⟨ao,oc,rfl,hro1,hro2⟩:=zbi HS1.out.own
     obtain ⟨⟨c0,c1,c2,c3⟩,f0,f1,f2,f3⟩:=HS1.out.cells
     clear hr2 HR
     by_cases h64:64≤st.length
     · have hd:decide (64≤st.length)=true:=decide_eq_true h64
       have hd2:decide ((64:Int)≤(st.length:Int))=true:=decide_eq_true (by omega)
       have hr2:=HRX.out
       rw [if_pos h64] at hr2
       have HR2:=Lib.hid hr2
       clear hr2 h64
       go_wp2
       go_ret
       rw [HR2.out]
       exact ⟨rfl,Nxt.refl HS.out (zag (Below.refl _ _) q)⟩
     · have hd:decide (64≤st.length)=false:=decide_eq_false h64
       have hd2:decide ((64:Int)≤(st.length:Int))=false:=decide_eq_false (by omega)
       have hr2:=HRX.out
       rw [if_neg h64] at hr2
       have HR2:=Lib.hid hr2
       have hsl:st.length<64:=by omega
       clear hr2 h64
       go_wp2_with (at_builtin;refine zeS ELvp rfl _ _ rfl w0.heap.size _ st.length (ptrs gs) rfl (zbr HS1.out.own (zcn _ _ _)) _ 1 1 [.pointer (some ⟨w.heap.size,0,none⟩)] rfl (row_newP _ _ _ (by rw [zas];rfl)) (zbH rfl) (by unfold maxLen;omega) (by omega) (by rw [zas,zas];have:=HS1.out.bel.size;omega) ?_;intro v2 w2 hO hg hN;obtain ⟨g2,oc2,rfl⟩:=owns_some hO (by omega);obtain ⟨⟨k0,k1,k2,k3⟩,l0,l1,l2,l3⟩:=zae (HS1.out.keepP (zcn _ _ _) hg))
       go_ret
       rw [HR2.out]
       have hN:=HS1.out.push d hsl _ hO hg hN
       exact ⟨rfl,hN.stk,hN.sg,hN.sf,hN.ff⟩
end
end Go.Proofs.YtkhcjoomijkfbaaGreatDoor
namespace Go.Proofs.YtkhcjoomijkfbaaGreatDoor
open Go.RowKit
def cmpS (a b:List UInt8):Int:=if sLt a b=true then -1 else if sLt b a=true then 1 else 0
theorem isNaNS_any (a : ByteArray) (w : World) : Calls Tryz.prog 223 #[.string a] w fun e w' => e = .returned (.bool false) ∧ w = w' := by
 go_enter Tryz.func223,Tryz.ntmps223
 go_wp2
 go_ret
 exact ⟨zbm (by simp),rfl⟩
theorem cmpS_any (a b : List UInt8) (w : World) : Calls Tryz.prog 198 #[.string (mkB a), .string (mkB b)] w fun e w' => e = .returned (.int .i64 (cmpS a b)) ∧ w = w' := by
 have hl:Op.bytesLess (mkB a).toList (mkB b).toList=sLt a b:=by rw [zaM,zaM,zdy]
 have hg : ¬ sLt a b = true → (Op.bytesLess (mkB a).toList (mkB b).toList || (mkB a).toList == (mkB b).toList) = !sLt b a := fun h => by
   rw [zaM,zaM,zdy]
   have h':sLt a b=false:=by simpa using h
   rw [h',Bool.false_or]
   by_cases e:a=b
   · subst e;simp [sLt_ir]
   · rw [zcJ a b h' e];simp [e]
 have HN:=Lib.hid (fun (a:ByteArray) (w:World)=>isNaNS_any a w)
 unfold cmpS
 by_cases h1:sLt a b=true
 · rw [if_pos h1]
   rw [h1] at hl
   clear hg h1
   generalize mkB a=x at *
   generalize mkB b=y at *
   go_enter Tryz.func198,Tryz.ntmps198
   go_wp2_with (go_at_call 223;refine (HN.out _ _).mono ?_;rintro e w' ⟨rfl,rfl⟩)
   go_ret
   exact ⟨rfl,rfl⟩
 · rw [if_neg h1]
   have hg:=hg h1
   rw [show sLt a b=false by simpa using h1] at hl
   by_cases h2:sLt b a=true
   · rw [if_pos h2]
     rw [h2,hl,Bool.false_or] at hg
     clear h1 h2
     generalize mkB a=x at *
     generalize mkB b=y at *
     simp only [Bool.not_true] at hg
     go_enter Tryz.func198,Tryz.ntmps198
     go_wp2_with (go_at_call 223;refine (HN.out _ _).mono ?_;rintro e w' ⟨rfl,rfl⟩)
     go_ret
     exact ⟨rfl,rfl⟩
   · rw [if_neg h2]
     rw [show sLt b a=false by simpa using h2,hl,Bool.false_or] at hg
     clear h1 h2
     generalize mkB a=x at *
     generalize mkB b=y at *
     simp only [Bool.not_false] at hg
     go_enter Tryz.func198,Tryz.ntmps198
     go_wp2_with (go_at_call 223;refine (HN.out _ _).mono ?_;rintro e w' ⟨rfl,rfl⟩)
     go_ret
     exact ⟨rfl,rfl⟩
theorem cmpPair_any {w:World} {b o1 o2 n1 n2 c1 c2:Nat} {x y:List UInt8} (h1:w.cell? ⟨b,o1+2,none⟩=some (.string (mkB x))) (h2:w.cell? ⟨b,o2+2,none⟩=some (.string (mkB y))) (g1:0<n1) (g2:0<n2) :
   Calls Tryz.prog 197 #[.slice (some ⟨b,o1,none⟩) n1 c1,.slice (some ⟨b,o2,none⟩) n2 c2] w fun e w'=>e=.returned (.int .i64 (cmpS x y))∧∃q,w'=w.drewN q:=by
 have HC:=Lib.hid (fun W=>cmpS_any x y W)
 generalize cmpS x y=c at *
 generalize mkB x=x' at *
 generalize mkB y=y' at *
 have i1:(0:Int)<(n1:Int):=by omega
 have i2:(0:Int)<(n2:Int):=by omega
 go_enter Tryz.func197,Tryz.ntmps197
 go_wp2
 go_quiet ((go_at_call 198;exact Calls.quiet_of ((HC.out _).mono fun _ _ h=>⟨h.1,0,h.2.symm⟩)))
 go_wp2
 go_ret
 exact ⟨rfl,_,rfl⟩
end Go.Proofs.YtkhcjoomijkfbaaGreatDoor
namespace Go.Proofs.YtkhcjoomijkfbaaGreatDoor
open Go.RowKit Go.Sort
structure SB {α:Type} (enc:α→Value) (w0:World) (g:Nat) (t:TypeId) (rest:List Value) (d:Array α) (w:World):Prop where
 grown:w0.grownBy w (some g)
 blk:w.heap[g]?=some (.cells (d.toList.map enc++rest).toArray t (0,0))
section
variable {α : Type} {enc : α → Value} {w0 w : World} {g : Nat} {t : TypeId} {rest : List Value} {d : Array α}
theorem SB.cell [Inhabited α] (h:SB enc w0 g t rest d w) (i:Nat) (hi:i<d.size):w.cell? ⟨g,i,none⟩=some (enc d[i]!):=by
 rw [cell_of_row w g i _ t (0,0) h.blk]
 simp [List.getElem?_append,hi]
theorem SB.free (h:SB enc w0 g t rest d w) (i:Nat):w.frozen? ⟨g,i,none⟩=false:=frozen_of_row w g i _ t h.blk
theorem SB.drewN (h:SB enc w0 g t rest d w) (n:Nat):SB enc w0 g t rest d (w.drewN n):=⟨⟨h.grown.os,h.grown.tape,h.grown.output,h.grown.size,h.grown.block⟩,h.blk⟩
theorem zeJ {w0 w:World} {g i:Nat} (h:w0.grownBy w (some g)) (v:Value):w0.grownBy (w.setCell ⟨g,i,none⟩ v) (some g) :=
 ⟨h.os,h.tape,h.output,by simp [World.setCell];exact h.size,fun k hk hne=>by rw [heap_setCell_other w ⟨g,i,none⟩ k v (fun e=>hne (by simp [e]))];exact h.block k hk hne⟩
theorem zei (w:World) (row:Option Nat):w.grownBy w row:=⟨rfl,rfl,rfl,Nat.le_refl _,fun _ _ _=>rfl⟩
theorem zgd {w0 w:World} {row:Option Nat} (h:w0.grownBy w row) (n:Nat):w0.grownBy (w.drewN n) row:=⟨h.os,h.tape,h.output,h.size,h.block⟩
theorem SB.set (h:SB enc w0 g t rest d w) (i:Nat) (hi:i<d.size) (x:α):SB enc w0 g t rest (d.setIfInBounds i x) (w.setCell ⟨g,i,none⟩ (enc x)):=by
 refine ⟨zeJ h.grown _,?_⟩
 rw [heap_setCell_same w g i _ t _ h.blk,List.setIfInBounds_toArray,List.set_append]
 simp [hi,List.map_set]
theorem SB.swp [Inhabited α] (h:SB enc w0 g t rest d w) (i j:Nat) (hi:i<d.size) (hj:j<d.size) (q:Nat) :
   SB enc w0 g t rest (swp d i j) (((w.drewN q).setCell ⟨g,i,none⟩ (enc d[j]!)).setCell ⟨g,j,none⟩ (enc d[i]!)) :=
 ((h.drewN q).set i hi _).set j (by simpa using hj) _
theorem SB.row (h:SB enc w0 g t rest d w) {cap:Nat} (h1:d.size≤cap) (h2:cap≤maxLen):Row w 1 (some ⟨g,0,none⟩) d.size cap (d.toList.map enc):=by
 refine ⟨by simp,h1,h2,fun e=>(by cases e),fun _=>⟨g,0,rfl,(Array.getElem?_eq_some_iff.1 h.blk).1,fun j u hj=>?_⟩⟩
 rw [Nat.zero_add,cell_of_row w g j _ t (0,0) h.blk]
 have hjl:=(List.getElem?_eq_some_iff.1 hj).1
 rw [List.getElem?_toArray,List.getElem?_append_left hjl];exact hj
theorem SB.start {cs:Array Value} {n:Nat} (hb:w.heap[g]?=some (.cells cs t (0,0))) (hx:cs.toList.take n=d.toList.map enc):SB enc w g t (cs.toList.drop n) d w :=
 ⟨⟨rfl,rfl,rfl,Nat.le_refl _,fun _ _ _=>rfl⟩,by rw [←hx,List.take_append_drop];exact hb⟩
end
structure CmpQ {α:Type} (P:Program) (f:FuncId) (cb:Array Value) (enc:α→Value) (cf:α→α→Int) (D:α→Prop) (w0:World) (g:Nat):Prop where
 enters:∀args w,(callFunc f args).run P w=.ok (.enter f args) w
 calls:∀W,w0.grownBy W (some g)→∀x y,D x→D y→Calls P f (#[enc x,enc y]++cb) W fun e w'=>e=.returned (.int .i64 (cf x y))∧∃q,w'=W.drewN q
def ltOf {α:Type} (cf:α→α→Int) (x y:α):Bool:=decide (cf x y<0)
section
variable {α : Type} [Inhabited α] (lt : α → α → Bool)
theorem inner_go (a j:Nat) (d:Array α) (hj:a<j) (hl:lt d[j]! d[j-1]! = true):insInner lt a j d=insInner lt a (j-1) (swp d j (j-1)):=by
 rcases j with _|k
 · omega
 · have h1 : (decide (k + 1 > a) && lt d[k + 1]! d[k]!) = true := by simp only [Nat.add_sub_cancel] at hl; simp [hl, hj]
   rw [insInner,if_pos h1];rfl
theorem zfV (a j:Nat) (d:Array α) (h:j≤a∨lt d[j]! d[j-1]! = false):insInner lt a j d=d:=by
 rcases j with _|k
 · rfl
 · rw [insInner,if_neg]
   simp only [Nat.add_sub_cancel] at h
   rcases h with h|h
   · simp;omega
   · simp [h]
theorem zeu (a b i:Nat) (d:Array α) (h:i<b):insOuter lt a b i d=insOuter lt a b (i+1) (insInner lt a i d):=by rw [insOuter,if_pos h]
theorem zcB (a b i:Nat) (d:Array α) (h:¬i<b):insOuter lt a b i d=d:=by rw [insOuter,if_neg h]
end
end Go.Proofs.YtkhcjoomijkfbaaGreatDoor
namespace Go.Proofs.YtkhcjoomijkfbaaGreatDoor
open Go.RowKit Go.Shelf
attribute [local go_sem] Oper.semAt_some
def zce (b off:Nat) (k:Nat):Value:=.slice (some ⟨b,off+2 * k * 4,none⟩) 2 2
theorem staysK_t {S:Nat→Prop} {A B C:World} (h:za4 S A B) (k:za4 S B C):za4 S A C:=h.trans k
theorem staysK_b {S:Nat→Prop} {w:World} (hS:∀b,S b→b<w.heap.size) (W:World) (l:Nat) (o o':Obj) (hl:w.heap.size≤l) (_:W.heap[l]?=some o) (_:o.isCells=false) (_:o.isWalk=false):za4 S W (W.putObj l o') :=
 ⟨by simp,fun b _ hb=>World.putObj_heap_other (fun e=>by have:=hS b hb;omega)⟩
theorem chunk_in (_:Fence.wide.fn 195) (n:Nat) (a:Option Addr) (len cap:Nat) (w:World) :
   CallsIn Fence.wide n Tryz.prog 195 #[.slice a len cap, .int .i64 2] w fun e w' => e = .returned (.func (.func 221) #[] #[.pointer (some ⟨w.heap.size, 0, none⟩), .pointer (some ⟨w.heap.size + 1, 0, none⟩)]) ∧
     w'=(w.alloc (.cells #[.slice a len cap] 46)).alloc (.cells #[.int .i64 2] 3):=by
 refine callsIn_wide.2 ?_
 go_enter Tryz.func195,Tryz.ntmps195
 go_wp2
 go_ret
 exact ⟨rfl,rfl⟩
set_option maxRecDepth 100000 in
theorem chunk1_in (n:Nat) (hro:Fence.wide.round=none) (hn:1≤n) (l Bs Bn b off m cap:Nat) (hcap:2 * m≤cap) (hcm:cap≤maxLen) (J Jx:List Nat→World→Prop) (hJd:∀s W q,J s W→J s (W.drewN q))
   (hY:∀pre x W,J pre W→pre.length<m→YieldAt Fence.wide (n-1) Tryz.prog l #[zce b off x] W fun e W' =>
     (e=.returned (.bool true)∧J (pre++[x]) W'∧za4 (fun c=>c=Bs∨c=Bn) W W')∨(e=.returned (.bool false)∧Jx (pre++[x]) W'))
   (W:World) (hBs:W.cell? ⟨Bs,0,none⟩=some (.slice (some ⟨b,off,none⟩) (2 * m) cap)) (hBn:W.cell? ⟨Bn,0,none⟩=some (.int .i64 2)) (h0:J [] W) :
   CallsIn Fence.wide n Tryz.prog 221 #[.func (.yield l) #[] #[], .pointer (some ⟨Bs, 0, none⟩), .pointer (some ⟨Bn, 0, none⟩)] W fun e W' => (∃ v, e = .returned v) ∧
     ((∃ys,ys=List.range m∧J ys W')∨(∃pre,(∃k,k≤m∧pre=List.range k)∧Jx pre W')):=by
 unfold maxLen at hcm
 refine callsIn_of_wp Tryz.func221 rfl trivial ?_ hro
 simp only [Tryz.ntmps221,List.size_toArray,List.length_cons,List.length_nil,Nat.reduceAdd,Nat.reduceSub,Array.replicate_succ,Array.replicate_zero,List.push_toArray,List.append_toArray,List.nil_append,List.cons_append]
 gi_wp2
 gi_loopw [4] (fun i wr => ∃ k : Nat, k ≤ m ∧ i = .int .i64 (2 * (k : Int)) ∧ J (List.range k) wr ∧ za4 (fun c => c = Bs ∨ c = Bn) W wr)
   (fun i _=>2 * m-(intOf i).toNat)
 case atStart=>exact ⟨0,Nat.zero_le _,rfl,h0,za4.refl _ _⟩
 case round =>
   obtain ⟨k,hk,rfl,hJs,hnx⟩:=hrel
   have e1:wr.cell? ⟨Bs,0,none⟩=some (.slice (some ⟨b,off,none⟩) (2 * m) cap):=(World.cell?_of_block (hnx.2 Bs (World.block_lt_of_cell? W _ hBs) (.inl rfl))).trans hBs
   have e2:wr.cell? ⟨Bn,0,none⟩=some (.int .i64 2):=(World.cell?_of_block (hnx.2 Bn (World.block_lt_of_cell? W _ hBn) (.inr rfl))).trans hBn
   by_cases hlt:k<m
   · have d1 : decide (2 * (k : Int) < ((2 * m : Nat) : Int)) = true := decide_eq_true (by omega)
     have HJ:=Lib.hid hJs
     have HY:=Lib.hid hY
     have HJD:=Lib.hid hJd
     clear hJs hY hJd
     gi_wp2
     refine wpIn_wide.2 ?_
     have i1:(0:Int)≤2 * (k:Int):=by omega
     have i2:(2 * (k:Int)).toNat=2 * k:=by omega
     have i3:(2 * (k:Int))≤(cap:Int):=by omega
     have i4:2 * k≤2 * m:=by omega
     go_quiet (fail)
     obtain ⟨fn,tmps,assign,body,hy,hR⟩:=HY.out _ k (wr.drewN nq) (HJD.out _ _ nq HJ.out) (by simpa using hlt)
     unfold zce at hy
     have i5:2 * (k:Int)+2≤(cap:Int):=by omega
     have i6:(2 * (k:Int)+2).toNat=2 * k+2:=by omega
     have i7:(0:Int)≤2 * (k:Int)+2:=by omega
     have i8:2 * (k:Int)≤2 * (k:Int)+2:=by omega
     gi_wp2
     refine hR.mono ?_
     rintro e W3 (⟨rfl,hJ3,hk3⟩|⟨rfl,hJx3⟩)
     · have g1:W3.cell? ⟨Bs,0,none⟩=some (.slice (some ⟨b,off,none⟩) (2 * m) cap):=(World.cell?_of_block (hk3.2 Bs (World.block_lt_of_cell? (wr.drewN nq) _ e1) (.inl rfl))).trans e1
       have g2:W3.cell? ⟨Bn,0,none⟩=some (.int .i64 2):=(World.cell?_of_block (hk3.2 Bn (World.block_lt_of_cell? (wr.drewN nq) _ e2) (.inr rfl))).trans e2
       have HJ3:=Lib.hid hJ3
       have HK3:=Lib.hid (hnx.trans (show za4 (fun c=>c=Bs∨c=Bn) wr W3 from hk3))
       clear hJ3 hk3
       gi_wp2
       go_roundw
       case rel=>exact ⟨k+1,by omega,by congr 1,by rw [List.range_succ];exact HJ3.out,HK3.out⟩
       case measure=>simp [intOf];omega
     · gi_wp2
       refine bodyPost_ret (results_none rfl _ _ _) rfl ?_
       exact ⟨⟨_,rfl⟩,.inr ⟨_,⟨k+1,by omega,by rw [List.range_succ]⟩,hJx3⟩⟩
   · obtain rfl : k = m := by omega
     have d1:decide (2 * (k:Int)<((2 * k:Nat):Int))=false:=decide_eq_false (by omega)
     gi_wp2
     go_end0
     exact ⟨⟨_,rfl⟩,.inl ⟨_,rfl,hJs⟩⟩
theorem chunk0_in (n:Nat) (hro:Fence.wide.round=none) (l Bs Bn:Nat) (a:Option Addr) (cap:Nat) (J:List Nat→World→Prop) (W:World) (hBs:W.cell? ⟨Bs,0,none⟩=some (.slice a 0 cap)) (h0:J [] W) :
   CallsIn Fence.wide n Tryz.prog 221 #[.func (.yield l) #[] #[],.pointer (some ⟨Bs,0,none⟩),.pointer (some ⟨Bn,0,none⟩)] W fun e W'=>(∃v,e=.returned v)∧J [] W':=by
 refine callsIn_of_wp Tryz.func221 rfl trivial ?_ hro
 simp only [Tryz.ntmps221,List.size_toArray,List.length_cons,List.length_nil,Nat.reduceAdd,Nat.reduceSub,Array.replicate_succ,Array.replicate_zero,List.push_toArray,List.append_toArray,List.nil_append,List.cons_append]
 gi_wp2
 gi_loopw [4] (fun i wr=>i=.int .i64 0∧wr.cell? ⟨Bs,0,none⟩=some (.slice a 0 cap)∧J [] wr) (fun _ _=>0)
 case atStart=>exact ⟨rfl,hBs,h0⟩
 case round =>
   obtain ⟨rfl,hb,hJs⟩:=hrel
   gi_wp2
   go_end0
   exact ⟨⟨_,rfl⟩,hJs⟩
theorem chunk_stops (n:Nat) (hro:Fence.wide.round=none) (hn:1≤n) (Bs Bn b off m cap:Nat) (a:Option Addr) (ha:0<m→a=some ⟨b,off,none⟩) (hcap:2 * m≤cap) (hcm:cap≤maxLen) (w:World) (hBs:Bs<w.heap.size) (hBn:Bn<w.heap.size)
   (h1:w.cell? ⟨Bs,0,none⟩=some (.slice a (2 * m) cap)) (h2:w.cell? ⟨Bn,0,none⟩=some (.int .i64 2)) :
   SeqStopsK Fence.wide n Tryz.prog 221 #[.pointer (some ⟨Bs,0,none⟩),.pointer (some ⟨Bn,0,none⟩)] (fun x:Nat=>#[zce b off x]) (za4 (fun c=>c=Bs∨c=Bn)) (fun ys=>ys=List.range m) (fun pre=>∃k,k≤m∧pre=List.range k) m w:=by
 intro l J Jx W hW hJ _ hY h0
 have e1:=(hW.cell (p:=⟨Bs,0,none⟩) hBs).trans h1
 have e2:=(hW.cell (p:=⟨Bn,0,none⟩) hBn).trans h2
 rcases Nat.eq_zero_or_pos m with rfl|hm
 · exact (chunk0_in n hro l Bs Bn a cap J W e1 h0).mono fun e W' ⟨he,hj⟩=>⟨he,.inl ⟨_,rfl,hj⟩⟩
 · rw [ha hm] at e1
   exact chunk1_in n hro hn l Bs Bn b off m cap hcap hcm J Jx (fun s W1 q hs=>hJ s W1 (W1.drewN q) none hs (zgd (zei W1 none) q) (fun r e=>by cases e)) hY W e1 e2 h0
end Go.Proofs.YtkhcjoomijkfbaaGreatDoor
namespace Go.Proofs.YtkhcjoomijkfbaaGreatDoor
open Go.Sort
def ltI (p:List (PV×PV)) (i j:Nat):Bool:=sLt p[i]!.1.s p[j]!.1.s||(p[i]!.1.s==p[j]!.1.s&&decide (i<j))
def insI (p:List (PV×PV)) (k:Nat):List Nat→List Nat
 | []=>[k]
 | j::l=>if sLt p[j]!.1.s p[k]!.1.s then j::insI p k l else k::j::l
def zgi (p:List (PV×PV)):List Nat→List Nat
 | []=>[]
 | k::l=>insI p k (zgi p l)
theorem sLt_nt {a b c:List UInt8} (h1:sLt a b=false) (h2:sLt b c=false):sLt a c=false:=by
 cases h:sLt a c with
 | false=>rfl
 | true =>
   by_cases hab:a=b
   · subst hab;rw [h] at h2;cases h2
   · have:=sLt_tr b a c (zcJ a b h1 hab) h
     rw [this] at h2;cases h2
theorem zgA (p:List (PV×PV)):SWO (ltI p) where
 irrefl x:=by simp [ltI,sLt_ir]
 trans x y z h1 h2:=by
   unfold ltI at *
   simp only [Bool.or_eq_true,Bool.and_eq_true,beq_iff_eq,decide_eq_true_eq] at *
   generalize p[x]!.1.s=a at *
   generalize p[y]!.1.s=b at *
   generalize p[z]!.1.s=c at *
   rcases h1 with h1|⟨h1,h3⟩
   · rcases h2 with h2|⟨h2,h4⟩
     · exact .inl (sLt_tr _ _ _ h1 h2)
     · subst h2;exact .inl h1
   · subst h1
     rcases h2 with h2|⟨h2,h4⟩
     · exact .inl h2
     · exact .inr ⟨h2,by omega⟩
 ntrans x y z h1 h2:=by
   unfold ltI at *
   simp only [Bool.or_eq_false_iff,Bool.and_eq_false_iff,beq_eq_false_iff_ne,decide_eq_false_iff_not] at *
   generalize p[x]!.1.s=a at *
   generalize p[y]!.1.s=b at *
   generalize p[z]!.1.s=c at *
   refine ⟨sLt_nt h1.1 h2.1,?_⟩
   by_cases hac:a=c
   · subst hac
     right
     by_cases hab:a=b
     · subst hab
       have h3:=h1.2.resolve_left (fun h=>h rfl)
       have h4:=h2.2.resolve_left (fun h=>h rfl)
       omega
     · exact absurd (zcJ a b h1.1 hab) (by rw [h2.1];simp)
   · exact .inl hac
theorem ltI_anti (p:List (PV×PV)) (x y:Nat) (h1:ltI p x y=false) (h2:ltI p y x=false):x=y:=by
 unfold ltI at *
 simp only [Bool.or_eq_false_iff,Bool.and_eq_false_iff,beq_eq_false_iff_ne,decide_eq_false_iff_not] at *
 generalize p[x]!.1.s=a at *
 generalize p[y]!.1.s=b at *
 by_cases hab:a=b
 · subst hab
   have h3:=h1.2.resolve_left (fun h=>h rfl)
   have h4:=h2.2.resolve_left (fun h=>h rfl)
   omega
 · exact absurd (zcJ a b h1.1 hab) (by rw [h2.1];simp)
theorem zeG (p:List (PV×PV)) (k:Nat):∀l,(insI p k l).Perm (k::l)
 | []=>List.Perm.refl _
 | j :: l => by
   unfold insI
   split
   · exact ((zeG p k l).cons j).trans (List.Perm.swap k j l)
   · exact List.Perm.refl _
theorem zd3 (p:List (PV×PV)):∀l,(zgi p l).Perm l
 | []=>List.Perm.refl _
 | k::l=>(zeG p k (zgi p l)).trans ((zd3 p l).cons k)
theorem zfe (p : List (PV × PV)) (k : Nat) : ∀ l : List Nat, (∀ j ∈ l, k < j) → l.Pairwise (fun a b => ltI p b a = false) → (insI p k l).Pairwise (fun a b => ltI p b a = false)
 | [],_,_=>by simp [insI]
 | j :: l, hk, h => by
   have hs:=zgA p
   rw [List.pairwise_cons] at h
   unfold insI
   split
   · rename_i hj
     rw [List.pairwise_cons]
     refine ⟨fun x hx=>?_,zfe p k l (fun x hx=>hk x (List.mem_cons_of_mem _ hx)) h.2⟩
     rcases List.mem_cons.1 ((zeG p k l).mem_iff.1 hx) with rfl|hx
     · unfold ltI
       simp only [Bool.or_eq_false_iff,Bool.and_eq_false_iff,beq_eq_false_iff_ne]
       refine ⟨sLt_as _ _ hj,.inl fun e=>?_⟩
       rw [e,sLt_ir] at hj;cases hj
     · exact h.1 x hx
   · rename_i hj
     have hkj:ltI p j k=false:=by
       unfold ltI
       simp only [Bool.or_eq_false_iff,Bool.and_eq_false_iff,decide_eq_false_iff_not]
       have:=hk j List.mem_cons_self
       exact ⟨by simpa using hj,.inr (by omega)⟩
     rw [List.pairwise_cons,List.pairwise_cons]
     refine ⟨fun x hx=>?_,h⟩
     rcases List.mem_cons.1 hx with rfl|hx
     · exact hkj
     · exact hs.ntrans x j k (h.1 x hx) hkj
theorem zek (p : List (PV × PV)) : ∀ l : List Nat, l.Pairwise (· < ·) → (zgi p l).Pairwise (fun a b => ltI p b a = false)
 | [],_=>List.Pairwise.nil
 | k :: l, h => by
   rw [List.pairwise_cons] at h
   exact zfe p k _ (fun j hj=>h.1 j ((zd3 p l).mem_iff.1 hj)) (zek p l h.2)
theorem insI_map (p : List (PV × PV)) (k : Nat) : ∀ l : List Nat, (insI p k l).map (fun i => p[i]!) = insV p[k]! (l.map fun i => p[i]!)
 | []=>rfl
 | j :: l => by
   simp only [insI,List.map_cons,insV]
   split
   · rw [List.map_cons,insI_map p k l]
   · rfl
theorem sortI_map (p : List (PV × PV)) : ∀ l : List Nat, (zgi p l).map (fun i => p[i]!) = zdp (l.map fun i => p[i]!)
 | []=>rfl
 | k :: l => by
   simp only [zgi,List.map_cons,zdp]
   rw [insI_map,sortI_map p l]
theorem range_map (p : List (PV × PV)) : (List.range p.length).map (fun i => p[i]!) = p := by
 apply List.ext_getElem
 · simp
 · intro i h1 h2
   simp [h2]
theorem zcI {A:Array Nat} {n:Nat} (h:A.size=n):A.extract 0 n=A:=by subst h;simp
theorem sorted_is (p : List (PV × PV)) (R : Array Nat) (hP : PermIn 0 p.length (Array.range p.length) R) (hS : SortedIn (ltI p) 0 p.length R) : R.toList.map (fun i => p[i]!) = zdp p := by
 have hz:(Array.range p.length).size=p.length:=by simp
 have h1:=sorted_unique_holds (zgA p) (ltI_anti p) (Array.range p.length) R (by rw [hz];exact hP) (by rw [hz];exact hS)
 have hJp:=zd3 p (List.range p.length)
 have hJs:=zek p (List.range p.length) List.pairwise_lt_range
 have hJl:(zgi p (List.range p.length)).length=p.length:=by rw [hJp.length_eq];simp
 have h2:=sorted_unique_holds (zgA p) (ltI_anti p) (Array.range p.length) (zgi p (List.range p.length)).toArray
   (by
     rw [hz]
     refine ⟨by simp [hJl],fun i hi=>?_,?_⟩
     · rw [getElem!_neg _ _ (by simp [hJl];omega),getElem!_neg _ _ (by simp;omega)]
     · rw [zcI (by simpa using hJl), zcI hz]
       simpa using hJp)
   (by
     rw [hz]
     intro i j _ hij hj
     have:=List.pairwise_iff_getElem.1 hJs i j (by omega) (by omega) hij
     rw [getElem!_pos _ j (by simp [hJl];omega),getElem!_pos _ i (by simp [hJl];omega)]
     simpa using this)
 rw [h1,←h2]
 show ((zgi p (List.range p.length)).toArray.toList).map _=_
 rw [List.toList_toArray,sortI_map,range_map]
theorem zdg {n:Nat} {R:Array Nat} (hP:PermIn 0 n (Array.range n) R):R.size=n∧∀i,i<n→R[i]!<n:=by
 have hz:R.size=n:=by simpa using hP.1
 refine ⟨hz,fun i hi=>?_⟩
 have h:=hP.2.2
 rw [zcI hz,zcI (by simp)] at h
 have hm:R[i]! ∈ R.toList:=by rw [getElem!_pos R i (by omega)];simp
 have:=h.mem_iff.1 hm
 simpa using this
end Go.Proofs.YtkhcjoomijkfbaaGreatDoor
namespace Go.Proofs.YtkhcjoomijkfbaaGreatDoor
open Go.RowKit
theorem twoV_len:∀(m:Nat) (l:List PV),l.length=2 * m→(twoV l).length=m
 | 0, l, h => by
   have:l=[]:=List.eq_nil_of_length_eq_zero (by omega)
   subst this;rfl
 | m+1,a::b::l,h=>by simp only [twoV,List.length_cons];rw [twoV_len m l (by simp at h;omega)]
 | m+1,[a],h=>by simp at h;omega
 | m+1,[],h=>by simp at h
theorem twoV_at:∀(m:Nat) (l:List PV),l.length=2 * m→∀k,k<m→∃x y,l[2 * k]?=some x∧l[2 * k+1]?=some y∧(twoV l)[k]! = (x,y)
 | 0,_,_,k,hk=>by omega
 | m+1,a::b::l,h,0,_=>⟨a,b,rfl,rfl,rfl⟩
 | m + 1, a :: b :: l, h, k + 1, hk => by
   obtain ⟨x,y,h1,h2,h3⟩:=twoV_at m l (by simp at h;omega) k (by omega)
   refine ⟨x,y,?_,?_,?_⟩
   · rw [show 2 * (k+1)=2 * k+1+1 by omega];simpa using h1
   · rw [show 2 * (k+1)+1=2 * k+1+1+1 by omega];simpa using h2
   · simp only [twoV]
     rw [←h3];simp
 | m+1,[a],h,_,_=>by simp at h;omega
 | m+1,[],h,_,_=>by simp at h
theorem zeW:∀L:List (PV×PV),zb0 L=true↔∃i,i+1<L.length∧L[i]!.1.s=L[i+1]!.1.s
 | []=>by simp [zb0]
 | [x]=>by simp [zb0]
 | x :: y :: l => by
   simp only [zb0,Bool.or_eq_true,beq_iff_eq]
   rw [zeW (y::l)]
   constructor
   · rintro (h|⟨i,h1,h2⟩)
     · exact ⟨0,by simp,by simpa using h⟩
     · exact ⟨i+1,by simp at h1 ⊢;omega,by simpa using h2⟩
   · rintro ⟨i,h1,h2⟩
     rcases i with _|i
     · left;simpa using h2
     · right;exact ⟨i,by simp at h1 ⊢;omega,by simpa using h2⟩
theorem flatV_len:∀a:List (PV×PV),(zaQ a).length=2 * a.length
 | []=>rfl
 | (x,y)::a=>by simp only [zaQ,List.length_cons];rw [flatV_len a];omega
def zep (cs:List Value) (k:Nat):List Value:=(cs.drop (k * 8)).take 8
theorem IsVs.drop {w:World} {F:Nat→Prop}:∀(k:Nat) {l:List PV} {cs:List Value},IsVs w F l cs→IsVs w F (l.drop k) (cs.drop (k * 4))
 | 0,_,_,h=>by simpa using h
 | k+1,[],_,h=>by cases h;simp [IsVs]
 | k + 1, v :: l, _, ⟨sl, t, h, hv, ht⟩ => by
   subst h
   have:=ht.drop k
   rw [show (k+1) * 4=k * 4+4 by omega]
   simpa [pvC] using this
theorem IsVs.part {w:World} {F:Nat→Prop} {l:List PV} {cs:List Value} (h:IsVs w F l cs) {k:Nat} {x y:PV} (h1:l[2 * k]?=some x) (h2:l[2 * k+1]?=some y):IsVs w F [x,y] (zep cs k):=by
 have hd:=h.drop (2 * k)
 obtain ⟨g1,e1⟩:=List.getElem?_eq_some_iff.1 h1
 obtain ⟨g2,e2⟩:=List.getElem?_eq_some_iff.1 h2
 rw [List.drop_eq_getElem_cons g1,List.drop_eq_getElem_cons g2,e1,e2] at hd
 obtain ⟨s1,t1,q1,v1,s2,t2,q2,v2,-⟩:=hd
 unfold zep
 rw [show k * 8=2 * k * 4 by omega,q1,q2]
 exact ⟨s1,pvC y s2,by simp [pvC],v1,s2,[],by simp,v2,rfl⟩
theorem parts_all {w : World} {F : Nat → Prop} {l : List PV} {cs : List Value} {m : Nat} (hm : l.length = 2 * m) (h : IsVs w F l cs) : ∀ qs : List Nat, (∀ k ∈ qs, k < m) → IsVs w F (zaQ (qs.map fun k => (twoV l)[k]!)) (qs.flatMap (zep cs))
 | [],_=>rfl
 | k :: qs, hq => by
   obtain ⟨x,y,h1,h2,h3⟩:=twoV_at m l hm k (hq k List.mem_cons_self)
   have:=parts_all hm h qs fun j hj=>hq j (List.mem_cons_of_mem _ hj)
   simp only [List.map_cons,List.flatMap_cons]
   rw [h3]
   exact (h.part h1 h2).append this
theorem EPV:ElemT Tryz.prog 46 48 (.agg #[.int .i64 0,.int .i64 0,.string ⟨#[]⟩,.slice none 0 0]) 4 56:=⟨Tryz.underlying46,by kernel_rfl,rfl,by omega⟩
theorem IsVs.one1 {w:World} {F:Nat→Prop}:∀ {l:List PV} {cs:List Value},IsVs w F l cs→∀u∈cs,u.oneCell'=true
 | [],_,h,u,hu=>by cases h;cases hu
 | v :: l, _, ⟨sl, t, h, hv, ht⟩, u, hu => by
   subst h
   obtain ⟨a,cap,rfl,-⟩:=hv.len
   simp only [pvC,List.cons_append,List.nil_append,List.mem_cons] at hu
   rcases hu with rfl|rfl|rfl|rfl|hu
   · rfl
   · rfl
   · rfl
   · rfl
   · exact ht.one1 u hu
theorem grow_any (k : Nat) (hk : k ≤ 1000000) (w : World) : Calls Tryz.prog 224 #[.slice none 0 0, .int .i64 k] w fun e w' => ∃ v, e = .returned v ∧ w'.ownsRow w.heap.size 48 4 v 0 [] ∧ Below w.heap.size w w' := by
 obtain ⟨i0,hi,hz,hs,hb⟩:=info_parts EPV.info
 rcases Nat.eq_zero_or_pos k with rfl|h0
 · clear hi hz hs hb
   go_enter Tryz.func224,Tryz.ntmps224
   go_wp2
   go_ret
   exact ⟨_,rfl,World.ownsRow_nil _ _ _ _,Below.refl _ _⟩
 · have hr := Lib.hid (Lib.run_append_nil_zeros (P := Tryz.prog) w 46 3 46 48 i0 _ .i64 .i64 Tryz.underlying46 Tryz.underlying3 hi hz k h0 (by omega) (by omega) (by rw [hb]; omega))
   have hg1:=grownCap_ge w k 0 48
   have hg2:=grownCap_le_maxLen w k 0 48 (by unfold maxLen;omega)
   generalize grownCap w k 0 48=C at *
   have h1:(0:Int)<(k:Int):=by omega
   clear hi hz hs hb h0
   go_enter Tryz.func224,Tryz.ntmps224
   go_wp2_with (at_builtin;refine Lib.wpList_append_run _ rfl _ _ _ _ rfl _ _ rfl rfl _ _ hr.out ?_)
   go_ret
   refine ⟨_,rfl,⟨rfl,.inr ⟨w.heap.size,C,_,rfl,Nat.le_refl _,zac _ rfl,Nat.zero_le _,hg2,?_,rfl⟩⟩,(Below.refl _ _).drew.alloc (Nat.le_refl _) _⟩
   rw [Array.size_append,size_zeroCells,size_zeroCells,←Nat.add_mul]
   show (k+(C-k)) * 4=C * 4
   rw [Nat.add_sub_cancel' hg1]
theorem part_row {w:World} {b off n c:Nat} {cs:List Value} (hr:Row w 4 (some ⟨b,off,none⟩) n c cs) {k:Nat} (hk:2 * k+2≤n):Row w 4 (some ⟨b,off+2 * k * 4,none⟩) 2 2 (zep cs k):=by
 obtain ⟨h1,h2,h3,-,h5⟩:=hr
 obtain ⟨b',off',e,hb,hc⟩:=h5 (by omega)
 cases e
 refine ⟨by unfold zep;simp;omega,Nat.le_refl _,by unfold maxLen;omega,fun h=>(by cases h),fun _=>⟨b,_,rfl,hb,fun j u hj=>?_⟩⟩
 unfold zep at hj
 rw [List.getElem?_take] at hj
 split at hj
 · rw [List.getElem?_drop] at hj
   have:=hc _ u hj
   rwa [show off+(k * 8+j)=off+2 * k * 4+j by omega] at this
 · cases hj
theorem concat_any {w:World} {a:Option Addr} {cap b off n c:Nat} {qs:List Nat} {cs:List Value} (ht:Row w 1 a qs.length cap (qs.map (zce b off))) (hr:Row w 4 (some ⟨b,off,none⟩) n c cs) (h1:∀u∈cs,u.oneCell'=true) (hq:∀k∈qs,2 * k+2≤n) (hm:qs.length≤400000) :
   Calls Tryz.prog 199 #[.slice a qs.length cap] w fun e w'=>∃v,e=.returned v∧w'.ownsRow w.heap.size 48 4 v (2 * qs.length) (qs.flatMap (zep cs))∧Below w.heap.size w w':=by
 have HT:=Lib.hid ht
 have HR:=Lib.hid hr
 have H1:=Lib.hid h1
 have HQ:=Lib.hid hq
 have HG:=Lib.hid (fun W=>grow_any (2 * qs.length) (by omega) W)
 obtain ⟨m,hmq⟩:∃m,m=qs.length:=⟨_,rfl⟩
 rw [←hmq] at hm HT HG ⊢
 have HM:=Lib.hid hmq
 clear ht hr h1 hq hmq
 go_enter Tryz.func199,Tryz.ntmps199
 go_wp2
 go_loop [3,11] (fun s i=>∃(k:Nat) (S:Int),k≤m∧i=.int .i64 k∧s=.int .i64 S∧0≤S∧S≤2 * (k:Int)∧Hid (S=2 * (k:Int))) (fun _ i=>m-(intOf i).toNat)
 case atStart=>exact ⟨0,0,Nat.zero_le _,rfl,rfl,by omega,by omega,rfl⟩
 case round =>
   obtain ⟨k,S,hk,rfl,rfl,hS0,hS1,HS⟩:=hrel
   by_cases hlt:k<m
   · obtain ⟨b1, o1, rfl, hb1, hc1⟩ := HT.out.2.2.2.2 (by omega)
     have hqk:qs[k]?=some (qs[k]'(by rw [←HM.out];exact hlt)):=List.getElem?_eq_getElem _
     have hck:=hc1 k _ (by rw [List.getElem?_map,hqk];rfl)
     unfold zce at hck
     generalize qs[k]'_=q at *
     clear hc1 hqk
     have i1:(k:Int)<(m:Int):=by omega
     have i2:(0:Int)≤(k:Int):=by omega
     have i3:S≤800000:=by omega
     have i5:decide (S+2<0)=false:=decide_eq_false (by omega)
     clear hS1
     go_wp2
     go_round
     case rel=>exact ⟨k+1,S+2,by omega,by go_num,rfl,by omega,by have:=HS.out;omega,by have:=HS.out;show S+2=_;omega⟩
     case measure=>simp [intOf];omega
   · obtain rfl : k = m := by omega
     obtain rfl:S=((2 * k:Nat):Int):=by have:=HS.out;omega
     clear hk HS hS0 hS1
     have hkd:decide (k<k)=false:=by simp
     clear hlt
     go_wp2_with (go_at_call 224;refine (HG.out _).mono ?_;rintro e w1 ⟨v1,rfl,hO1,hb1⟩)
     have HO1:=Lib.hid hO1
     have HB1:=Lib.hid hb1
     clear hO1 hb1 hkd HG
     go_loopw [6,27] (fun v i wr=>∃j:Nat,j≤k∧i=.int .i64 j∧Hid (wr.ownsRow w.heap.size 48 4 v (2 * j) ((qs.take j).flatMap (zep cs)))∧Hid (Below w.heap.size w wr)) (fun _ i _=>k-(intOf i).toNat)
     case atStart=>exact ⟨0,Nat.zero_le _,rfl,HO1,HB1⟩
     case round =>
       obtain ⟨j,hj,rfl,HO,HB⟩:=hrel
       by_cases hlt:j<k
       · obtain ⟨b1, o1, rfl, hb1, hc1⟩ := HT.out.2.2.2.2 (by omega)
         have hqk:qs[j]?=some (qs[j]'(by rw [←HM.out];exact hlt)):=List.getElem?_eq_getElem _
         have hck:=cell?_keep HB.out (hc1 j _ (by rw [List.getElem?_map,hqk];rfl))
         have hqm:=HQ.out _ (List.getElem_mem (l:=qs) (n:=j) (by rw [←HM.out];exact hlt))
         have hts:qs.take (j+1)=qs.take j++[qs[j]'(by rw [←HM.out];exact hlt)]:=by rw [List.take_add_one,hqk];rfl
         unfold zce at hck
         generalize qs[j]'_=q at *
         have HTS:=Lib.hid hts
         have HPR:=Lib.hid (part_row (HR.out.mono HB.out) hqm)
         have HP1:=Lib.hid (show ∀u∈zep cs q,u.oneCell'=true from fun u hu=>H1.out u (List.mem_of_mem_drop (List.mem_of_mem_take hu)))
         clear hc1 hqk hts hqm
         have i1:(j:Int)<(k:Int):=by omega
         have i2:(0:Int)≤(j:Int):=by omega
         go_wp2_with (at_builtin;refine zay EPV rfl _ _ rfl w.heap.size _ (2 * j) _ rfl HO.out (some ⟨b,off+2 * q * 4,none⟩) 2 2 (zep cs q) rfl HPR.out HP1.out (by unfold maxLen;omega) (by omega) HB.out.size ?_;intro v2 w2 hO2 hg2 _)
         have HO2:=Lib.hid (show w2.ownsRow w.heap.size 48 4 v2 (2 * (j+1)) ((qs.take (j+1)).flatMap (zep cs)) by
           rw [HTS.out,List.flatMap_append,List.flatMap_singleton];exact hO2)
         have HB2:=Lib.hid (HB.out.grown hg2 HB.out.size (fun r e=>(HO.out.lt r e).1))
         clear hO2 hg2
         go_roundw
         case rel=>exact ⟨j+1,by omega,by go_num,HO2,HB2⟩
         case measure=>simp [intOf];omega
       · obtain rfl : j = k := by omega
         have hO:=HO.out
         rw [List.take_of_length_le (by rw [←HM.out];exact Nat.le_refl _)] at hO
         have HO3:=Lib.hid hO
         clear hO
         go_wp2
         go_ret
         exact ⟨_,rfl,HO3.out,HB.out⟩
end Go.Proofs.YtkhcjoomijkfbaaGreatDoor
namespace Go.Proofs.YtkhcjoomijkfbaaGreatDoor
open Go.RowKit Go.Sort
variable {α : Type} [Inhabited α]
theorem inner_eq (lt1 lt2:α→α→Bool) (a:Nat):∀(j:Nat) (d:Array α),j<d.size→(∀p,a≤p→p<j→lt1 d[j]! d[p]! = lt2 d[j]! d[p]!)→insInner lt1 a j d=insInner lt2 a j d
 | 0,d,_,_=>rfl
 | j + 1, d, hj, h => by
   rw [insInner,insInner]
   by_cases hja:j+1 > a
   · rw [h j (by omega) (by omega)]
     have ih := inner_eq lt1 lt2 a j (swp d (j + 1) j) (by rw [size_swp]; omega) (fun p hp hpj => by
       rw [swp_right d (j+1) j (by omega),swp_other d (j+1) j p (by omega) (by omega)]
       exact h p hp (by omega))
     rw [ih]
   · simp [hja]
theorem outer_eq (lt1 lt2:α→α→Bool) (hS:SWO lt2) (a b:Nat) (d0:Array α) (hb:b≤d0.size) (h:∀p q,a≤p→p<q→q<b→lt1 d0[q]! d0[p]! = lt2 d0[q]! d0[p]!) :
   ∀(n i:Nat) (d:Array α),b-i=n→a<i→PermIn a i d0 d→SortedIn lt2 a i d→insOuter lt1 a b i d=insOuter lt2 a b i d
 | 0,i,d,hn,_,_,_=>by rw [zcB _ _ _ _ _ (by omega),zcB _ _ _ _ _ (by omega)]
 | n + 1, i, d, hn, hai, hP, hs => by
   have hib:i<b:=by omega
   have e : insInner lt1 a i d = insInner lt2 a i d := inner_eq lt1 lt2 a i d (by rw [hP.1]; omega) (fun p hp hpi => by
     rw [hP.2.1 i (by omega)]
     exact permIn_all d0 d a i (fun x=>lt1 d0[i]! x=lt2 d0[i]! x) (by omega) hP (fun q hq hqi=>h q i hq hqi hib) p hp hpi)
   have h1:=insInner_spec hS swp_permIn permIn_refl permIn_trans a b i hib i d (by omega) (Nat.le_refl _) (by rw [hP.1];exact hb) ⟨fun p q hap hpq hqi _ hq=>hs p q hap hpq (by omega),fun q h1 h2=>by omega⟩
   rw [zeu _ _ _ _ _ hib,zeu _ _ _ _ _ hib,e]
   have hP1:=insInner_spec hS swp_permIn permIn_refl permIn_trans a (i+1) i (by omega) i d (by omega) (Nat.le_refl _) (by rw [hP.1];omega) ⟨fun p q hap hpq hqi _ hq=>hs p q hap hpq (by omega),fun q h1 h2=>by omega⟩
   refine outer_eq lt1 lt2 hS a b d0 hb h n (i+1) _ (by omega) (by omega) (permIn_trans _ _ _ _ _ (permIn_mono d0 d a i a (i+1) (by omega) (by omega) (by omega) hP) hP1.1) hP1.2
theorem zfN (lt1 lt2:α→α→Bool) (hS:SWO lt2) (a b:Nat) (d:Array α) (hab:a≤b) (hb:b≤d.size) (h:∀p q,a≤p→p<q→q<b→lt1 d[q]! d[p]! = lt2 d[q]! d[p]!) :
   PermIn a b d (Sort.insertionSort lt1 d a b)∧SortedIn lt2 a b (Sort.insertionSort lt1 d a b):=by
 have e:Sort.insertionSort lt1 d a b=Sort.insertionSort lt2 d a b:=by
   unfold Sort.insertionSort
   by_cases hb2:a+1≤b
   · exact outer_eq lt1 lt2 hS a b d hb h _ (a+1) d rfl (by omega) (permIn_refl _ _ _) (fun i j h1 h2 h3=>by omega)
   · rw [zcB _ _ _ _ _ (by omega),zcB _ _ _ _ _ (by omega)]
 rw [e]
 exact insertionSort_holds hS d a b hab hb
end Go.Proofs.YtkhcjoomijkfbaaGreatDoor
namespace Go.Proofs.YtkhcjoomijkfbaaGreatDoor
open Go.RowKit Go.Sort
variable {α : Type} [Inhabited α]
def swR (d:Array α) (a b n k:Nat):α:=if a≤k∧k<a+n then d[k-a+b]! else if b≤k∧k<b+n then d[k-b+a]! else d[k]!
theorem swR_zero (d:Array α) (a b k:Nat):swR d a b 0 k=d[k]! := by
 unfold swR
 rw [if_neg (by omega),if_neg (by omega)]
theorem swR_step (d R:Array α) (a b n i:Nat) (hi:i<n) (hab:a+n≤b) (hb:b+n≤R.size) (hR:∀k,R[k]! = swR d a b i k) (k:Nat):(swp R (a+i) (b+i))[k]! = swR d a b (i+1) k:=by
 by_cases h1:k=a+i
 · subst h1
   rw [swp_left _ _ _ (by omega) (by omega),hR]
   unfold swR
   rw [if_neg (by omega),if_neg (by omega),if_pos (by omega)]
   exact congrArg (fun i=>d[i]!) (by omega)
 · by_cases h2:k=b+i
   · subst h2
     rw [swp_right _ _ _ (by omega),hR]
     unfold swR
     rw [if_neg (by omega),if_neg (by omega),if_neg (by omega),if_pos (by omega)]
     exact congrArg (fun i=>d[i]!) (by omega)
   · rw [swp_other _ _ _ _ h1 h2,hR]
     unfold swR
     repeat' split
     all_goals first
       | rfl
       | (exfalso;omega)
def rotF (d:Array α) (a m b k:Nat):α:=if a≤k∧k<a+(b-m) then d[k+(m-a)]! else if a+(b-m)≤k∧k<b then d[k-(b-m)]! else d[k]!
theorem rot_gt (d R:Array α) (m i j:Nat) (hij:j<i) (him:i≤m) (hR:∀k,R[k]! = swR d (m-i) m j k) (k:Nat):rotF R (m-(i-j)) m (m+j) k=rotF d (m-i) m (m+j) k:=by
 unfold rotF
 simp only [hR,swR]
 repeat' split
 all_goals first
   | (exfalso;omega)
   | exact congrArg (fun i=>d[i]!) (by omega)
theorem rot_lt (d R:Array α) (m i j:Nat) (hij:i<j) (him:i≤m) (hR:∀k,R[k]! = swR d (m-i) (m+j-i) i k) (k:Nat):rotF R (m-i) m (m+(j-i)) k=rotF d (m-i) m (m+j) k:=by
 unfold rotF
 simp only [hR,swR]
 repeat' split
 all_goals first
   | (exfalso;omega)
   | exact congrArg (fun i=>d[i]!) (by omega)
theorem rot_eq (d R:Array α) (m i:Nat) (him:i≤m) (hR:∀k,R[k]! = swR d (m-i) m i k) (k:Nat):R[k]! = rotF d (m-i) m (m+i) k:=by
 unfold rotF
 simp only [hR,swR]
 repeat' split
 all_goals first
   | (exfalso;omega)
   | exact congrArg (fun i=>d[i]!) (by omega)
variable {lt : α → α → Bool}
omit [Inhabited α] in
theorem chain3 (hS:SWO lt) {y u v x:α} (h1:lt y u=false) (h2:lt u v=false) (h3:lt v x=false):lt y x=false:=hS.ntrans _ _ _ (hS.ntrans _ _ _ h1 h2) h3
theorem zbB (hS:SWO lt) {a b i j:Nat} {d:Array α} (h:SortedIn lt a b d) (hai:a≤i) (hij:i≤j) (hjb:j<b):lt d[j]! d[i]! = false:=by
 rcases Nat.lt_or_eq_of_le hij with h1|h1
 · exact h i j hai h1 hjb
 · subst h1;exact hS.irrefl _
def zdE (lt1 lt:α→α→Bool) (d:Array α) (a m b:Nat):Prop:=∀p q,a≤p→p<m→m≤q→q<b→lt1 d[q]! d[p]! = lt d[q]! d[p]!
theorem merge_done (hS:SWO lt) (d R R1 R2:Array α) (a m b s e:Nat) (has:a≤s) (hsm:s≤m) (hme:m≤e) (heb:e≤b) (hb:b≤d.size) (hsz:R.size=d.size)
   (h1:SortedIn lt a m d) (h2:SortedIn lt m b d) (hR:∀k,R[k]! = rotF d s m e k)
   (H1:a<s→e<b→lt d[e]! d[s-1]! = false) (H2:s<m→m<e→lt d[s]! d[e-1]! = false)
   (p1:PermIn a (s+(e-m)) R R1) (s1:SortedIn lt a (s+(e-m)) R1) (p2:PermIn (s+(e-m)) b R1 R2) (s2:SortedIn lt (s+(e-m)) b R2):SortedIn lt a b R2:=by
 have hmid:s+(e-m)≤b:=by omega
 have lowx:∀k,a≤k→k<s+(e-m)→(∃q,a≤q∧q<s∧R[k]! = d[q]!)∨(∃q,m≤q∧q<e∧R[k]! = d[q]!):=by
   intro k hk1 hk2
   rw [hR,rotF]
   by_cases hks:k<s
   · left;exact ⟨k,hk1,hks,by rw [if_neg (by omega),if_neg (by omega)]⟩
   · right;exact ⟨k+(m-s),by omega,by omega,by rw [if_pos (by omega)]⟩
 have upx:∀k,s+(e-m)≤k→k<b→(∃q,s≤q∧q<m∧R[k]! = d[q]!)∨(∃q,e≤q∧q<b∧R[k]! = d[q]!):=by
   intro k hk1 hk2
   rw [hR,rotF]
   by_cases hke:k<e
   · left;exact ⟨k-(e-m),by omega,by omega,by rw [if_neg (by omega),if_pos (by omega)]⟩
   · right;exact ⟨k,by omega,hk2,by rw [if_neg (by omega),if_neg (by omega)]⟩
 have cross:∀i j,a≤i→i<s+(e-m)→s+(e-m)≤j→j<b→lt R[j]! R[i]! = false:=by
   intro i j hi1 hi2 hj1 hj2
   rcases lowx i hi1 hi2 with ⟨q,q1,q2,hq⟩|⟨q,q1,q2,hq⟩<;>rcases upx j hj1 hj2 with ⟨r,r1,r2,hr⟩|⟨r,r1,r2,hr⟩<;>rw [hq,hr]
   · exact zbB hS h1 q1 (by omega) r2
   · exact chain3 hS (zbB hS h2 (by omega) r1 r2) (H1 (by omega) (by omega)) (zbB hS h1 q1 (by omega) (by omega))
   · exact chain3 hS (zbB hS h1 (by omega) r1 r2) (H2 (by omega) (by omega)) (zbB hS h2 q1 (by omega) (by omega))
   · exact zbB hS h2 q1 (by omega) r2
 have l1:∀i,a≤i→i<s+(e-m)→∀j,s+(e-m)≤j→j<b→lt R[j]! R1[i]! = false:=fun i hi1 hi2 j hj1 hj2 =>
   permIn_all R R1 a (s+(e-m)) (fun x=>lt R[j]! x=false) (by omega) p1 (fun i h1 h2=>cross i j h1 h2 hj1 hj2) i hi1 hi2
 have l2 : ∀ i, a ≤ i → i < s + (e - m) → ∀ j, s + (e - m) ≤ j → j < b → lt R1[j]! R1[i]! = false := fun i hi1 hi2 j hj1 hj2 => by
   rw [p1.2.1 j (by omega)];exact l1 i hi1 hi2 j hj1 hj2
 have l3:∀i,a≤i→i<s+(e-m)→∀j,s+(e-m)≤j→j<b→lt R2[j]! R1[i]! = false:=fun i hi1 hi2 =>
   permIn_all R1 R2 (s+(e-m)) b (fun x=>lt x R1[i]! = false) (by rw [p1.1];omega) p2 (fun j h1 h2=>l2 i hi1 hi2 j h1 h2)
 intro i j hai hij hjb
 by_cases hj:j<s+(e-m)
 · rw [p2.2.1 i (by omega),p2.2.1 j (by omega)];exact s1 i j hai hij hj
 · by_cases hi:i<s+(e-m)
   · rw [p2.2.1 i (by omega)];exact l3 i hai hi j (by omega) hjb
   · exact s2 i j (by omega) hij hjb
theorem left_done (hS:SWO lt) (d R:Array α) (a b i:Nat) (hi:a+1≤i) (hib:i≤b) (h2:SortedIn lt (a+1) b d) (hlt:∀q,a+1≤q→q<i→lt d[q]! d[a]! = true) (hge:∀q,i≤q→q<b→lt d[q]! d[a]! = false)
   (hR:∀k,R[k]! = if a≤k∧k<i-1 then d[k+1]! else if k=i-1 then d[a]! else d[k]!):SortedIn lt a b R:=by
 intro p q hap hpq hqb
 rw [hR p,hR q]
 have asym : ∀ x y, lt x y = true → lt y x = false := fun x y h => by
   cases h2:lt y x with
   | false=>rfl
   | true=>have:=hS.trans _ _ _ h h2;rw [hS.irrefl] at this;cases this
 by_cases c1:q<i-1
 · rw [if_pos (by omega),if_pos (by omega)];exact h2 _ _ (by omega) (by omega) (by omega)
 · by_cases c2:q=i-1
   · rw [if_neg (by omega), if_pos c2, if_pos (by omega)]
     exact asym _ _ (hlt _ (by omega) (by omega))
   · rw [if_neg (by omega), if_neg c2]
     by_cases c3:p<i-1
     · rw [if_pos (by omega)];exact h2 _ _ (by omega) (by omega) hqb
     · by_cases c4:p=i-1
       · rw [if_neg (by omega),if_pos c4];exact hge q (by omega) hqb
       · rw [if_neg (by omega),if_neg c4];exact h2 _ _ (by omega) hpq hqb
theorem right_done (hS:SWO lt) (d R:Array α) (a m i:Nat) (hai:a≤i) (him:i≤m) (h1:SortedIn lt a m d) (hge:∀q,a≤q→q<i→lt d[m]! d[q]! = false) (hlt:∀q,i≤q→q<m→lt d[m]! d[q]! = true)
   (hR:∀k,R[k]! = if i<k∧k≤m then d[k-1]! else if k=i then d[m]! else d[k]!):SortedIn lt a (m+1) R:=by
 intro p q hap hpq hqb
 rw [hR p,hR q]
 have asym : ∀ x y, lt x y = true → lt y x = false := fun x y h => by
   cases h2:lt y x with
   | false=>rfl
   | true=>have:=hS.trans _ _ _ h h2;rw [hS.irrefl] at this;cases this
 by_cases c1:i<q
 · rw [if_pos (by omega)]
   by_cases c2:i<p
   · rw [if_pos (by omega)];exact h1 _ _ (by omega) (by omega) (by omega)
   · by_cases c3:p=i
     · rw [if_neg (by omega),if_pos c3];exact asym _ _ (hlt _ (by omega) (by omega))
     · rw [if_neg (by omega),if_neg c3];exact h1 _ _ hap (by omega) (by omega)
 · by_cases c2:q=i
   · rw [if_neg (by omega),if_pos c2,if_neg (by omega),if_neg (by omega)];exact hge _ hap (by omega)
   · rw [if_neg (by omega),if_neg c2,if_neg (by omega),if_neg (by omega)];exact h1 _ _ hap hpq (by omega)
theorem low_all (hS:SWO lt) {d:Array α} {m b h:Nat} {x:α} (hs:SortedIn lt m b d) (hh:h<b) (hx:lt d[h]! x=true):∀q,m≤q→q≤h→lt d[q]! x=true:=by
 intro q h1 h2
 cases hq:lt d[q]! x with
 | true=>rfl
 | false=>have:=hS.ntrans _ _ _ (zbB hS hs h1 h2 hh) hq;rw [hx] at this;cases this
theorem high_all (hS:SWO lt) {d:Array α} {m b h:Nat} {x:α} (hs:SortedIn lt m b d) (hm:m≤h) (hx:lt d[h]! x=false):∀q,h≤q→q<b→lt d[q]! x=false :=
 fun _ h1 h2=>hS.ntrans _ _ _ (zbB hS hs hm h1 h2) hx
theorem low_all' (hS:SWO lt) {d:Array α} {a m h:Nat} {x:α} (hs:SortedIn lt a m d) (hh:h<m) (hx:lt x d[h]! = false):∀q,a≤q→q≤h→lt x d[q]! = false :=
 fun _ h1 h2=>hS.ntrans _ _ _ hx (zbB hS hs h1 h2 hh)
theorem high_all' (hS:SWO lt) {d:Array α} {a m h:Nat} {x:α} (hs:SortedIn lt a m d) (hm:a≤h) (hx:lt x d[h]! = true):∀q,h≤q→q<m→lt x d[q]! = true:=by
 intro q h1 h2
 cases hq:lt x d[q]! with
 | true=>rfl
 | false=>have:=hS.ntrans _ _ _ hq (zbB hS hs hm h1 h2);rw [hx] at this;cases this
end Go.Proofs.YtkhcjoomijkfbaaGreatDoor
namespace Go.Proofs.YtkhcjoomijkfbaaGreatDoor
open Go.RowKit Go.Sort
theorem zec {α:Type} [Inhabited α] (enc:α→Value) (hE:∀x,∃a n c,enc x=.slice a n c) (F:Value) (g cap a b n:Nat) (rest:List Value) (d:Array α) (w0 w:World)
   (hS:SB enc w0 g 46 rest d w) (hab:a+n≤b) (hb:b+n≤d.size) (hsz:d.size<4611686018427387904) :
   Calls Tryz.prog 251 #[.slice (some ⟨g,0,none⟩) d.size cap,.int .i64 a,.int .i64 b,.int .i64 n,F] w fun e w'=>e=.returned (.tuple #[])∧∃R:Array α,R.size=d.size∧SB enc w0 g 46 rest R w'∧(∀k,R[k]! = swR d a b n k)∧PermIn a (b+n) d R:=by
 have HS:=Lib.hid hS
 clear hS
 go_enter Tryz.func251,Tryz.ntmps251
 go_wp2
 go_loopw [10] (fun vi wr=>∃(i:Nat) (dk:Array α),vi=.int .i64 i∧i≤n∧dk.size=d.size∧Hid (SB enc w0 g 46 rest dk wr)∧Hid (∀k,dk[k]! = swR d a b i k)∧Hid (PermIn a (b+n) d dk)) (fun vi _=>n-(intOf vi).toNat)
 case atStart=>exact ⟨0,d,rfl,by omega,rfl,HS,Lib.hid (fun k=>(swR_zero d a b k).symm),Lib.hid (permIn_refl _ _ _)⟩
 case round =>
   obtain ⟨i,dk,rfl,hin,hsk,HSk,HR,HP⟩:=hrel
   clear HS
   by_cases hlt:i<n
   · have hc1 := HSk.out.cell (a + i) (by omega)
     have hc2:=HSk.out.cell (b+i) (by omega)
     have hf1:=HSk.out.free (a+i)
     have hf2:=HSk.out.free (b+i)
     obtain ⟨X,hX⟩:∃X,X=dk[a+i]! := ⟨_,rfl⟩
     obtain ⟨Y,hY⟩:∃Y,Y=dk[b+i]! := ⟨_,rfl⟩
     rw [←hX] at hc1
     rw [←hY] at hc2
     have HX:=Lib.hid hX
     have HY:=Lib.hid hY
     obtain ⟨x,xn,xc,hx⟩:=hE X
     obtain ⟨y,yn,yc,hy⟩:=hE Y
     rw [hx] at hc1
     rw [hy] at hc2
     have HEx:=Lib.hid hx
     have HEy:=Lib.hid hy
     clear hx hy hX hY
     have hj1:((a:Int)+(i:Int)).toNat=a+i:=by omega
     have hj2:((b:Int)+(i:Int)).toNat=b+i:=by omega
     have hb1:(a:Int)+(i:Int)<(d.size:Int):=by omega
     have hb2:(b:Int)+(i:Int)<(d.size:Int):=by omega
     go_wp2
     go_region
     all_goals go_wp2
     go_roundw
     case rel =>
       refine ⟨i+1,swp dk (a+i) (b+i),by go_num,by omega,by rw [size_swp];exact hsk,?_,Lib.hid (swR_step d dk a b n i hlt hab (by omega) HR.out),Lib.hid (permIn_trans _ _ _ _ _ HP.out (swp_permIn dk a (b+n) (a+i) (b+i) (by omega) (by omega) (by omega) (by omega) (by omega)))⟩
       have hw:=HSk.out.swp (a+i) (b+i) (by omega) (by omega) 1
       rw [←HX.out,←HY.out,HEx.out,HEy.out] at hw
       exact Lib.hid hw
     case measure=>simp [intOf];omega
   · obtain rfl : n = i := by omega
     go_wp2
     go_end0
     exact ⟨rfl,dk,hsk,HSk.out,HR.out,HP.out⟩
theorem rot_anyQ {α:Type} [Inhabited α] (enc:α→Value) (hE:∀x,∃a n c,enc x=.slice a n c) (F:Value) (g cap a m b:Nat) (rest:List Value) (d:Array α) (w0 w:World)
   (hS:SB enc w0 g 46 rest d w) (ham:a<m) (hmb:m<b) (hb:b≤d.size) (hsz:d.size<4611686018427387904) :
   Calls Tryz.prog 247 #[.slice (some ⟨g,0,none⟩) d.size cap,.int .i64 a,.int .i64 m,.int .i64 b,F] w fun e w'=>e=.returned (.tuple #[])∧∃R:Array α,R.size=d.size∧SB enc w0 g 46 rest R w'∧(∀k,R[k]! = rotF d a m b k)∧PermIn a b d R:=by
 have HS:=Lib.hid hS
 clear hS
 go_enter Tryz.func247,Tryz.ntmps247
 go_wp2
 go_loopw [10,11] (fun vi vj wr=>∃(i j:Nat) (dk:Array α),vi=.int .i64 i∧vj=.int .i64 j∧0<i∧0<j∧i≤m-a∧j≤b-m∧dk.size=d.size∧Hid (SB enc w0 g 46 rest dk wr)∧Hid (∀k,rotF dk (m-i) m (m+j) k=rotF d a m b k)∧Hid (PermIn a b d dk)) (fun vi vj _=>(intOf vi).toNat+(intOf vj).toNat)
 case atStart=>exact ⟨m-a,b-m,d,by go_num,by go_num,by omega,by omega,by omega,by omega,rfl,HS,Lib.hid (fun k=>by rw [show m-(m-a)=a from by omega,show m+(b-m)=b from by omega]),Lib.hid (permIn_refl _ _ _)⟩
 case round =>
   obtain ⟨i,j,dk,rfl,rfl,hi,hj,him,hjm,hsk,HSk,HR,HP⟩:=hrel
   clear HS
   have hmi:((m-i:Nat):Int)=(m:Int)-i:=by omega
   by_cases hgt:j<i
   · have hsw := zec enc hE F g cap (m - i) m j rest dk w0 wr HSk.out (by omega) (by omega) (by omega)
     rw [hmi,hsk] at hsw
     have HSW:=Lib.hid hsw
     have hne:((i:Int)==(j:Int))=false:=by rw [beq_eq_false_iff_ne];omega
     clear hsw
     go_wp2_with (go_at_call 251;refine HSW.out.mono ?_;rintro e w2 ⟨rfl,R,hRs,hRB,hRk,hRP⟩;have HB2:=Lib.hid hRB;have HK2:=Lib.hid hRk;have HP2:=Lib.hid hRP;clear hRB hRk hRP)
     go_roundw
     case rel=>exact ⟨i-j,j,R,by go_num,rfl,by omega,by omega,by omega,by omega,hRs,HB2,Lib.hid (fun k=>by rw [rot_gt dk R m i j hgt (by omega) HK2.out k];exact HR.out k),Lib.hid (permIn_trans _ _ _ _ _ HP.out (permIn_mono dk R (m-i) (m+j) a b (by omega) (by omega) (by omega) HP2.out))⟩
     case measure=>simp [intOf];omega
   · by_cases hlt:i<j
     · have hsw := zec enc hE F g cap (m - i) (m + j - i) i rest dk w0 wr HSk.out (by omega) (by omega) (by omega)
       rw [hmi,hsk,show ((m+j-i:Nat):Int)=(m:Int)+j-i from by omega] at hsw
       have HSW:=Lib.hid hsw
       have hne:((i:Int)==(j:Int))=false:=by rw [beq_eq_false_iff_ne];omega
       clear hsw
       go_wp2_with (go_at_call 251;refine HSW.out.mono ?_;rintro e w2 ⟨rfl,R,hRs,hRB,hRk,hRP⟩;have HB2:=Lib.hid hRB;have HK2:=Lib.hid hRk;have HP2:=Lib.hid hRP;clear hRB hRk hRP)
       go_roundw
       case rel=>exact ⟨i,j-i,R,rfl,by go_num,by omega,by omega,by omega,by omega,hRs,HB2,Lib.hid (fun k=>by rw [rot_lt dk R m i j hlt (by omega) HK2.out k];exact HR.out k),Lib.hid (permIn_trans _ _ _ _ _ HP.out (permIn_mono dk R (m-i) (m+j-i+i) a b (by omega) (by omega) (by omega) HP2.out))⟩
       case measure=>simp [intOf];omega
     · obtain rfl : i = j := by omega
       have hsw:=zec enc hE F g cap (m-i) m i rest dk w0 wr HSk.out (by omega) (by omega) (by omega)
       rw [hmi,hsk] at hsw
       have HSW:=Lib.hid hsw
       clear hsw
       go_wp2_with (go_at_call 251;refine HSW.out.mono ?_;rintro e w2 ⟨rfl,R,hRs,hRB,hRk,hRP⟩;have HB2:=Lib.hid hRB;have HK2:=Lib.hid hRk;have HP2:=Lib.hid hRP;clear hRB hRk hRP)
       go_end0
       exact ⟨rfl,R,hRs,HB2.out,fun k=>by rw [rot_eq dk R m i (by omega) HK2.out k];exact HR.out k,permIn_trans _ _ _ _ _ HP.out (permIn_mono dk R (m-i) (m+i) a b (by omega) (by omega) (by omega) HP2.out)⟩
end Go.Proofs.YtkhcjoomijkfbaaGreatDoor
namespace Go.Proofs.YtkhcjoomijkfbaaGreatDoor
open Go.RowKit Go.Sort
variable {α : Type} [Inhabited α]
def shlF (d:Array α) (a k q:Nat):α:=if a≤q∧q<k then d[q+1]! else if q=k then d[a]! else d[q]!
theorem shlF_zero (d:Array α) (a q:Nat):shlF d a a q=d[q]! := by
 unfold shlF
 rw [if_neg (by omega)]
 split
 · rename_i h;rw [h]
 · rfl
theorem shlF_step (d R:Array α) (a k:Nat) (hak:a≤k) (hk:k+1<R.size) (hR:∀q,R[q]! = shlF d a k q) (q:Nat):(swp R k (k+1))[q]! = shlF d a (k+1) q:=by
 by_cases h1:q=k
 · subst h1
   rw [swp_left _ _ _ (by omega) (by omega),hR]
   unfold shlF
   rw [if_neg (by omega),if_neg (by omega),if_pos (by omega)]
 · by_cases h2:q=k+1
   · subst h2
     rw [swp_right _ _ _ (by omega),hR]
     unfold shlF
     rw [if_neg (by omega),if_pos rfl,if_neg (by omega),if_pos rfl]
   · rw [swp_other _ _ _ _ h1 h2,hR]
     unfold shlF
     repeat' split
     all_goals first
       | rfl
       | (exfalso;omega)
def shrF (d:Array α) (m k q:Nat):α:=if k<q∧q≤m then d[q-1]! else if q=k then d[m]! else d[q]!
theorem shrF_zero (d:Array α) (m q:Nat):shrF d m m q=d[q]! := by
 unfold shrF
 rw [if_neg (by omega)]
 split
 · rename_i h;rw [h]
 · rfl
theorem shrF_step (d R:Array α) (m k:Nat) (hkm:k+1≤m) (hk:k+1<R.size) (hR:∀q,R[q]! = shrF d m (k+1) q) (q:Nat):(swp R (k+1) k)[q]! = shrF d m k q:=by
 by_cases h1:q=k+1
 · subst h1
   rw [swp_left _ _ _ (by omega) (by omega),hR]
   unfold shrF
   rw [if_neg (by omega),if_neg (by omega),if_pos (by omega)]
   exact congrArg (fun i=>d[i]!) (by omega)
 · by_cases h2:q=k
   · subst h2
     rw [swp_right _ _ _ (by omega),hR]
     unfold shrF
     rw [if_neg (by omega),if_pos rfl,if_neg (by omega),if_pos rfl]
   · rw [swp_other _ _ _ _ h1 h2,hR]
     unfold shrF
     repeat' split
     all_goals first
       | rfl
       | (exfalso;omega)
theorem zc1 (d:Array α) (s m e:Nat) (hsm:s≤m) (hme:m≤e) (h:s=m∨m=e) (k:Nat):d[k]! = rotF d s m e k:=by
 unfold rotF
 repeat' split
 all_goals first
   | rfl
   | (exfalso;omega)
   | exact congrArg (fun i=>d[i]!) (by omega)
variable {lt lt1 : α → α → Bool}
theorem zdu {d R : Array α} {a b f : Nat} (lo hi : Nat) (h : SortedIn lt a b d) (hlo : a ≤ f) (hhi : f + (hi - lo) ≤ b) (hR : ∀ k, lo ≤ k → k < hi → R[k]! = d[f + (k - lo)]!) : SortedIn lt lo hi R := fun i j h1 h2 h3 => by
 rw [hR i h1 (by omega),hR j (by omega) h3]
 exact h _ _ (by omega) (by omega) (by omega)
section
variable {d R : Array α} {a m b s e : Nat} (hR : ∀ k, R[k]! = rotF d s m e k) (has : a ≤ s) (hsm : s ≤ m) (hme : m ≤ e) (heb : e ≤ b) (h1 : SortedIn lt a m d) (h2 : SortedIn lt m b d)
include hR in
theorem part1 (k:Nat) (h:k<s):R[k]! = d[k]! := by
 rw [hR,rotF,if_neg (by omega),if_neg (by omega)]
include hR hsm in
theorem part2 (k:Nat) (h1:s≤k) (h2:k<s+(e-m)):R[k]! = d[m+(k-s)]! := by
 rw [hR,rotF,if_pos (by omega)]
 exact congrArg (fun i=>d[i]!) (by omega)
include hR in
theorem part3 (k:Nat) (h1:s+(e-m)≤k) (h2:k<e):R[k]! = d[s+(k-(s+(e-m)))]! := by
 rw [hR,rotF,if_neg (by omega),if_pos (by omega)]
 exact congrArg (fun i=>d[i]!) (by omega)
include hR hsm hme in
theorem part4 (k:Nat) (h1:e≤k):R[k]! = d[k]! := by
 rw [hR,rotF,if_neg (by omega),if_neg (by omega)]
include hR has hsm h1 in
theorem sp1:SortedIn lt a s R:=zdu (f:=a) a s h1 (Nat.le_refl _) (by omega) (fun k h3 h4=>by rw [part1 hR k h4];exact congrArg (fun i=>d[i]!) (by omega))
include hR hsm hme heb h2 in
theorem sp2:SortedIn lt s (s+(e-m)) R:=zdu (f:=m) _ _ h2 (Nat.le_refl _) (by omega) (fun k h3 h4=>part2 hR hsm k h3 h4)
include hR has hsm hme h1 in
theorem sp3:SortedIn lt (s+(e-m)) e R:=zdu (f:=s) _ _ h1 has (by omega) (fun k h3 h4=>part3 hR k h3 h4)
include hR hsm hme heb h2 in
theorem sp4:SortedIn lt e b R:=zdu (f:=e) e b h2 hme (by omega) (fun k h3 _=>by rw [part4 hR hsm hme k h3];exact congrArg (fun i=>d[i]!) (by omega))
include hR hsm hme heb in
theorem agree_lo (hA : zdE lt1 lt d a m b) : zdE lt1 lt R a s (s + (e - m)) := fun p q h3 h4 h5 h6 => by
 rw [part1 hR p h4,part2 hR hsm q h5 h6]
 exact hA _ _ h3 (by omega) (by omega) (by omega)
include hR has hsm hme in
theorem agree_hi (hA : zdE lt1 lt d a m b) : zdE lt1 lt R (s + (e - m)) e b := fun p q h3 h4 h5 h6 => by
 rw [part3 hR p h3 h4,part4 hR hsm hme q h5]
 exact hA _ _ (by omega) (by omega) (by omega) h6
include hR has hsm hme heb h1 h2 in
theorem skip_lo (h:s=a∨s=s+(e-m)):SortedIn lt a (s+(e-m)) R:=by
 rcases h with h|h
 · have:=sp2 hR hsm hme heb h2;rw [h] at this ⊢;exact this
 · rw [←h];exact sp1 hR has hsm h1
include hR has hsm hme heb h1 h2 in
theorem skip_hi (h:e=s+(e-m)∨e=b):SortedIn lt (s+(e-m)) b R:=by
 rcases h with h|h
 · rw [←h];exact sp4 hR hsm hme heb h2
 · have:=sp3 hR has hsm hme h1;rw [h] at this ⊢;exact this
end
theorem zck {d R : Array α} {a b : Nat} (h : SortedIn lt a b d) (hR : ∀ k, a ≤ k → k < b → R[k]! = d[k]!) : SortedIn lt a b R := fun i j h1 h2 h3 => by
 rw [hR i h1 (by omega),hR j (by omega) h3];exact h i j h1 h2 h3
theorem agree_congr {d R : Array α} {a m b : Nat} (h : zdE lt1 lt d a m b) (hR : ∀ k, a ≤ k → k < b → R[k]! = d[k]!) : zdE lt1 lt R a m b := fun p q h1 h2 h3 h4 => by
 rw [hR p h1 (by omega),hR q (by omega) h4];exact h p q h1 h2 h3 h4
theorem zdn {d R:Array α} {a b:Nat} (D:α→Prop) (hb:b≤d.size) (hP:PermIn a b d R) (hD:∀i,i<d.size→D d[i]!) (i:Nat) (hi:i<R.size):D R[i]! := by
 by_cases h:a≤i∧i<b
 · exact permIn_all d R a b D hb hP (fun k _ h2=>hD k (by omega)) i h.1 h.2
 · rw [hP.2.1 i (by omega)];exact hD i (by rw [←hP.1];exact hi)
end Go.Proofs.YtkhcjoomijkfbaaGreatDoor
namespace Go.Proofs.YtkhcjoomijkfbaaGreatDoor
open Go.RowKit Go.Sort
def zdm {α:Type} [Inhabited α] (enc:α→Value) (lt:α→α→Bool) (g a b:Nat) (rest:List Value) (d:Array α) (w0:World) (e:Ending) (w':World):Prop :=
 e=.returned (.tuple #[])∧∃R:Array α,R.size=d.size∧SB enc w0 g 46 rest R w'∧PermIn a b d R∧SortedIn lt a b R
theorem sym_leftQ {α:Type} [Inhabited α] (enc:α→Value) (hE:∀x,∃a n c,enc x=.slice a n c) (cf:α→α→Int) (lt:α→α→Bool) (hL:SWO lt) (D:α→Prop) (f:FuncId) (cb:Array Value) (g cap a m b:Nat) (rest:List Value) (d:Array α) (w0 w:World)
   (hC:CmpQ Tryz.prog f cb enc cf D w0 g) (hS:SB enc w0 g 46 rest d w) (hD:∀i,i<d.size→D d[i]!) (hm:m=a+1) (hmb:m<b) (hb:b≤d.size) (hsz:d.size<4611686018427387904)
   (h2:SortedIn lt m b d) (hA:zdE (ltOf cf) lt d a m b) :
   Calls Tryz.prog 239 #[.slice (some ⟨g,0,none⟩) d.size cap,.int .i64 a,.int .i64 m,.int .i64 b,.func (.func f) #[] cb] w fun e w'=>zdm enc lt g a b rest d w0 e w':=by
 have eg:=hC.enters
 have HC:=Lib.hid hC
 have HS:=Lib.hid hS
 have HD:=Lib.hid hD
 have H2:=Lib.hid h2
 have HA:=Lib.hid hA
 clear hC hS hD h2 hA
 have heq:((m:Int)-(a:Int)==1)=true:=by rw [beq_iff_eq];omega
 go_enter Tryz.func239,Tryz.ntmps239
 go_wp2
 go_loopw [10,11] (fun vi vj wr=>∃(i j:Nat),vi=.int .i64 i∧vj=.int .i64 j∧m≤i∧i≤j∧j≤b∧Hid (SB enc w0 g 46 rest d wr)∧Hid (∀q,m≤q→q<i→lt d[q]! d[a]! = true)∧Hid (∀q,j≤q→q<b→lt d[q]! d[a]! = false)) (fun vi vj _=>(intOf vj).toNat-(intOf vi).toNat)
 case atStart=>exact ⟨m,b,rfl,rfl,Nat.le_refl _,by omega,Nat.le_refl _,HS,Lib.hid (fun q h1 h2=>by omega),Lib.hid (fun q h1 h2=>by omega)⟩
 case round =>
   obtain ⟨i,j,rfl,rfl,hai,hij,hjb,HSk,HLo,HHi⟩:=hrel
   clear HS
   by_cases hlt:i<j
   · obtain ⟨h,hh⟩:∃h,h=(i+j) / 2:=⟨_,rfl⟩
     have hc1:=HSk.out.cell h (by omega)
     have hc2:=HSk.out.cell a (by omega)
     have hcall:=fun q=>HC.out.calls (wr.drewN q) (HSk.out.drewN q).grown d[h]! d[a]! (HD.out h (by omega)) (HD.out a (by omega))
     have hag:=HA.out a h (Nat.le_refl _) (by omega) (by omega) (by omega)
     obtain ⟨X,hX⟩:∃X,X=d[h]! := ⟨_,rfl⟩
     obtain ⟨Y,hY⟩:∃Y,Y=d[a]! := ⟨_,rfl⟩
     rw [←hX] at hc1 hcall hag
     rw [←hY] at hc2 hcall hag
     have HX:=Lib.hid hX
     have HY:=Lib.hid hY
     obtain ⟨x,xn,xc,hx⟩:=hE X
     obtain ⟨y,yn,yc,hy⟩:=hE Y
     rw [hx] at hc1 hcall
     rw [hy] at hc2 hcall
     have HCALL:=Lib.hid hcall
     have HAG:=Lib.hid hag
     clear hcall hx hy hX hY hag
     have hh1:((i:Int)+(j:Int)) / 2=(h:Int):=by omega
     have hhb:(h:Int)<(d.size:Int):=by omega
     have hab:(a:Int)<(d.size:Int):=by omega
     have hhi:i≤h:=by omega
     have hhj:h<j:=by omega
     clear hh
     by_cases hcf:cf X Y<0
     · have hl : lt X Y = true := by rw [← HAG.out]; simpa [ltOf] using hcf
       have HL:=Lib.hid hl
       have hcf2:cf X Y<0:=hcf
       clear hl hcf
       go_wp2_with fail
       go_quiet ((refine Calls.quiet_of (HCALL.out _)))
       go_wp2
       go_roundw
       case rel=>exact ⟨h+1,j,by go_num,rfl,by omega,by omega,hjb,Lib.hid (HSk.out.drewN _),Lib.hid (fun q h3 h4=>low_all hL H2.out (by omega:h<b) (by rw [←HX.out,←HY.out];exact HL.out) q h3 (by omega)),HHi⟩
       case measure=>simp [intOf];omega
     · have hl : lt X Y = false := by rw [← HAG.out]; simpa [ltOf] using hcf
       have HL:=Lib.hid hl
       have hcf2:0≤cf X Y:=by omega
       clear hl hcf
       go_wp2_with fail
       go_quiet ((refine Calls.quiet_of (HCALL.out _)))
       go_wp2
       go_roundw
       case rel=>exact ⟨i,h,rfl,rfl,hai,hhi,by omega,Lib.hid (HSk.out.drewN _),HLo,Lib.hid (fun q h3 h4=>high_all hL H2.out (by omega) (by rw [←HX.out,←HY.out];exact HL.out) q h3 h4)⟩
       case measure=>simp [intOf];omega
   · obtain rfl : i = j := by omega
     go_wp2
     go_loopw [13] (fun vk wr2=>∃(k:Nat) (dk:Array α),vk=.int .i64 k∧a≤k∧k≤i-1∧dk.size=d.size∧Hid (SB enc w0 g 46 rest dk wr2)∧Hid (∀q,dk[q]! = shlF d a k q)∧Hid (PermIn a b d dk)) (fun vk _=>i-(intOf vk).toNat)
     case atStart=>exact ⟨a,d,rfl,Nat.le_refl _,by omega,rfl,HSk,Lib.hid (fun q=>(shlF_zero d a q).symm),Lib.hid (permIn_refl _ _ _)⟩
     case round =>
       obtain ⟨k,dk,rfl,hak,hki,hsk,HSk2,HR,HP⟩:=hrel
       clear HSk
       by_cases hk:k<i-1
       · have hc1 := HSk2.out.cell k (by omega)
         have hc2:=HSk2.out.cell (k+1) (by omega)
         have hf1:=HSk2.out.free k
         have hf2:=HSk2.out.free (k+1)
         obtain ⟨X,hX⟩:∃X,X=dk[k]! := ⟨_,rfl⟩
         obtain ⟨Y,hY⟩:∃Y,Y=dk[k+1]! := ⟨_,rfl⟩
         rw [←hX] at hc1
         rw [←hY] at hc2
         have HX:=Lib.hid hX
         have HY:=Lib.hid hY
         obtain ⟨x,xn,xc,hx⟩:=hE X
         obtain ⟨y,yn,yc,hy⟩:=hE Y
         rw [hx] at hc1
         rw [hy] at hc2
         have HEx:=Lib.hid hx
         have HEy:=Lib.hid hy
         clear hx hy hX hY
         have hj1:((k:Int)+1).toNat=k+1:=by omega
         have hb1:(k:Int)<(d.size:Int):=by omega
         have hb2:(k:Int)+1<(d.size:Int):=by omega
         go_wp2
         go_region
         all_goals go_wp2
         go_roundw
         case rel =>
           refine ⟨k+1,swp dk k (k+1),by go_num,by omega,by omega,by rw [size_swp];exact hsk,?_,Lib.hid (shlF_step d dk a k hak (by omega) HR.out),Lib.hid (permIn_trans _ _ _ _ _ HP.out (swp_permIn dk a b k (k+1) (by omega) (by omega) (by omega) (by omega) (by omega)))⟩
           have hw:=HSk2.out.swp k (k+1) (by omega) (by omega) 1
           rw [←HX.out,←HY.out,HEx.out,HEy.out] at hw
           exact Lib.hid hw
         case measure=>simp [intOf];omega
       · obtain rfl : k = i - 1 := by omega
         go_wp2
         go_end0
         exact ⟨rfl,dk,hsk,HSk2.out,HP.out,left_done hL d dk a b i (by omega) hjb (by rw [←hm];exact H2.out) (by rw [←hm];exact HLo.out) HHi.out HR.out⟩
theorem sym_rightQ {α:Type} [Inhabited α] (enc:α→Value) (hE:∀x,∃a n c,enc x=.slice a n c) (cf:α→α→Int) (lt:α→α→Bool) (hL:SWO lt) (D:α→Prop) (f:FuncId) (cb:Array Value) (g cap a m b:Nat) (rest:List Value) (d:Array α) (w0 w:World)
   (hC:CmpQ Tryz.prog f cb enc cf D w0 g) (hS:SB enc w0 g 46 rest d w) (hD:∀i,i<d.size→D d[i]!) (ham:a+1<m) (hbm:b=m+1) (hb:b≤d.size) (hsz:d.size<4611686018427387904)
   (h1:SortedIn lt a m d) (hA:zdE (ltOf cf) lt d a m b) :
   Calls Tryz.prog 239 #[.slice (some ⟨g,0,none⟩) d.size cap,.int .i64 a,.int .i64 m,.int .i64 b,.func (.func f) #[] cb] w fun e w'=>zdm enc lt g a b rest d w0 e w':=by
 have eg:=hC.enters
 have HC:=Lib.hid hC
 have HS:=Lib.hid hS
 have HD:=Lib.hid hD
 have H1:=Lib.hid h1
 have HA:=Lib.hid hA
 clear hC hS hD h1 hA
 have hne:((m:Int)-(a:Int)==1)=false:=by rw [beq_eq_false_iff_ne];omega
 have heq:((b:Int)-(m:Int)==1)=true:=by rw [beq_iff_eq];omega
 go_enter Tryz.func239,Tryz.ntmps239
 go_wp2
 go_loopw [14,15] (fun vi vj wr=>∃(i j:Nat),vi=.int .i64 i∧vj=.int .i64 j∧a≤i∧i≤j∧j≤m∧Hid (SB enc w0 g 46 rest d wr)∧Hid (∀q,a≤q→q<i→lt d[m]! d[q]! = false)∧Hid (∀q,j≤q→q<m→lt d[m]! d[q]! = true)) (fun vi vj _=>(intOf vj).toNat-(intOf vi).toNat)
 case atStart=>exact ⟨a,m,rfl,rfl,Nat.le_refl _,by omega,Nat.le_refl _,HS,Lib.hid (fun q h1 h2=>by omega),Lib.hid (fun q h1 h2=>by omega)⟩
 case round =>
   obtain ⟨i,j,rfl,rfl,hai,hij,hjb,HSk,HLo,HHi⟩:=hrel
   clear HS
   by_cases hlt:i<j
   · obtain ⟨h,hh⟩:∃h,h=(i+j) / 2:=⟨_,rfl⟩
     have hc1:=HSk.out.cell m (by omega)
     have hc2:=HSk.out.cell h (by omega)
     have hcall:=fun q=>HC.out.calls (wr.drewN q) (HSk.out.drewN q).grown d[m]! d[h]! (HD.out m (by omega)) (HD.out h (by omega))
     have hag:=HA.out h m (by omega) (by omega) (by omega) (by omega)
     obtain ⟨X,hX⟩:∃X,X=d[m]! := ⟨_,rfl⟩
     obtain ⟨Y,hY⟩:∃Y,Y=d[h]! := ⟨_,rfl⟩
     rw [←hX] at hc1 hcall hag
     rw [←hY] at hc2 hcall hag
     have HX:=Lib.hid hX
     have HY:=Lib.hid hY
     obtain ⟨x,xn,xc,hx⟩:=hE X
     obtain ⟨y,yn,yc,hy⟩:=hE Y
     rw [hx] at hc1 hcall
     rw [hy] at hc2 hcall
     have HCALL:=Lib.hid hcall
     have HAG:=Lib.hid hag
     clear hcall hx hy hX hY hag
     have hh1:((i:Int)+(j:Int)) / 2=(h:Int):=by omega
     have hhb:(h:Int)<(d.size:Int):=by omega
     have hmd:(m:Int)<(d.size:Int):=by omega
     have hhi:i≤h:=by omega
     have hhj:h<j:=by omega
     clear hh
     by_cases hcf:cf X Y<0
     · have hl : lt X Y = true := by rw [← HAG.out]; simpa [ltOf] using hcf
       have HL:=Lib.hid hl
       have hcf2:cf X Y<0:=hcf
       have hcfB:decide (cf X Y<0)=true:=by rw [decide_eq_true_iff];exact hcf
       clear hl hcf
       go_wp2_with fail
       go_quiet ((refine Calls.quiet_of (HCALL.out _)))
       go_wp2
       go_roundw
       case rel=>exact ⟨i,h,rfl,rfl,hai,hhi,by omega,Lib.hid (HSk.out.drewN _),HLo,Lib.hid (fun q h3 h4=>high_all' hL H1.out (by omega) (by rw [←HX.out,←HY.out];exact HL.out) q h3 h4)⟩
       case measure=>simp [intOf];omega
     · have hl : lt X Y = false := by rw [← HAG.out]; simpa [ltOf] using hcf
       have HL:=Lib.hid hl
       have hcf2:0≤cf X Y:=by omega
       have hcfB:decide (cf X Y<0)=false:=by rw [decide_eq_false_iff_not];omega
       clear hl hcf
       go_wp2_with fail
       go_quiet ((refine Calls.quiet_of (HCALL.out _)))
       go_wp2
       go_roundw
       case rel=>exact ⟨h+1,j,by go_num,rfl,by omega,by omega,hjb,Lib.hid (HSk.out.drewN _),Lib.hid (fun q h3 h4=>low_all' hL H1.out (by omega:h<m) (by rw [←HX.out,←HY.out];exact HL.out) q h3 (by omega)),HHi⟩
       case measure=>simp [intOf];omega
   · obtain rfl : i = j := by omega
     go_wp2
     go_loopw [17] (fun vk wr2=>∃(k:Nat) (dk:Array α),vk=.int .i64 k∧i≤k∧k≤m∧dk.size=d.size∧Hid (SB enc w0 g 46 rest dk wr2)∧Hid (∀q,dk[q]! = shrF d m k q)∧Hid (PermIn a b d dk)) (fun vk _=>(intOf vk).toNat)
     case atStart=>exact ⟨m,d,rfl,hjb,Nat.le_refl _,rfl,HSk,Lib.hid (fun q=>(shrF_zero d m q).symm),Lib.hid (permIn_refl _ _ _)⟩
     case round =>
       obtain ⟨k,dk,rfl,hik,hkm,hsk,HSk2,HR,HP⟩:=hrel
       clear HSk
       by_cases hk:i<k
       · obtain ⟨u, rfl⟩ : ∃ u, k = u + 1 := ⟨k - 1, by omega⟩
         have hc1:=HSk2.out.cell (u+1) (by omega)
         have hc2:=HSk2.out.cell u (by omega)
         have hf1:=HSk2.out.free (u+1)
         have hf2:=HSk2.out.free u
         obtain ⟨X,hX⟩:∃X,X=dk[u+1]! := ⟨_,rfl⟩
         obtain ⟨Y,hY⟩:∃Y,Y=dk[u]! := ⟨_,rfl⟩
         rw [←hX] at hc1
         rw [←hY] at hc2
         have HX:=Lib.hid hX
         have HY:=Lib.hid hY
         obtain ⟨x,xn,xc,hx⟩:=hE X
         obtain ⟨y,yn,yc,hy⟩:=hE Y
         rw [hx] at hc1
         rw [hy] at hc2
         have HEx:=Lib.hid hx
         have HEy:=Lib.hid hy
         clear hx hy hX hY
         have hj1:((u:Int)+1).toNat=u+1:=by omega
         have hj2:((u:Int)+1-1)=u:=by omega
         have hb1:(u:Int)<(d.size:Int):=by omega
         have hb2:(u:Int)+1<(d.size:Int):=by omega
         go_wp2
         go_region
         all_goals go_wp2
         go_roundw
         case rel =>
           refine ⟨u,swp dk (u+1) u,by go_num,by omega,by omega,by rw [size_swp];exact hsk,?_,Lib.hid (shrF_step d dk m u (by omega) (by omega) HR.out),Lib.hid (permIn_trans _ _ _ _ _ HP.out (swp_permIn dk a b (u+1) u (by omega) (by omega) (by omega) (by omega) (by omega)))⟩
           have hw:=HSk2.out.swp (u+1) u (by omega) (by omega) 1
           rw [←HX.out,←HY.out,HEx.out,HEy.out] at hw
           exact Lib.hid hw
         case measure=>simp [intOf]
       · obtain rfl : i = k := by omega
         go_wp2
         go_end0
         refine ⟨rfl,dk,hsk,HSk2.out,HP.out,?_⟩
         rw [hbm]
         exact right_done hL d dk a m i hai hjb H1.out HLo.out HHi.out HR.out
def zfM {α:Type} [Inhabited α] (enc:α→Value) (cf:α→α→Int) (lt:α→α→Bool) (D:α→Prop) (f:FuncId) (cb:Array Value) (g cap:Nat) (rest:List Value) (n:Nat) (w0:World) (N:Nat):Prop :=
 ∀(a m b:Nat) (d:Array α) (w:World),b-a≤N→d.size=n→SB enc w0 g 46 rest d w→(∀i,i<d.size→D d[i]!)→a<m→m<b→b≤n→SortedIn lt a m d→SortedIn lt m b d→zdE (ltOf cf) lt d a m b →
   Calls Tryz.prog 239 #[.slice (some ⟨g,0,none⟩) n cap,.int .i64 a,.int .i64 m,.int .i64 b,.func (.func f) #[] cb] w fun e w'=>zdm enc lt g a b rest d w0 e w'
def zgl {α:Type} [Inhabited α] (enc:α→Value) (lt:α→α→Bool) (f:FuncId) (cb:Array Value) (g cap:Nat) (rest:List Value) (n:Nat) (w0:World) (a m b mid s0 r0:Nat) (d:Array α):Prop :=
 ∀(s:Nat) (wr:World),s0≤s→s≤r0→SB enc w0 g 46 rest d wr→(s0<s→lt d[mid+m-s]! d[s-1]! = false)→(s<r0→lt d[mid+m-s-1]! d[s]! = true) →
     ∃e,e=mid+m-s∧m≤e∧e≤b∧mid≤e∧s+(e-m)=mid ∧
     (s<m→m<e→Calls Tryz.prog 247 #[.slice (some ⟨g,0,none⟩) n cap,.int .i64 s,.int .i64 m,.int .i64 e,.func (.func f) #[] cb] wr fun e1 w'=>e1=.returned (.tuple #[])∧∃R:Array α,R.size=n∧SB enc w0 g 46 rest R w'∧(∀k,R[k]! = rotF d s m e k)∧PermIn a b d R) ∧
     (∀(R:Array α) (W:World),R.size=n→SB enc w0 g 46 rest R W→(∀k,R[k]! = rotF d s m e k)→PermIn a b d R→a<s→s<mid→Calls Tryz.prog 239 #[.slice (some ⟨g,0,none⟩) n cap,.int .i64 a,.int .i64 s,.int .i64 mid,.func (.func f) #[] cb] W fun e1 w'=>zdm enc lt g a mid rest R w0 e1 w') ∧
     (∀(R R1:Array α) (W:World),R.size=n→R1.size=n→SB enc w0 g 46 rest R1 W→(∀k,R[k]! = rotF d s m e k)→PermIn a b d R→PermIn a mid R R1→mid<e→e<b→Calls Tryz.prog 239 #[.slice (some ⟨g,0,none⟩) n cap,.int .i64 mid,.int .i64 e,.int .i64 b,.func (.func f) #[] cb] W fun e1 w'=>zdm enc lt g mid b rest R1 w0 e1 w') ∧
     (∀R:Array α,(∀k,R[k]! = rotF d s m e k)→(s=a∨s=mid)→SortedIn lt a mid R) ∧
     (∀R R1:Array α,(∀k,R[k]! = rotF d s m e k)→PermIn a mid R R1→(e=mid∨e=b)→SortedIn lt mid b R1) ∧
     (∀R R1 R2:Array α,R.size=n→(∀k,R[k]! = rotF d s m e k)→PermIn a b d R→PermIn a mid R R1→SortedIn lt a mid R1→PermIn mid b R1 R2→SortedIn lt mid b R2→PermIn a b d R2∧SortedIn lt a b R2)
theorem sym_finQ {α:Type} [Inhabited α] (enc:α→Value) (hE:∀x,∃a n c,enc x=.slice a n c) (cf:α→α→Int) (lt:α→α→Bool) (hL:SWO lt) (D:α→Prop) (f:FuncId) (cb:Array Value) (g cap:Nat) (rest:List Value) (n:Nat) (w0:World) (N:Nat)
   (hsz:n<4611686018427387904) (ih:zfM enc cf lt D f cb g cap rest n w0 N)
   (a m b mid s0 r0:Nat) (d:Array α) (hN:b-a≤N+1) (hdn:d.size=n) (hD:∀i,i<d.size→D d[i]!) (hb:b≤n) (h1:SortedIn lt a m d) (h2:SortedIn lt m b d) (hA:zdE (ltOf cf) lt d a m b)
   (hma:a<mid) (hmB:mid<b) (hs0a:a≤s0) (hr0m:r0≤m) (hr0d:r0≤mid) (hs0b:mid+m-s0≤b) (hend0:s0=a∨mid+m-s0=b) (hend1:r0=m∨r0=mid):zgl enc lt f cb g cap rest n w0 a m b mid s0 r0 d:=by
 have HD:=Lib.hid hD
 have H1:=Lib.hid h1
 have H2:=Lib.hid h2
 have HA:=Lib.hid hA
 have HI:=Lib.hid ih
 clear hD h1 h2 hA ih
 intro s wr h3 h4 hSB h5 h6
 refine ⟨mid+m-s,rfl,by omega,by omega,by omega,by omega,?_,?_,?_,?_,?_,?_⟩
 · intro h7 h8
   have h9:=rot_anyQ enc hE (.func (.func f) #[] cb) g cap s m (mid+m-s) rest d w0 wr hSB h7 h8 (by omega) (by omega)
   rw [hdn] at h9
   exact h9.mono fun e1 w' ⟨q1,R,q2,q3,q4,q5⟩=>⟨q1,R,q2,q3,q4,permIn_mono d R s (mid+m-s) a b (by omega) (by omega) (by omega) q5⟩
 · intro R W hR1 hR2 hR3 hR4 h7 h8
   refine HI.out a s mid R W (by omega) hR1 hR2 (zdn D (by omega) hR4 HD.out) h7 h8 (by omega) (sp1 hR3 (by omega) (by omega) H1.out) ?_ ?_
   · have := sp2 hR3 (by omega) (by omega) (by omega) H2.out
     rwa [show s+(mid+m-s-m)=mid from by omega] at this
   · have := agree_lo hR3 (a := a) (by omega) (by omega) (by omega : mid + m - s ≤ b) HA.out
     rwa [show s+(mid+m-s-m)=mid from by omega] at this
 · intro R R1 W hR1 hR2 hR3 hR4 hR5 hR6 h7 h8
   have hc:∀k,mid≤k→R1[k]! = R[k]! := fun k hk=>hR6.2.1 k (by omega)
   refine HI.out mid (mid+m-s) b R1 W (by omega) hR2 hR3 (zdn D (by omega) hR6 (zdn D (by omega) hR5 HD.out)) h7 h8 hb ?_ ?_ ?_
   · have := sp3 hR4 (a := a) (by omega) (by omega) (by omega) H1.out
     rw [show s+(mid+m-s-m)=mid from by omega] at this
     exact zck this (fun k h9 _=>hc k h9)
   · exact zck (sp4 hR4 (by omega) (by omega) (by omega) H2.out) (fun k h9 _=>hc k (by omega))
   · have := agree_hi hR4 (b := b) (by omega : a ≤ s) (by omega) (by omega) HA.out
     rw [show s+(mid+m-s-m)=mid from by omega] at this
     exact agree_congr this (fun k h9 _=>hc k h9)
 · intro R hR h7
   have:=skip_lo hR (by omega:a≤s) (by omega) (by omega) (by omega:mid+m-s≤b) H1.out H2.out (by omega)
   rwa [show s+(mid+m-s-m)=mid from by omega] at this
 · intro R R1 hR hP h7
   have:=skip_hi hR (by omega:a≤s) (by omega) (by omega) (by omega:mid+m-s≤b) H1.out H2.out (by omega)
   rw [show s+(mid+m-s-m)=mid from by omega] at this
   exact zck this (fun k h9 _=>hP.2.1 k (by omega))
 · intro R R1 R2 hR1 hR hP p1 s1 p2 s2
   have hm2:s+(mid+m-s-m)=mid:=by omega
   refine ⟨permIn_trans _ _ _ _ _ (permIn_trans _ _ _ _ _ hP (permIn_mono R R1 a mid a b (by omega) (by omega) (by omega) p1)) (permIn_mono R1 R2 mid b a b (by omega) (by omega) (by have:=p1.1;omega) p2),?_⟩
   refine merge_done hL d R R1 R2 a m b s (mid+m-s) (by omega) (by omega) (by omega) (by omega) (by omega) (by omega) H1.out H2.out hR (fun q1 q2=>h5 (by omega)) (fun q1 q2=>?_) (by rw [hm2];exact p1) (by rw [hm2];exact s1) (by rw [hm2];exact p2) (by rw [hm2];exact s2)
   have h8:=h6 (by omega)
   cases h9:lt d[s]! d[mid+m-s-1]! with
   | false=>rfl
   | true=>have:=hL.trans _ _ _ h8 h9;rw [hL.irrefl] at this;cases this
theorem sym_hiQ {α:Type} [Inhabited α] (enc:α→Value) (hE:∀x,∃a n c,enc x=.slice a n c) (cf:α→α→Int) (lt:α→α→Bool) (D:α→Prop) (f:FuncId) (cb:Array Value) (g cap:Nat) (rest:List Value) (n:Nat) (w0:World)
   (hC:CmpQ Tryz.prog f cb enc cf D w0 g) (hsz:n<4611686018427387904) (a m b mid s0 r0:Nat) (d:Array α) (w:World) (hdn:d.size=n) (hS:SB enc w0 g 46 rest d w) (hD:∀i,i<d.size→D d[i]!) (ham:a+1<m) (hmb:m+1<b) (hb:b≤n) (hA:zdE (ltOf cf) lt d a m b)
   (hmid:mid=(a+b) / 2) (hcase:mid<m) (hs0:s0=mid+m-b) (hr0:r0=mid) (hfin:zgl enc lt f cb g cap rest n w0 a m b mid s0 r0 d) :
   Calls Tryz.prog 239 #[.slice (some ⟨g,0,none⟩) n cap,.int .i64 a,.int .i64 m,.int .i64 b,.func (.func f) #[] cb] w fun e w'=>zdm enc lt g a b rest d w0 e w':=by
 have hne1:((m:Int)-(a:Int)==1)=false:=by rw [beq_eq_false_iff_ne];omega
 have hne2:((b:Int)-(m:Int)==1)=false:=by rw [beq_eq_false_iff_ne];omega
 have hmid1:((a:Int)+(b:Int)) / 2=(mid:Int):=by omega
 have hma:a<mid:=by omega
 have hmB:mid<b:=by omega
 have hsr:s0≤r0:=by omega
 have hs0a:a≤s0:=by omega
 have hr0m:r0≤m:=by omega
 have hr0d:r0≤mid:=by omega
 have hs0b:mid+m-s0≤b:=by omega
 have hend0:s0=a∨mid+m-s0=b:=by omega
 have hend1:r0=m∨r0=mid:=by omega
 have eg:=hC.enters
 have HC:=Lib.hid hC
 have HS:=Lib.hid hS
 have HD:=Lib.hid hD
 have HA:=Lib.hid hA
 have HS0:=Lib.hid hs0
 have HR0:=Lib.hid hr0
 have FIN:=Lib.hid hfin
 clear hC hS hD hA hs0 hr0 hmid hfin
 go_enter Tryz.func239,Tryz.ntmps239
 go_wp2
 go_loopw [20,21] (fun vs vr wr=>∃(s r:Nat),vs=.int .i64 s∧vr=.int .i64 r∧s0≤s∧s≤r∧r≤r0∧Hid (SB enc w0 g 46 rest d wr)∧Hid (s0<s→lt d[mid+m-s]! d[s-1]! = false)∧Hid (r<r0→lt d[mid+m-r-1]! d[r]! = true)) (fun vs vr _=>(intOf vr).toNat-(intOf vs).toNat)
 case atStart=>exact ⟨s0,r0,by have:=HS0.out;go_num,by have:=HR0.out;go_num,Nat.le_refl _,hsr,Nat.le_refl _,HS,Lib.hid (fun h=>absurd h (Nat.lt_irrefl _)),Lib.hid (fun h=>absurd h (Nat.lt_irrefl _))⟩
 case round =>
   obtain ⟨s,r,rfl,rfl,h3,h4,h5,HSk,HLo,HHi⟩:=hrel
   clear HS
   by_cases hlt:s<r
   · obtain ⟨c,hc⟩:∃c,c=(s+r) / 2:=⟨_,rfl⟩
     have hc1:=HSk.out.cell (mid+m-1-c) (by omega)
     have hc2:=HSk.out.cell c (by omega)
     have hcall:=fun q=>HC.out.calls (wr.drewN q) (HSk.out.drewN q).grown d[mid+m-1-c]! d[c]! (HD.out (mid+m-1-c) (by omega)) (HD.out c (by omega))
     have hag:=HA.out c (mid+m-1-c) (by omega) (by omega) (by omega) (by omega)
     obtain ⟨X,hX⟩:∃X,X=d[mid+m-1-c]! := ⟨_,rfl⟩
     obtain ⟨Y,hY⟩:∃Y,Y=d[c]! := ⟨_,rfl⟩
     rw [←hX] at hc1 hcall hag
     rw [←hY] at hc2 hcall hag
     have HX:=Lib.hid hX
     have HY:=Lib.hid hY
     obtain ⟨x,xn,xc,hx⟩:=hE X
     obtain ⟨y,yn,yc,hy⟩:=hE Y
     rw [hx] at hc1 hcall
     rw [hy] at hc2 hcall
     have HCALL:=Lib.hid hcall
     have HAG:=Lib.hid hag
     clear hcall hx hy hX hY hag
     have hh1:((s:Int)+(r:Int)) / 2=(c:Int):=by omega
     have hidx:((mid:Int)+(m:Int)-1-(c:Int)).toNat=mid+m-1-c:=by omega
     have hi0:0≤(mid:Int)+(m:Int)-1-(c:Int):=by omega
     have hi1:(mid:Int)+(m:Int)-1-(c:Int)<(n:Int):=by omega
     have hcn:(c:Int)<(n:Int):=by omega
     have hhi:s≤c:=by omega
     have hhj:c<r:=by omega
     clear hc
     by_cases hcf:cf X Y<0
     · have hl : lt X Y = true := by rw [← HAG.out]; simpa [ltOf] using hcf
       have HL:=Lib.hid hl
       have hcf2:cf X Y<0:=hcf
       have hcfB:decide (cf X Y<0)=true:=by rw [decide_eq_true_iff];exact hcf
       clear hl hcf
       go_wp2_with fail
       go_quiet ((refine Calls.quiet_of (HCALL.out _)))
       go_wp2
       go_roundw
       case rel=>exact ⟨s,c,rfl,rfl,h3,hhi,by omega,Lib.hid (HSk.out.drewN _),HLo,Lib.hid (fun _=>by rw [show mid+m-c-1=mid+m-1-c from by omega,←HX.out,←HY.out];exact HL.out)⟩
       case measure=>simp [intOf];omega
     · have hl : lt X Y = false := by rw [← HAG.out]; simpa [ltOf] using hcf
       have HL:=Lib.hid hl
       have hcf2:0≤cf X Y:=by omega
       have hcfB:decide (cf X Y<0)=false:=by rw [decide_eq_false_iff_not];omega
       clear hl hcf
       go_wp2_with fail
       go_quiet ((refine Calls.quiet_of (HCALL.out _)))
       go_wp2
       go_roundw
       case rel=>exact ⟨c+1,r,by go_num,rfl,by omega,by omega,h5,Lib.hid (HSk.out.drewN _),Lib.hid (fun _=>by rw [show mid+m-(c+1)=mid+m-1-c from by omega,Nat.add_sub_cancel,←HX.out,←HY.out];exact HL.out),HHi⟩
       case measure=>simp [intOf];omega
   · obtain rfl : s = r := by omega
     obtain ⟨e,he,hme,heb,hde,hsum,FROT,FS1,FS2,FK1,FK2,FD⟩:=FIN.out s wr h3 h5 HSk.out HLo.out HHi.out
     have he1:(mid:Int)+(m:Int)-(s:Int)=(e:Int):=by omega
     replace FROT:=Lib.hid FROT
     replace FS1:=Lib.hid FS1
     replace FS2:=Lib.hid FS2
     replace FK1:=Lib.hid FK1
     replace FK2:=Lib.hid FK2
     replace FD:=Lib.hid FD
     clear he
     by_cases hA1:s<m
     · by_cases hB1:m<e
       · by_cases hC1:a<s
         · by_cases hE1:e<b
           · have hq0 : (s : Int) < (mid : Int) := by omega
             have hq1:(mid:Int)<(e:Int):=by omega
             have HROT:=Lib.hid (FROT.out (by omega) (by omega))
             go_wp2_with fail
             (with_reducible refine HROT.out.mono ?_)
             rintro e1 w2 ⟨rfl,R,hRs,hRB,hRk,hRp⟩
             have HB2:=Lib.hid hRB
             have HRK:=Lib.hid hRk
             have HRP:=Lib.hid hRp
             clear hRB hRk hRp
             have hs1:=FS1.out R w2 hRs HB2.out HRK.out HRP.out (by omega) (by omega)
             have HS1C:=Lib.hid hs1
             clear hs1
             go_wp2_with fail
             (with_reducible refine HS1C.out.mono ?_)
             rintro e2 w3 ⟨rfl,R1,hR1s',hR1B,hR1p,hR1o⟩
             have hR1s:R1.size=n:=hR1s'.trans hRs
             have HB3:=Lib.hid hR1B
             have HP1:=Lib.hid hR1p
             have HO1:=Lib.hid hR1o
             clear hR1s' hR1B hR1p hR1o
             have hs2:=FS2.out R R1 w3 hRs hR1s HB3.out HRK.out HRP.out HP1.out (by omega) (by omega)
             have HS2C:=Lib.hid hs2
             clear hs2
             go_wp2_with fail
             (with_reducible refine HS2C.out.mono ?_)
             rintro e3 w4 ⟨rfl,R2,hR2s',hR2B,hR2p,hR2o⟩
             have hR2s:R2.size=n:=hR2s'.trans hR1s
             have HB4:=Lib.hid hR2B
             have HP2:=Lib.hid hR2p
             have HO2:=Lib.hid hR2o
             clear hR2s' hR2B hR2p hR2o
             go_wp2
             all_goals go_end0
             all_goals exact ⟨rfl,R2,hR2s.trans hdn.symm,HB4.out,FD.out R R1 R2 hRs HRK.out HRP.out HP1.out HO1.out HP2.out HO2.out⟩
           · have hq0 : (s : Int) < (mid : Int) := by omega
             have hq1:(mid:Int)<(e:Int):=by omega
             have hq2:(b:Int)≤(e:Int):=by omega
             have HROT:=Lib.hid (FROT.out (by omega) (by omega))
             go_wp2_with fail
             (with_reducible refine HROT.out.mono ?_)
             rintro e1 w2 ⟨rfl,R,hRs,hRB,hRk,hRp⟩
             have HB2:=Lib.hid hRB
             have HRK:=Lib.hid hRk
             have HRP:=Lib.hid hRp
             clear hRB hRk hRp
             have hs1:=FS1.out R w2 hRs HB2.out HRK.out HRP.out (by omega) (by omega)
             have HS1C:=Lib.hid hs1
             clear hs1
             go_wp2_with fail
             (with_reducible refine HS1C.out.mono ?_)
             rintro e2 w3 ⟨rfl,R1,hR1s',hR1B,hR1p,hR1o⟩
             have hR1s:R1.size=n:=hR1s'.trans hRs
             have HB3:=Lib.hid hR1B
             have HP1:=Lib.hid hR1p
             have HO1:=Lib.hid hR1o
             clear hR1s' hR1B hR1p hR1o
             have hR2s:R1.size=n:=hR1s
             have HB4:=Lib.hid HB3.out
             have HP2:=Lib.hid (permIn_refl R1 mid b)
             have HO2:=Lib.hid (FK2.out R R1 HRK.out HP1.out (by omega))
             go_wp2
             all_goals go_end0
             all_goals exact ⟨rfl,R1,hR2s.trans hdn.symm,HB4.out,FD.out R R1 R1 hRs HRK.out HRP.out HP1.out HO1.out HP2.out HO2.out⟩
         · by_cases hE1:e<b
           · have hq0 : (s : Int) < (mid : Int) := by omega
             have hq1:(mid:Int)<(e:Int):=by omega
             have hq2:(s:Int)≤(a:Int):=by omega
             have HROT:=Lib.hid (FROT.out (by omega) (by omega))
             go_wp2_with fail
             (with_reducible refine HROT.out.mono ?_)
             rintro e1 w2 ⟨rfl,R,hRs,hRB,hRk,hRp⟩
             have HB2:=Lib.hid hRB
             have HRK:=Lib.hid hRk
             have HRP:=Lib.hid hRp
             clear hRB hRk hRp
             have hR1s:R.size=n:=hRs
             have HB3:=Lib.hid HB2.out
             have HP1:=Lib.hid (permIn_refl R a mid)
             have HO1:=Lib.hid (FK1.out R HRK.out (by omega))
             have hs2:=FS2.out R R w2 hRs hR1s HB3.out HRK.out HRP.out HP1.out (by omega) (by omega)
             have HS2C:=Lib.hid hs2
             clear hs2
             go_wp2_with fail
             (with_reducible refine HS2C.out.mono ?_)
             rintro e3 w4 ⟨rfl,R2,hR2s',hR2B,hR2p,hR2o⟩
             have hR2s:R2.size=n:=hR2s'.trans hR1s
             have HB4:=Lib.hid hR2B
             have HP2:=Lib.hid hR2p
             have HO2:=Lib.hid hR2o
             clear hR2s' hR2B hR2p hR2o
             go_wp2
             all_goals go_end0
             all_goals exact ⟨rfl,R2,hR2s.trans hdn.symm,HB4.out,FD.out R R R2 hRs HRK.out HRP.out HP1.out HO1.out HP2.out HO2.out⟩
           · have hq0 : (s : Int) < (mid : Int) := by omega
             have hq1:(mid:Int)<(e:Int):=by omega
             have hq2:(s:Int)≤(a:Int):=by omega
             have hq3:(b:Int)≤(e:Int):=by omega
             have HROT:=Lib.hid (FROT.out (by omega) (by omega))
             go_wp2_with fail
             (with_reducible refine HROT.out.mono ?_)
             rintro e1 w2 ⟨rfl,R,hRs,hRB,hRk,hRp⟩
             have HB2:=Lib.hid hRB
             have HRK:=Lib.hid hRk
             have HRP:=Lib.hid hRp
             clear hRB hRk hRp
             have hR1s:R.size=n:=hRs
             have HB3:=Lib.hid HB2.out
             have HP1:=Lib.hid (permIn_refl R a mid)
             have HO1:=Lib.hid (FK1.out R HRK.out (by omega))
             have hR2s:R.size=n:=hR1s
             have HB4:=Lib.hid HB3.out
             have HP2:=Lib.hid (permIn_refl R mid b)
             have HO2:=Lib.hid (FK2.out R R HRK.out HP1.out (by omega))
             go_wp2
             all_goals go_end0
             all_goals exact ⟨rfl,R,hR2s.trans hdn.symm,HB4.out,FD.out R R R hRs HRK.out HRP.out HP1.out HO1.out HP2.out HO2.out⟩
       · have hq0 : (e : Int) ≤ (m : Int) := by omega
         have hq1:(mid:Int)≤(s:Int):=by omega
         have hq2:(a:Int)<(s:Int):=by omega
         have hq3:(e:Int)<(b:Int):=by omega
         have hq4:(mid:Int)<(e:Int):=by omega
         have hRs:d.size=n:=hdn
         have HB2:=Lib.hid HSk.out
         have HRK:=Lib.hid (zc1 d s m e (by omega) (by omega) (by omega))
         have HRP:=Lib.hid (permIn_refl d a b)
         have hR1s:d.size=n:=hRs
         have HB3:=Lib.hid HB2.out
         have HP1:=Lib.hid (permIn_refl d a mid)
         have HO1:=Lib.hid (FK1.out d HRK.out (by omega))
         have hs2:=FS2.out d d wr hRs hR1s HB3.out HRK.out HRP.out HP1.out (by omega) (by omega)
         have HS2C:=Lib.hid hs2
         clear hs2
         go_wp2_with fail
         all_goals
           (with_reducible refine HS2C.out.mono ?_)
           rintro e3 w4 ⟨rfl,R2,hR2s',hR2B,hR2p,hR2o⟩
           have hR2s:R2.size=n:=hR2s'.trans hR1s
           have HB4:=Lib.hid hR2B
           have HP2:=Lib.hid hR2p
           have HO2:=Lib.hid hR2o
           clear hR2s' hR2B hR2p hR2o
           go_wp2
           all_goals go_end0
           all_goals exact ⟨rfl,R2,hR2s.trans hdn.symm,HB4.out,FD.out d d R2 hRs HRK.out HRP.out HP1.out HO1.out HP2.out HO2.out⟩
     · by_cases hB1:m<e
       · have hq0 : (m : Int) ≤ (s : Int) := by omega
         have hq1:(s:Int)<(mid:Int):=by omega
         have hq2:(a:Int)<(s:Int):=by omega
         have hq3:(e:Int)<(b:Int):=by omega
         have hq4:(e:Int)≤(mid:Int):=by omega
         have hRs:d.size=n:=hdn
         have HB2:=Lib.hid HSk.out
         have HRK:=Lib.hid (zc1 d s m e (by omega) (by omega) (by omega))
         have HRP:=Lib.hid (permIn_refl d a b)
         have hs1:=FS1.out d wr hRs HB2.out HRK.out HRP.out (by omega) (by omega)
         have HS1C:=Lib.hid hs1
         clear hs1
         go_wp2_with fail
         all_goals
           (with_reducible refine HS1C.out.mono ?_)
           rintro e2 w3 ⟨rfl,R1,hR1s',hR1B,hR1p,hR1o⟩
           have hR1s:R1.size=n:=hR1s'.trans hRs
           have HB3:=Lib.hid hR1B
           have HP1:=Lib.hid hR1p
           have HO1:=Lib.hid hR1o
           clear hR1s' hR1B hR1p hR1o
           have hR2s:R1.size=n:=hR1s
           have HB4:=Lib.hid HB3.out
           have HP2:=Lib.hid (permIn_refl R1 mid b)
           have HO2:=Lib.hid (FK2.out d R1 HRK.out HP1.out (by omega))
           go_wp2
           all_goals go_end0
           all_goals exact ⟨rfl,R1,hR2s.trans hdn.symm,HB4.out,FD.out d R1 R1 hRs HRK.out HRP.out HP1.out HO1.out HP2.out HO2.out⟩
       · have hq0 : (m : Int) ≤ (s : Int) := by omega
         have hq1:(e:Int)≤(m:Int):=by omega
         have hq2:(mid:Int)≤(s:Int):=by omega
         have hq3:(a:Int)<(s:Int):=by omega
         have hq4:(e:Int)<(b:Int):=by omega
         have hq5:(e:Int)≤(mid:Int):=by omega
         have hRs:d.size=n:=hdn
         have HB2:=Lib.hid HSk.out
         have HRK:=Lib.hid (zc1 d s m e (by omega) (by omega) (by omega))
         have HRP:=Lib.hid (permIn_refl d a b)
         have hR1s:d.size=n:=hRs
         have HB3:=Lib.hid HB2.out
         have HP1:=Lib.hid (permIn_refl d a mid)
         have HO1:=Lib.hid (FK1.out d HRK.out (by omega))
         have hR2s:d.size=n:=hR1s
         have HB4:=Lib.hid HB3.out
         have HP2:=Lib.hid (permIn_refl d mid b)
         have HO2:=Lib.hid (FK2.out d d HRK.out HP1.out (by omega))
         go_wp2
         all_goals
           all_goals go_end0
           all_goals exact ⟨rfl,d,hR2s.trans hdn.symm,HB4.out,FD.out d d d hRs HRK.out HRP.out HP1.out HO1.out HP2.out HO2.out⟩
end Go.Proofs.YtkhcjoomijkfbaaGreatDoor
