/-
  Our texts ZnAd1 to ArgsZ, in one.
-/
import Derived.Test.YtkhcjoomijkfbaaGreatDoorPkT13
import Derived.BigQuiet
import Derived.Deep.RegionHeld3
import Derived.Deep.Cut
import Derived.Deep.CutRange
import Derived.Deep.CutBlock
import Derived.BigRegion
import Derived.Deep.RegionHeld
import Derived.Maps.OwnSet
import Derived.WideKeyArr
import Derived.Maps.OwnOps
import Derived.Lib.SlBytesConst
import Derived.Lib.SmallJoins
import Derived.Defers
import Derived.Test.YtkhcjoomijkfbaaGreatDoorRows
import Derived.ProofKit
import Derived.OpenShut
import Derived.Test.YtkhcjoomijkfbaaGreatDoorProg
import Derived.ChangeSlices
set_option maxRecDepth 8000
set_option maxHeartbeats 8000000
namespace Go.Proofs.YtkhcjoomijkfbaaGreatDoor.Z
open Go.RowKit
theorem zhp:∀(l:List UInt8) (x:UInt8) (a b:Nat),adS (l++[x]) a b=(((adS l a b).1+x.toNat),((adS l a b).2+((adS l a b).1+x.toNat)))
 | [],x,a,b=>rfl
 | y::l,x,a,b=>by rw [List.cons_append,adS,adS,zhp l x]
theorem zgJ (b:List UInt8) (i:Nat) (h:i<b.length):b.take (i+1)=b.take i++[b.getD i 0]:=by
 rw [List.take_add_one,List.getD_eq_getElem?_getD,List.getElem?_eq_getElem h];rfl
theorem own_four {w:World} {p q r t:Value}:(w.alloc (.cells #[p,q,r,t] 5)).ownsRow w.heap.size 5 1 (.slice (some ⟨w.heap.size,0,none⟩) 4 4) 4 [p,q,r,t] :=
 ⟨rfl,.inr ⟨w.heap.size,4,_,rfl,Nat.le_refl _,zac _ rfl,Nat.le_refl _,by unfold maxLen;omega,rfl,rfl⟩⟩
theorem by4_cells {x : Nat} (hx : x < 4294967296) : ((by4 x).map fun b => Value.int .u8 b.toNat) = [.int .u8 ((x : Int) / 16777216), .int .u8 ((x : Int) / 65536 % 256), .int .u8 ((x : Int) / 256 % 256), .int .u8 ((x : Int) % 256)] := by
 have e:∀a,a<256→(UInt8.ofNat a).toNat=a:=fun a ha=>by rw [UInt8.toNat_ofNat'];exact Nat.mod_eq_of_lt ha
 unfold by4
 simp only [List.map_cons,List.map_nil]
 rw [e _ (by omega),e _ (by omega),e _ (by omega),e _ (by omega)]
 rfl
theorem abytes_any {w : World} {x : Nat} (hx : x < 4294967296) : Calls Tryz.prog 105 #[.int .u32 x] w fun e w' => ∃ v, e = .returned v ∧ w'.ownsRow w.heap.size 5 1 v 4 ((by4 x).map fun b => .int .u8 b.toNat) ∧ Below w.heap.size w w' := by
 have HB:=Lib.hid (by4_cells hx)
 go_enter Tryz.func105,Tryz.ntmps105
 go_wp2_with fail
 go_ret
 exact ⟨_,rfl,by rw [HB.out];exact own_four,zah w _⟩
theorem or_halves {x y:Nat} (hx:x<65536) (hy:y<65536):bits .or .u32 ((y:Int) * 65536) (x:Int)=((65536 * y+x:Nat):Int):=by
 rw [show ((y:Int) * 65536)=((65536 * y:Nat):Int) from by omega,u32_or_nat _ _ (by omega) (by omega)]
 have h:=Nat.two_pow_add_eq_or_of_lt (i:=16) (b:=x) (by omega) y
 rw [show (2:Nat) ^ 16=65536 from rfl] at h
 rw [h]
theorem avalue_any {w:World} {hb x y:Nat} (hx:x<65521) (hy:y<65521) (c0:w.cell? ⟨hb,0,none⟩=some (.int .u32 x)) (c1:w.cell? ⟨hb,1,none⟩=some (.int .u32 y)) :
   Calls Tryz.prog 146 #[.pointer (some ⟨hb,0,none⟩)] w fun e w'=>e=.returned (.int .u32 (65536 * y+(x+1) % 65521:Nat))∧∃q,w'=w.drewN q:=by
 have HO:=Lib.hid (or_halves (x:=(x+1) % 65521) (y:=y) (by omega) (by omega))
 go_enter Tryz.func146,Tryz.ntmps146
 go_wp2_with fail
 go_quiet (fail)
 go_wp2_with fail
 go_ret
 refine ⟨?_,_,rfl⟩
 show Ending.returned (.int .u32 (bits .or .u32 ((y:Int) * 65536) (((x:Int)+1) % 65521)))=_
 rw [←HO.out]
 rfl
def TakeEnd (w:World) (hb x y:Nat) (e:Ending) (w':World):Prop:=e=.returned (.tuple #[])∧∃q,w'=((w.setCell ⟨hb,0,none⟩ (.int .u32 ((x+65520) % 65521:Nat))).setCell ⟨hb,1,none⟩ (.int .u32 (y:Nat))).drewN q
theorem and15 (x:Nat) (h:x<256):bits .and .u8 (x:Int) 15=((x % 16:Nat):Int):=by
 rw [show (15:Int)=((15:Nat):Int) from rfl,u8_and_nat x 15 h (by omega)]
 have:∀k:Fin 256,k.1 &&& 15=k.1 % 16:=by decide +kernel
 rw [this ⟨x,h⟩]
theorem and32 (x:Nat) (h:x<256):bits .and .u8 (x:Int) 32=((x / 32 % 2 * 32:Nat):Int):=by
 rw [show (32:Int)=((32:Nat):Int) from rfl,u8_and_nat x 32 h (by omega)]
 have:∀k:Fin 256,k.1 &&& 32=k.1 / 32 % 2 * 32:=by decide +kernel
 rw [this ⟨x,h⟩]
theorem or256 (x y:Nat) (hx:x<256) (hy:y<256):bits .or .i64 ((x:Int) * 256) (y:Int)=((256 * x+y:Nat):Int):=by
 rw [show ((x:Int) * 256)=((256 * x:Nat):Int) from by omega,zhb _ _ (by omega) (by omega)]
 have h:=Nat.two_pow_add_eq_or_of_lt (i:=8) (b:=y) (by omega) x
 rw [show (2:Nat) ^ 8=256 from rfl] at h
 rw [h]
def chk2 (x y:Nat):Int:=if x % 16≠8∨7<x / 16∨y / 32 % 2≠0∨(256 * x+y) % 31≠0 then 11 else 0
def zg4 (w:World) (v:Int) (e:Ending) (w':World):Prop:=e=.returned (.int .i64 v)∧∃q,w'=w.drewN q
theorem zeA {w:World} {b off n cap x y:Nat} (hn:2≤n) (_hc:n≤cap) (_hcm:cap≤9223372036854775807) (z0:w.cell? ⟨b,off,none⟩=some (.int .u8 x)) (z1:w.cell? ⟨b,off+1,none⟩=some (.int .u8 y)) (hx:x<256) (hy:y<256) :
   Calls Tryz.prog 102 #[.slice (some ⟨b,off,none⟩) n cap] w (zg4 w (chk2 x y)):=by
 have d0:decide ((n:Int)<2)=false:=decide_eq_false (by omega)
 have h0:(0:Int)<(n:Int):=by omega
 have h1:(1:Int)<(n:Int):=by omega
 have hA:=and15 x hx
 have hB:=and32 y hy
 have hC:=or256 x y hx hy
 by_cases c1:x % 16=8
 case neg =>
   have HV:=Lib.hid (show chk2 x y=11 from by unfold chk2;rw [if_pos (.inl c1)])
   have e1:((x:Int) % 16 != 8)=true:=by rw [bne_iff_ne];omega
   clear hA hB hC
   go_enter Tryz.func102,Tryz.ntmps102
   go_wp2_with fail
   go_quiet (fail)
   go_wp2_with fail
   go_ret
   exact ⟨zan HV.out.symm,_,rfl⟩
 have e1:((x:Int) % 16 != 8)=false:=by rw [bne_eq_false_iff_eq];omega
 by_cases c2:7<x / 16
 · have HV := Lib.hid (show chk2 x y = 11 from by unfold chk2; rw [if_pos (.inr (.inl c2))])
   have e2:decide ((x:Int) / 16 > 7)=true:=decide_eq_true (by omega)
   clear hA hB hC
   go_enter Tryz.func102,Tryz.ntmps102
   go_wp2_with fail
   go_quiet (fail)
   go_wp2_with fail
   go_ret
   exact ⟨zan HV.out.symm,_,rfl⟩
 have e2:decide ((x:Int) / 16 > 7)=false:=decide_eq_false (by omega)
 by_cases c3:y / 32 % 2=0
 case neg =>
   have HV:=Lib.hid (show chk2 x y=11 from by unfold chk2;rw [if_pos (.inr (.inr (.inl c3)))])
   have e3:(bits .and .u8 (y:Int) 32 != 0)=true:=by rw [hB,bne_iff_ne];omega
   clear hA hB hC
   go_enter Tryz.func102,Tryz.ntmps102
   go_wp2_with fail
   go_quiet (fail)
   go_wp2_with fail
   go_ret
   exact ⟨zan HV.out.symm,_,rfl⟩
 have e3:(bits .and .u8 (y:Int) 32 != 0)=false:=by rw [hB,bne_eq_false_iff_eq];omega
 by_cases c4:(256 * x+y) % 31=0
 · have HV := Lib.hid (show chk2 x y = 0 from by unfold chk2; rw [if_neg (by omega)])
   have e4:((bits .or .i64 ((x:Int) * 256) (y:Int)).tmod 31 != 0)=false:=by rw [hC,Int.tmod_eq_emod_of_nonneg (by omega),bne_eq_false_iff_eq];omega
   clear hA hB hC
   go_enter Tryz.func102,Tryz.ntmps102
   go_wp2_with fail
   go_quiet (fail)
   go_wp2_with fail
   go_ret
   exact ⟨zan HV.out.symm,_,rfl⟩
 · have HV := Lib.hid (show chk2 x y = 11 from by unfold chk2; rw [if_pos (.inr (.inr (.inr c4)))])
   have e4:((bits .or .i64 ((x:Int) * 256) (y:Int)).tmod 31 != 0)=true:=by rw [hC,Int.tmod_eq_emod_of_nonneg (by omega),bne_iff_ne];omega
   clear hA hB hC
   go_enter Tryz.func102,Tryz.ntmps102
   go_wp2_with fail
   go_quiet (fail)
   go_wp2_with fail
   go_ret
   exact ⟨zan HV.out.symm,_,rfl⟩
theorem chkV_two {b:List UInt8} (h:2≤b.length):chkV b=chk2 (b.getD 0 0).toNat (b.getD 1 0).toNat:=by
 unfold chkV chk2
 rw [if_neg (by omega)]
theorem zcI {w : World} {a : Option Addr} {n cap : Nat} {b : List UInt8} (hr : Row w 1 a n cap (b.map fun x => .int .u8 x.toNat)) : Calls Tryz.prog 102 #[.slice a n cap] w (zg4 w (chkV b)) := by
 have hl:b.length=n:=by have:=hr.1;simpa using this
 have hcapm:=hr.2.2.1
 have hcapn:=hr.2.1
 unfold maxLen at hcapm
 by_cases h2:n<2
 · have HV := Lib.hid (show chkV b = 10 from by unfold chkV; rw [if_pos (by omega)])
   have d0:decide ((n:Int)<2)=true:=decide_eq_true (by omega)
   clear hr
   go_enter Tryz.func102,Tryz.ntmps102
   go_wp2
   go_ret
   exact ⟨zan HV.out.symm,0,rfl⟩
 · obtain ⟨bb, off, rfl, -, hcc⟩ := hr.at 0 0 (by omega)
   rw [chkV_two (by omega)]
   exact zeA (by omega) hcapn (by omega) (hcc 0 (by omega)) (hcc 1 (by omega)) (UInt8.toNat_lt _) (UInt8.toNat_lt _)
end Go.Proofs.YtkhcjoomijkfbaaGreatDoor.Z
namespace Go.Proofs.YtkhcjoomijkfbaaGreatDoor.Z
open Go.RowKit Go.Sort
def rC (a:Option Addr) (L c at_:Nat) (e:Int) (v:Value) (most:Nat):Array Value:=#[.slice a L c,.int .i64 at_,.int .i64 e,v,.int .i64 most]
def rE (a:Option Addr) (L c at_:Nat) (e:Int) (v:Value) (most:Nat) (i:Nat):Value:=if i=0 then .slice a L c else if i=1 then .int .i64 at_ else if i=2 then .int .i64 e else if i=3 then v else .int .i64 most
def bitR (bs:List UInt8):List Value:=(bl bs false 0 (8 * bs.length)).map Value.bool
structure IsR (w:World) (U:Nat→Prop) (rb:Nat) (a:Option Addr) (c:Nat) (bs:List UInt8) (most:Nat) (s:IS):Prop where
 ex:∃v,w.heap[rb]?=some (.cells (rC a (8 * bs.length) c s.at_ s.e v most) 227 (0,0))∧w.ownsRow (rb+1) 5 1 v s.out.length (s.out.map u8C)∧∀b,v.ownBlock=some b→U b
 row:Row w 1 a (8 * bs.length) c (bitR bs)
 lt:∀x,a=some x→x.block<rb
 le:s.at_≤8 * bs.length
 own:U rb
 ult:∀b,U b→rb≤b∧b<w.heap.size
def zhU (w:World) (U:Nat→Prop) (rb:Nat) (a:Option Addr) (c:Nat) (bs:List UInt8) (most:Nat) (s:IS) (w':World):Prop:=∃U',IsR w' U' rb a c bs most s∧Keeps U w w'∧∀b,U' b→U b∨w.heap.size≤b
section
variable {w w' : World} {U : Nat → Prop} {rb : Nat} {a : Option Addr} {c : Nat} {bs : List UInt8} {most : Nat} {s : IS}
theorem IsR.blt (h:IsR w U rb a c bs most s) {b:Nat} (hb:U b):b<w.heap.size:=(h.ult b hb).2
theorem IsR.keeps {V:Nat→Prop} (h:IsR w U rb a c bs most s) (hk:Keeps V w w') (hV:∀b,b<rb∨U b→¬V b):IsR w' U rb a c bs most s:=by
 obtain ⟨⟨v,h1,h2,h3⟩,h4,h5,h6,h7,h8⟩:=h
 exact ⟨⟨v,hk.obj h1 (hV rb (.inr h7)),za8 h2 hk (fun b hb=>hV b (.inr (h3 b hb))),h3⟩,h4.keeps hk (fun x hx=>hV _ (.inl (h5 x hx))),h5,h6,h7,fun b hb=>⟨(h8 b hb).1,Nat.lt_of_lt_of_le (h8 b hb).2 hk.size⟩⟩
theorem IsR.mono (h:IsR w U rb a c bs most s) (hb:Below w.heap.size w w'):IsR w' U rb a c bs most s :=
 h.keeps (Keeps.of_below (S := fun b => w.heap.size ≤ b) hb (fun _ h => h)) (fun b hb2 hn => by
   have:=h.blt h.own
   rcases hb2 with h1|h1
   · omega
   · have:=h.blt h1;omega)
theorem IsR.cells (h:IsR w U rb a c bs most s) :
   w.cell? ⟨rb,0,none⟩=some (.slice a (8 * bs.length) c)∧w.cell? ⟨rb,1,none⟩=some (.int .i64 s.at_)∧w.cell? ⟨rb,2,none⟩=some (.int .i64 s.e)∧w.cell? ⟨rb,4,none⟩=some (.int .i64 most)∧w.frozen? ⟨rb,1,none⟩=false∧w.frozen? ⟨rb,2,none⟩=false∧w.frozen? ⟨rb,3,none⟩=false:=by
 obtain ⟨⟨v,h1,-⟩,-⟩:=h
 refine ⟨?_,?_,?_,?_,frozen_of_row w rb 1 _ _ h1,frozen_of_row w rb 2 _ _ h1,frozen_of_row w rb 3 _ _ h1⟩<;>(rw [cell_of_row w rb _ _ _ _ h1];rfl)
theorem IsR.drewN (h:IsR w U rb a c bs most s) (q:Nat):IsR (w.drewN q) U rb a c bs most s∧Keeps U w (w.drewN q) :=
 ⟨h.keeps ((Keeps.refl (fun _=>False) w).drewN q) (fun _ _ h=>h),(Keeps.refl U w).drewN q⟩
theorem IsR.setE (h:IsR w U rb a c bs most s) (e:Int):IsR (w.setCell ⟨rb,2,none⟩ (.int .i64 e)) U rb a c bs most { s with e:=e }∧Keeps U w (w.setCell ⟨rb,2,none⟩ (.int .i64 e)):=by
 have hk:Keeps (fun b=>b=rb) w (w.setCell ⟨rb,2,none⟩ (.int .i64 e)):=Keeps.setCell (S:=fun b=>b=rb) (Keeps.refl _ w) (a:=⟨rb,2,none⟩) (.inl rfl) _
 obtain ⟨⟨v,h1,h2,h3⟩,h4,h5,h6,h7,h8⟩:=h
 refine ⟨⟨⟨v,?_,za8 h2 hk (fun b hb e=>by have:=(h2.lt b hb).1;omega),h3⟩,h4.keeps hk (fun x hx e=>by have:=h5 x hx;omega),h5,h6,h7,fun b hb=>⟨(h8 b hb).1,Nat.lt_of_lt_of_le (h8 b hb).2 hk.size⟩⟩,hk.weaken (fun b hb=>hb▸h7)⟩
 have:=zby (w:=w) (b:=rb) (n:=5) (enc:=rE a (8 * bs.length) c s.at_ s.e v most) (t:=227) h1 2 (.int .i64 e)
 exact this
theorem zhU.trans {w1 w2:World} {U1:Nat→Prop} (hk:Keeps U w w1) (hs:∀b,U1 b→U b∨w.heap.size≤b) (h2:zhU w1 U1 rb a c bs most s w2):zhU w U rb a c bs most s w2:=by
 obtain ⟨U2,h3,h4,h5⟩:=h2
 have:=hk.size
 exact ⟨U2,h3,hk.trans h4 hs,fun b hb=>(h5 b hb).elim (hs b) (fun h=>.inr (by omega))⟩
end
end Go.Proofs.YtkhcjoomijkfbaaGreatDoor.Z
namespace Go.Proofs.YtkhcjoomijkfbaaGreatDoor.Z
open Go.RowKit Go.Sort
theorem IsR.putOut {w w1:World} {U:Nat→Prop} {rb:Nat} {a:Option Addr} {c:Nat} {bs:List UInt8} {most:Nat} {s:IS} {v v':Value} {o:Obj} {x:UInt8} (h:IsR w U rb a c bs most s) (hv:w.heap[rb]?=some (.cells (rC a (8 * bs.length) c s.at_ s.e v most) 227 (0,0))) (hO:w.ownsRow (rb+1) 5 1 v s.out.length (s.out.map u8C)) (hU:∀b,v.ownBlock=some b→U b)
   (hO':w1.ownsRow (rb+1) 5 1 v' (s.out.length+1) (s.out.map u8C++[u8C x])) (hg:(w.alloc o).grownBy w1 v.ownBlock) (hN:zhX (w.alloc o) v v') :
   zhU w U rb a c bs most { s with out:=s.out++[x] } (w1.setCell ⟨rb,3,none⟩ v'):=by
 have hk:Keeps (fun b=>v.ownBlock=some b) w w1:=((Keeps.refl _ w).alloc o).grown hg (fun k hk=>.inl hk)
 have hk2:Keeps (fun b=>b=rb) w1 (w1.setCell ⟨rb,3,none⟩ v'):=Keeps.setCell (S:=fun b=>b=rb) (Keeps.refl _ w1) (a:=⟨rb,3,none⟩) (.inl rfl) _
 have hsz:=hk.size
 have hult:=h.ult
 have hrb:=h.blt h.own
 have hrb1:w1.heap[rb]?=some (.cells (rC a (8 * bs.length) c s.at_ s.e v most) 227 (0,0)):=hk.obj hv (fun e=>by have:=(hO.lt rb e).1;omega)
 have hkU:Keeps U w w1:=hk.weaken hU
 refine ⟨fun b=>U b∨v'.ownBlock=some b,⟨⟨v',?_,?_,fun b hb=>.inr hb⟩,(h.row.keeps hk (fun y hy e=>by have:=(hO.lt _ e).1;have:=h.lt y hy;omega)).keeps hk2 (fun y hy e=>by have:=h.lt y hy;omega),h.lt,h.le,.inl h.own,fun b hb=>?_⟩,hkU.trans hk2 (fun b hb=>.inl (hb▸h.own)),fun b hb=>?_⟩
 · have:=zby (w:=w1) (b:=rb) (n:=5) (enc:=rE a (8 * bs.length) c s.at_ s.e v most) (t:=227) hrb1 3 v'
   exact this
 · have h3 := za8 hO' hk2 (fun b hb e => by have := (hO'.lt b hb).1; omega)
   show World.ownsRow _ _ _ _ v' (s.out++[x]).length ((s.out++[x]).map u8C)
   rw [List.length_append,List.map_append]
   exact h3
 · have hs2:=hk2.size
   rcases hb with hb|hb
   · have:=hult b hb
     exact ⟨this.1,by omega⟩
   · have:=hO'.lt b hb
     exact ⟨by omega,by omega⟩
 · rcases hb with hb|hb
   · exact .inl hb
   · rcases hN b hb with e|e
     · exact .inl (hU b e)
     · rw [zal] at e;exact .inr (by omega)
theorem IsR.next {w w':World} {U:Nat→Prop} {rb:Nat} {a:Option Addr} {c:Nat} {bs:List UInt8} {most:Nat} {s:IS} (h:IsR w' U rb a c bs most s∧Keeps U w w'):zhU w U rb a c bs most s w':=⟨U,h.1,h.2,fun _ h=>.inl h⟩
structure CdR (w:World) (U:Nat→Prop) (al:Option Addr) (n cap:Nat) (vc:Value) (l:List Int):Prop where
 room:0≤zaY l
 row:Row w 1 al n cap (l.map (Value.int .i64))
 cds:∃aC cC,vc=.slice aC n cC∧Row w 1 aC n cC (fl n (cdV l n))∧∀x,aC=some x→x.block<w.heap.size∧¬U x.block
 at_:∀x,al=some x→x.block<w.heap.size∧¬U x.block
theorem CdR.keeps {w w':World} {U U':Nat→Prop} {al:Option Addr} {n cap:Nat} {vc:Value} {l:List Int} (h:CdR w U al n cap vc l) (hk:Keeps U w w') (hU:∀b,U' b→U b∨w.heap.size≤b):CdR w' U' al n cap vc l:=by
 obtain ⟨h1,h2,⟨aC,cC,h3,h4,h5⟩,h6⟩:=h
 have hs:=hk.size
 have hh:∀b,b<w.heap.size∧¬U b→b<w'.heap.size∧¬U' b:=fun b hb=>⟨by omega,fun hu=>(hU b hu).elim hb.2 (fun h=>by omega)⟩
 exact ⟨h1,h2.keeps hk (fun x hx=>(h6 x hx).2),⟨aC,cC,h3,h4.keeps hk (fun x hx=>(h5 x hx).2),fun x hx=>hh _ (h5 x hx)⟩,fun x hx=>hh _ (h6 x hx)⟩
structure LrAt (w wr:World) (U:Nat→Prop) (rb:Nat) (a:Option Addr) (c:Nat) (bs:List UInt8) (most:Nat) (al:Option Addr) (nl cl:Nat) (vc:Value) (l:List Int) (n:Nat) (vo:Value) (out:List Int) (s:IS):Prop where
 st:IsR wr U rb a c bs most s
 k:Keeps U w wr
 t:s.e=0→CdR wr U al nl cl vc l∧(∀x,al=some x→x.block<w.heap.size)∧∀aC nC cC,vc=.slice aC nC cC→∀x,aC=some x→x.block<w.heap.size
 row:wr.ownsRow w.heap.size 3 1 vo out.length (iV out)
 len:out.length≤n
 o:∀b,U b→b<w.heap.size
theorem LrAt.next {w wr w':World} {U:Nat→Prop} {rb:Nat} {a:Option Addr} {c:Nat} {bs:List UInt8} {most:Nat} {al:Option Addr} {nl cl:Nat} {vc:Value} {l:List Int} {n:Nat} {vo:Value} {out:List Int} {s s2:IS} (h:LrAt w wr U rb a c bs most al nl cl vc l n vo out s) (h1:IsR w' U rb a c bs most s2) (h2:Keeps U wr w') (he:s2.e=0→s.e=0):LrAt w w' U rb a c bs most al nl cl vc l n vo out s2 :=
 ⟨h1,h.k.trans h2 (fun _ hb=>.inl hb),(fun h0=>⟨(h.t (he h0)).1.keeps h2 (fun _ hb=>.inl hb),(h.t (he h0)).2⟩),za8 h.row h2 (fun b hb hu=>by have:=(h.row.lt b hb).1;have:=h.o b hu;omega),h.len,h.o⟩
theorem LrAt.app {w wr w5:World} {U:Nat→Prop} {rb:Nat} {a:Option Addr} {c:Nat} {bs:List UInt8} {most:Nat} {al:Option Addr} {nl cl:Nat} {vc:Value} {l:List Int} {n:Nat} {vo v':Value} {out:List Int} {s:IS} {o:Obj} {x:Int} (h:LrAt w wr U rb a c bs most al nl cl vc l n vo out s) (hO:w5.ownsRow w.heap.size 3 1 v' (out.length+1) (iV out++[.int .i64 x])) (hg:(wr.alloc o).grownBy w5 vo.ownBlock) (hl:out.length+1≤n) :
   LrAt w w5 U rb a c bs most al nl cl vc l n v' (out++[x]) s:=by
 have hk:Keeps (fun b=>vo.ownBlock=some b) wr w5:=((Keeps.refl _ wr).alloc o).grown hg (fun k hk=>.inl hk)
 have hlo:∀b,vo.ownBlock=some b→w.heap.size≤b:=fun b hb=>(h.row.lt b hb).1
 have hr:=h.o rb h.st.own
 have hsz:=hk.size
 refine ⟨h.st.keeps hk (fun b hb e=>?_),h.k.trans hk (fun b hb=>.inr (hlo b hb)),fun h0=>?_,?_,by simp;omega,h.o⟩
 · have:=hlo b e
   rcases hb with hb|hb
   · omega
   · have:=h.o b hb;omega
 · obtain ⟨⟨t1,t2,⟨aC,cC,t3,t4,t5⟩,t6⟩,t7,t8⟩:=h.t h0
   exact ⟨⟨t1,t2.keeps hk (fun y hy e=>by have:=hlo _ e;have:=t7 y hy;omega),⟨aC,cC,t3,t4.keeps hk (fun y hy e=>by have:=hlo _ e;have:=t8 _ _ _ t3 y hy;omega),fun y hy=>⟨by have:=(t5 y hy).1;omega,(t5 y hy).2⟩⟩,fun y hy=>⟨by have:=(t6 y hy).1;omega,(t6 y hy).2⟩⟩,t7,t8⟩
 · rw [List.length_append,iV,List.map_append]
   exact hO
set_option maxRecDepth 20000 in
theorem MO.code (bs:List UInt8) (most:Nat) (l d:List Int) (s:IS):MO (zaG bs l s).2 (zcc bs most l d s).2:=by
 unfold zcc
 simp only
 split
 · exact MO.refl _
 · split
   · exact MO.put _ _ _
   · exact (((((MO.ifF _ _).trans (MO.num bs _ _)).trans (MO.sym bs d _)).trans (MO.ifF _ _)).trans (MO.num bs _ _)).trans (MO.rep _ _ _ _)
structure RMid (w wr:World) (U U1:Nat→Prop) (rb:Nat) (a:Option Addr) (c:Nat) (bs:List UInt8) (most:Nat) (al:Option Addr) (nl cl:Nat) (v1:Value) (l:List Int) (ad:Option Addr) (nd cd:Nat) (v2:Value) (d:List Int) (s:IS):Prop where
 st:IsR wr U1 rb a c bs most s
 k:Keeps U w wr
 u:∀b,U1 b→U b∨w.heap.size≤b
 t:s.e=0→CdR wr U1 al nl cl v1 l
 d:s.e=0→CdR wr U1 ad nd cd v2 d
 o:s.out.length≤most
theorem RMid.next {w wr w':World} {U U1:Nat→Prop} {rb:Nat} {a:Option Addr} {c:Nat} {bs:List UInt8} {most:Nat} {al:Option Addr} {nl cl:Nat} {v1:Value} {l:List Int} {ad:Option Addr} {nd cd:Nat} {v2:Value} {d:List Int} {s s2:IS} (h:RMid w wr U U1 rb a c bs most al nl cl v1 l ad nd cd v2 d s) (h1:IsR w' U1 rb a c bs most s2) (h2:Keeps U1 wr w') (he:s2.e=0→s.e=0) (ho:s2.out.length≤most):RMid w w' U U1 rb a c bs most al nl cl v1 l ad nd cd v2 d s2 :=
 ⟨h1,h.k.trans h2 h.u,h.u,fun h0=>(h.t (he h0)).keeps h2 (fun _ hb=>.inl hb),fun h0=>(h.d (he h0)).keeps h2 (fun _ hb=>.inl hb),ho⟩
theorem RMid.nextU {w wr w':World} {U U1:Nat→Prop} {rb:Nat} {a:Option Addr} {c:Nat} {bs:List UInt8} {most:Nat} {al:Option Addr} {nl cl:Nat} {v1:Value} {l:List Int} {ad:Option Addr} {nd cd:Nat} {v2:Value} {d:List Int} {s s2:IS} (h:RMid w wr U U1 rb a c bs most al nl cl v1 l ad nd cd v2 d s) (h1:zhU wr U1 rb a c bs most s2 w') (he:s2.e=0→s.e=0) (ho:s2.out.length≤most):∃U2,RMid w w' U U2 rb a c bs most al nl cl v1 l ad nd cd v2 d s2:=by
 obtain ⟨U2,g1,g2,g3⟩:=h1
 have:=h.k.size
 exact ⟨U2,g1,h.k.trans g2 h.u,fun b hb=>(g3 b hb).elim (h.u b) (fun h=>.inr (by omega)),fun h0=>(h.t (he h0)).keeps g2 g3,fun h0=>(h.d (he h0)).keeps g2 g3,ho⟩
def RrAt (w wr:World) (U:Nat→Prop) (rb:Nat) (a:Option Addr) (c:Nat) (bs:List UInt8) (most:Nat) (s:IS) (far len j:Nat):Prop :=
 ∃U1 s1,IsR wr U1 rb a c bs most s1∧Keeps U w wr∧(∀b,U1 b→U b∨w.heap.size≤b)∧s1.e=s.e∧s1.at_=s.at_∧s1.out.length=s.out.length+j∧repL far (len-j) s1.out=repL far len s.out
theorem RrAt.fin {w wr:World} {U:Nat→Prop} {rb:Nat} {a:Option Addr} {c:Nat} {bs:List UInt8} {most:Nat} {s:IS} {far len:Nat} (h:RrAt w wr U rb a c bs most s far len len):zhU w U rb a c bs most { s with out:=repL far len s.out } wr:=by
 obtain ⟨U1,s1,h1,h2,h3,h4,h5,h6,h7⟩:=h
 rw [Nat.sub_self] at h7
 have:s1={ s with out:=repL far len s.out }:=by
   obtain ⟨a,e,o⟩:=s1
   simp only at h4 h5
   simp only [repL] at h7
   rw [h4,h5,h7]
 rw [←this]
 exact ⟨U1,h1,h2,h3⟩
theorem RrAt.next {w wr w':World} {U U1:Nat→Prop} {rb:Nat} {a:Option Addr} {c:Nat} {bs:List UInt8} {most:Nat} {s s1:IS} {far len j:Nat} (h2:Keeps U w wr) (h3:∀b,U1 b→U b∨w.heap.size≤b) (h4:s1.e=s.e) (h5:s1.at_=s.at_) (h6:s1.out.length=s.out.length+j) (h7:repL far (len-j) s1.out=repL far len s.out) (hj:j<len)
   (hn:zhU wr U1 rb a c bs most { s1 with out:=s1.out++[s1.out.getD (s1.out.length-far) 0] } w'):RrAt w w' U rb a c bs most s far len (j+1):=by
 obtain ⟨U2,g1,g2,g3⟩:=zhU.trans h2 h3 hn
 refine ⟨U2,_,g1,g2,g3,h4,h5,by simp;omega,?_⟩
 rw [←h7,show len-j=(len-(j+1))+1 by omega]
 rfl
structure OfR (w wr:World) (U:Nat→Prop) (rb g:Nat) (a:Option Addr) (c:Nat) (bs:List UInt8) (most:Nat) (V:List Int×IS):Prop where
 st:IsR wr U rb a c bs most V.2
 k:Keeps U w wr
 row:wr.heap[g]?=some (.cells (fl 19 fun i=>.int .i64 (V.1.getD i 0)).toArray 3 (0,0))
 g:∀b,U b→b<g
theorem OfR.num {w wr w':World} {U:Nat→Prop} {rb g:Nat} {a:Option Addr} {c:Nat} {bs:List UInt8} {most:Nat} {V:List Int×IS} {s:IS} (h:OfR w wr U rb g a c bs most V) (h1:IsR w' U rb a c bs most s) (h2:Keeps U wr w'):OfR w w' U rb g a c bs most (V.1,s) :=
 ⟨h1,h.k.trans h2 (fun _ hb=>.inl hb),h2.obj h.row (fun hu=>by have:=h.g g hu;omega),h.g⟩
theorem OfR.mono {w wr w':World} {U:Nat→Prop} {rb g:Nat} {a:Option Addr} {c:Nat} {bs:List UInt8} {most:Nat} {V:List Int×IS} (h:OfR w wr U rb g a c bs most V) (hb:Below wr.heap.size wr w'):OfR w w' U rb g a c bs most V :=
 h.num (h.st.mono hb) (Keeps.any hb)
theorem OfR.set {w wr:World} {U:Nat→Prop} {rb g:Nat} {a:Option Addr} {c:Nat} {bs:List UInt8} {most:Nat} {V:List Int×IS} (h:OfR w wr U rb g a c bs most V) (hl:V.1.length=19) (hg:w.heap.size≤g) (q:Nat) (x:Int):OfR w (wr.setCell ⟨g,q,none⟩ (.int .i64 x)) U rb g a c bs most (V.1.set q x,V.2):=by
 have hk:Keeps (fun b=>b=g) wr (wr.setCell ⟨g,q,none⟩ (.int .i64 x)):=Keeps.setCell (S:=fun b=>b=g) (Keeps.refl _ wr) (a:=⟨g,q,none⟩) (.inl rfl) _
 refine ⟨h.st.keeps hk (fun b hb e=>?_),h.k.trans hk (fun b hb=>.inr (hb▸hg)),?_,h.g⟩
 · subst e
   rcases hb with hb|hb
   · have:=h.g rb h.st.own;omega
   · have:=h.g b hb;omega
 · rw [zby h.row q (.int .i64 x)]
   exact congrArg (fun x => some (Obj.cells (List.toArray x) _ _)) (zax fun i hi => by
     by_cases hiq:i=q
     · subst hiq;simp [List.getD,hl,hi]
     · simp [hiq,List.getD,Ne.symm hiq])
theorem MO.coded {bs:List UInt8} {most:Nat} {l d:List Int}:∀g s s',zbD bs most l d g s=some s'→MO s s'
 | 0,_,_,h=>by cases h
 | g + 1, s, s', h => by
   unfold zbD at h
   split at h
   · exact ((MO.sym _ _ _).trans (MO.code _ _ _ _ _)).trans (MO.coded g _ _ h)
   · cases h;exact (MO.sym _ _ _).trans (MO.code _ _ _ _ _)
theorem MO.lensC_ {bs:List UInt8} {l out:List Int} {s:IS} {k:Nat} {v:Int} {s2:IS} (h:zfs bs l out s=some (k,v,s2)):MO s s2:=by
 have h0:=MO.sym bs l s
 unfold zfs at h
 split at h
 · split at h
   · cases h
   · cases h;exact h0.trans (MO.num _ _ _)
 · split at h
   · cases h;exact h0.trans (MO.num _ _ _)
   · split at h
     · cases h;exact h0.trans (MO.num _ _ _)
     · cases h;exact h0
theorem MO.lens {bs:List UInt8} {l:List Int} {n:Nat}:∀g out s V,zcm bs l n g out s=some V→MO s V.2
 | 0,_,_,_,h=>by cases h
 | g + 1, out, s, V, h => by
   unfold zcm at h
   split at h
   · cases h;exact MO.refl _
   · split at h
     · exact ((MO.sym _ _ _).trans (MO.fail _ (by decide) _)).trans (MO.lens g _ _ V h)
     · rename_i hc
       split at h
       · exact ((MO.lensC_ hc).trans (MO.fail _ (by decide) _)).trans (MO.lens g _ _ V h)
       · exact (MO.lensC_ hc).trans (MO.lens g _ _ V h)
theorem MO.dyn (bs:List UInt8) (s:IS):MO s (dynS bs s):=by
 have h:MO s (dyn3 bs s).2:=((MO.num bs 5 s).trans (MO.num bs 5 _)).trans (MO.num bs 4 _)
 unfold dynS
 split
 · exact h.trans (MO.fail _ (by decide) _)
 · exact h
theorem MO.dynL {bs:List UInt8} {g:Nat} {s:IS} {V:List Int×IS} (h:dynL bs g s=some V):MO s V.2 :=
 (((MO.dyn bs s).trans (MO.of bs _ _)).trans (MO.tab _ _)).trans (MO.lens _ _ _ _ h)
theorem MO.stored (bs:List UInt8) (most:Nat) (s:IS):MO s (zbW bs most s):=by
 have ma:MO s (alV s):=fun h=>⟨h,by unfold alV;simp only;omega⟩
 unfold zbW
 refine MO.trans ?_ (MO.sto _ _ _ _)
 split
 · exact (ma.trans (MO.num _ _ _)).trans (MO.num _ _ _)
 · exact ((ma.trans (MO.num _ _ _)).trans (MO.num _ _ _)).trans (MO.fail _ (by decide) _)
theorem MO.kind {bs:List UInt8} {most g kind:Nat} {s s':IS} (h:zdg bs most g kind s=some s'):MO s s':=by
 unfold zdg at h
 split at h
 · cases h;exact MO.refl _
 · split at h
   · cases h;exact MO.stored _ _ _
   · split at h
     · exact MO.coded _ _ _ h
     · split at h
       · unfold dynB at h
         split at h
         · cases h
         · rename_i V hV
           exact ((MO.dynL hV).trans (MO.tabs _ _)).trans (MO.coded _ _ _ h)
       · cases h;exact MO.fail _ (by decide) _
end Go.Proofs.YtkhcjoomijkfbaaGreatDoor.Z
namespace Go.Proofs.YtkhcjoomijkfbaaGreatDoor.Z
open Go.RowKit
def MatchOk (b:List UInt8) (at_:Nat) (far:Int) (k:Nat):Prop:=k≤258∧(0<k→1≤far∧far≤at_∧at_+k≤b.length∧∀j,j<k→b.getD (at_+j) 0=b.getD (at_+j-far.toNat) 0)
theorem MatchOk.zero (b:List UInt8) (at_:Nat) (far:Int):MatchOk b at_ far 0:=⟨by omega,fun h=>by omega⟩
end Go.Proofs.YtkhcjoomijkfbaaGreatDoor.Z
namespace Go.Proofs.YtkhcjoomijkfbaaGreatDoor.Z
open Go.RowKit Go.Maps Go.ChangeMaps
def MapT (w:World) (mb n N:Nat):Prop :=
 ∃D:DataW Nat,w.ownsMap Tryz.prog 999 (plainElem Tryz.prog 3) mb n D∧IsMap D∧∀kl c,WideAt.IsKeyLit kl→D.atKey kl .nil=.lit (.int .i64 c)→0≤c∧c<N
theorem MapT.lt {w:World} {mb n N:Nat} (h:MapT w mb n N):mb<w.heap.size:=by obtain ⟨D,h,-⟩:=h;exact h.lt
theorem MapT.mono {w:World} {mb n m N M:Nat} (h:MapT w mb n N) (hm:n≤m) (hN:N≤M):MapT w mb m M:=by
 obtain ⟨D,h,r,s⟩:=h
 exact ⟨D,h.mono hm,r,fun kl c h1 h2=>by have:=s kl c h1 h2;omega⟩
theorem MapT.keep {w w':World} {mb n N:Nat} (h:MapT w mb n N) (hb:w'.heap[mb]?=w.heap[mb]?):MapT w' mb n N:=by
 obtain ⟨D,⟨es,clock,h1,h2⟩,r⟩:=h
 exact ⟨D,⟨es,clock,hb.trans h1,h2⟩,r⟩
structure FinQ (w:World) (fb pb mb:Nat) (a:Option Addr) (n cap cnt:Nat) (b:List UInt8):Prop where
 c0:w.cell? ⟨fb,0,none⟩=some (.slice a n cap)
 c1:w.cell? ⟨fb,1,none⟩=some (.map (some mb))
 c2:w.cell? ⟨fb,2,none⟩=some (.slice (some ⟨pb,0,none⟩) n n)
 row:Row w 1 a n cap (b.map fun x=>.int .u8 x.toNat)
 m:MapT w mb cnt n
 p:∃f:Nat→Int,w.heap[pb]?=some (.cells (fl n fun j=>.int .i64 (f j)).toArray 3 (0,0))∧∀j,j<n→-1≤f j∧f j<n
 pm:pb≠mb
 fp:fb≠pb
 fm:fb≠mb
 ap:∀x,a=some x→x.block≠pb∧x.block≠mb
theorem FinQ.keeps {w w':World} {fb pb mb:Nat} {a:Option Addr} {n cap cnt:Nat} {b:List UInt8} {S:Nat→Prop} (h:FinQ w fb pb mb a n cap cnt b) (hk:Keeps S w w') (h1:¬S fb) (h2:¬S pb) (h3:¬S mb) (h4:∀x,a=some x→¬S x.block):FinQ w' fb pb mb a n cap cnt b where
 c0:=hk.cell h.c0 h1
 c1:=hk.cell h.c1 h1
 c2:=hk.cell h.c2 h1
 row:=h.row.keeps hk h4
 m:=h.m.keep (hk.block _ h.m.lt h3)
 p:=by
   obtain ⟨f,hf,r⟩:=h.p
   exact ⟨f,hk.obj hf h2,r⟩
 pm:=h.pm
 fp:=h.fp
 fm:=h.fm
 ap:=h.ap
theorem FinQ.below {w w':World} {fb pb mb:Nat} {a:Option Addr} {n cap cnt:Nat} {b:List UInt8} (h:FinQ w fb pb mb a n cap cnt b) (hb:Below w.heap.size w w'):FinQ w' fb pb mb a n cap cnt b where
 c0:=cell?_keep hb h.c0
 c1:=cell?_keep hb h.c1
 c2:=cell?_keep hb h.c2
 row:=h.row.mono hb
 m:=h.m.keep (hb.block _ h.m.lt)
 p:=by
   obtain ⟨f,hf,r⟩:=h.p
   exact ⟨f,zab hb hf,r⟩
 pm:=h.pm
 fp:=h.fp
 fm:=h.fm
 ap:=h.ap
theorem FinQ.drew {w:World} {fb pb mb:Nat} {a:Option Addr} {n cap cnt:Nat} {b:List UInt8} (h:FinQ w fb pb mb a n cap cnt b):FinQ w.drew fb pb mb a n cap cnt b :=
 h.keeps (S:=fun _=>False) ⟨rfl,rfl,rfl,Nat.le_refl _,fun _ _ _=>rfl⟩ id id id fun _ _=>id
theorem _root_.Go.Proofs.YtkhcjoomijkfbaaGreatDoor.Keeps.drew {S:Nat→Prop} {w w':World} (h:Keeps S w w'):Keeps S w w'.drew:=⟨h.os,h.tape,h.output,h.size,h.block⟩
theorem FinQ.more {w:World} {fb pb mb:Nat} {a:Option Addr} {n cap cnt m:Nat} {b:List UInt8} (h:FinQ w fb pb mb a n cap cnt b) (hm:cnt≤m):FinQ w fb pb mb a n cap m b:={ h with m:=h.m.mono hm (Nat.le_refl _) }
end Go.Proofs.YtkhcjoomijkfbaaGreatDoor.Z
namespace Go.Proofs.YtkhcjoomijkfbaaGreatDoor.Z
open Go.RowKit Go.Sort
def mkB7 (l:List UInt8):ByteArray:=⟨l.toArray⟩
theorem conv_z {w:World} {a:Option Addr} {cap:Nat} {bs:List UInt8} (hr:Row w 1 a bs.length cap (bs.map u8C)):(convert 24 9 (.slice a bs.length cap)).run Tryz.prog w=.ok (.string (mkB7 bs)) w:=by
 cases a with
 | none =>
   have h0:=hr.2.2.2.1 rfl
   have h1:=hr.2.1
   have ho:bs=[]:=List.eq_nil_of_length_eq_zero (by omega)
   subst ho
   rw [h0]
   exact run_convert_bytes_string w 24 9 5 none 0 0 Tryz.underlying24 Tryz.underlying5 Tryz.underlying9
 | some x =>
   refine run_convert_bytes_back (P:=Tryz.prog) w 24 9 5 x cap bs Tryz.underlying24 Tryz.underlying5 Tryz.underlying9 (fun j hj=>?_)
   obtain ⟨b,o,hx,-,hc⟩:=hr.2.2.2.2 (by omega)
   cases hx
   rw [Addr.add_lit]
   exact hc j (u8C bs[j]) (by simp [hj])
theorem eq_mkB7 (a b:List UInt8):((mkB7 a).toList==(mkB7 b).toList)=decide (a=b):=by
 have e:∀l,(mkB7 l).toList=l:=fun l=>by unfold mkB7;exact ByteArray.toList_eq _
 rw [e,e];exact Bool.beq_eq_decide_eq a b
def zeo (w:World) (V:List UInt8×Nat×Int) (e:Ending) (w':World):Prop :=
 ∃v B,e=.returned (.tuple #[v,.int .i64 (V.2.1:Nat),.int .i64 V.2.2])∧w'.ownsRow B 5 1 v V.1.length (V.1.map u8C)∧Below w.heap.size w w'
noncomputable def unpM (b:List UInt8) (most:Int):List UInt8×Nat×Int:=if most<0∨16777216<most then ([],0,2) else unpV b most.toNat
theorem zeo.bad {w w':World} {e:Int} (hb:Below w.heap.size w w'):zeo w ([],0,e) (.returned (.tuple #[.slice none 0 0,.int .i64 0,.int .i64 e])) w':=⟨_,0,rfl,World.ownsRow_nil _ _ _ _,hb⟩
theorem row_two {w:World} {x:Addr} {b:List UInt8} {cap:Nat} (h:Row w 1 (some x) b.length cap (b.map u8C)) (h2:2≤b.length):Row w 1 (if cap=2 then some x else some (x.add 2)) (b.length-2) (cap-2) ((b.drop 2).map u8C):=by
 have hc:=h.2.1
 by_cases e:cap=2
 · rw [if_pos e]
   obtain ⟨h1,h3,h4,h5,h6⟩:=h
   refine ⟨by simp,by omega,by omega,fun h=>(by cases h),fun h=>by omega⟩
 · rw [if_neg e,List.map_drop]
   exact h.dropAt 2 h2
theorem row_four {w:World} {bb off:Nat} {b:List UInt8} {cap N:Nat} (h:Row w 1 (some ⟨bb,off,none⟩) b.length cap (b.map u8C)) (h2:N+6≤b.length):Row w 1 (some ⟨bb,off+(N+2),none⟩) 4 (cap-(N+2)) (((b.drop (N+2)).take 4).map u8C):=by
 obtain ⟨h1,h3,h4,h5,h6⟩:=h
 obtain ⟨b',o',e,hlt,hc⟩:=h6 (by omega)
 cases e
 refine ⟨by simp;omega,by omega,by omega,fun h=>(by cases h),fun _=>⟨bb,_,rfl,hlt,fun j u hj=>?_⟩⟩
 rw [List.map_take,List.map_drop,List.getElem?_take] at hj
 split at hj
 · rw [List.getElem?_drop] at hj
   have:=hc _ u hj
   rwa [show off+(N+2+j)=off+(N+2)+j by omega] at this
 · cases hj
end Go.Proofs.YtkhcjoomijkfbaaGreatDoor.Z
namespace Go.Proofs.YtkhcjoomijkfbaaGreatDoor.Z
open Go.RowKit
theorem adS_lt {l:List UInt8} {a b k:Nat} (h:k≤5552) (ha:a<65521) (hb:b<65521):(adS (l.take k) a b).1<4294967296∧(adS (l.take k) a b).2<4294967296 :=
 adS_fits _ _ _ (by rw [List.length_take];omega) (by omega) hb
theorem adM_step {b:List UInt8} {j K x y p q:Nat} (h:adM (b.take j) 1 0=(x,y)) (hx:x<65521) (hy:y<65521) (hs:adS ((b.drop j).take K) x y=(p,q)):adM (b.take (j+K)) 1 0=(p % 65521,q % 65521):=by
 rw [List.take_add,adM_app,h]
 have:=adM_is ((b.drop j).take K) x y hx hy
 rw [hs] at this
 exact this
structure AdAt (w:World) (b:List UInt8) (n j m:Nat) (a:Option Addr) (c x y:Nat):Prop where
 row:Row w 1 a m c ((b.drop j).map fun x=>.int .u8 x.toNat)
 sum:adM (b.take j) 1 0=(x,y)
 len:j+m=n
 lx:x<65521
 ly:y<65521
def AdRel (w:World) (b:List UInt8) (n X Y:Nat) (vp va vb:Value):Prop :=
 (∃(j m c x y:Nat) (a:Option Addr),0<m∧m≤c∧vp=.slice a m c∧va=.int .u32 x∧vb=.int .u32 y∧Hid (AdAt w b n j m a c x y))∨∃(a:Option Addr) (c:Nat),vp=.slice a 0 c∧va=.int .u32 X∧vb=.int .u32 Y
theorem atake_all {w : World} {a : Option Addr} {n cap hb : Nat} {b : List UInt8} (hr : Row w 1 a n cap (b.map fun x => .int .u8 x.toNat)) (c0 : w.cell? ⟨hb, 0, none⟩ = some (.int .u32 0)) (c1 : w.cell? ⟨hb, 1, none⟩ = some (.int .u32 0))
   (f0:w.frozen? ⟨hb,0,none⟩=false) (f1:w.frozen? ⟨hb,1,none⟩=false) :
   Calls Tryz.prog 145 #[.pointer (some ⟨hb,0,none⟩),.slice a n cap] w (TakeEnd w hb (adM b 1 0).1 (adM b 1 0).2):=by
 have hl:b.length=n:=by have:=hr.1;simpa using this
 have hcapn:=hr.2.1
 have hcapm:=hr.2.2.1
 unfold maxLen at hcapm
 have HR:=Lib.hid hr
 have HL:=Lib.hid hl
 clear hr hl
 obtain ⟨x,hx⟩:∃x,x=(adM b 1 0).1:=⟨_,rfl⟩
 obtain ⟨y,hy⟩:∃y,y=(adM b 1 0).2:=⟨_,rfl⟩
 have hlt:=adM_lt b 1 0 (by decide) (by decide)
 rw [←hx,←hy] at hlt ⊢
 have HX:=Lib.hid hx
 have HY:=Lib.hid hy
 clear hx hy
 go_enter Tryz.func145,Tryz.ntmps145
 go_wp2_with fail
 go_quiet (fail)
 have z0:(w.drewN nq).cell? ⟨hb,0,none⟩=some (.int .u32 0):=c0
 have z1:(w.drewN nq).cell? ⟨hb,1,none⟩=some (.int .u32 0):=c1
 have g0:(w.drewN nq).frozen? ⟨hb,0,none⟩=false:=f0
 have g1:(w.drewN nq).frozen? ⟨hb,1,none⟩=false:=f1
 have HQ:=Lib.hid (show Row (w.drewN nq) 1 a n cap (b.map fun x=>.int .u8 x.toNat) from HR.out.mono (zad (Below.refl _ _) nq))
 obtain ⟨W0,hW0⟩:∃W0,W0=w.drewN nq:=⟨_,rfl⟩
 rw [←hW0] at z0 z1 g0 g1 HQ ⊢
 have HW0:=Lib.hid hW0
 clear hW0 c0 c1 f0 f1 HR
 go_wp2_with fail
 go_loopw [1,4,5] (fun vp va vb wr=>wr=W0∧AdRel W0 b n x y vp va vb) (fun vp _ _ _=>match vp with | .slice _ m _=>m|_=>0)
 case atStart =>
   refine ⟨rfl,?_⟩
   by_cases h0:0<n
   · exact .inl ⟨0,n,cap,1,0,a,h0,hcapn,rfl,rfl,rfl,Lib.hid ⟨by rw [List.drop_zero];exact HQ.out,rfl,by omega,by decide,by decide⟩⟩
   · obtain rfl : n = 0 := by omega
     have hb0:b=[]:=List.eq_nil_of_length_eq_zero HL.out
     exact .inr ⟨a,cap,rfl,by rw [HX.out,hb0];rfl,by rw [HY.out,hb0];rfl⟩
 case round =>
   obtain ⟨rfl,⟨j,m,c,x0,y0,a2,h0,hmc,rfl,rfl,rfl,HA⟩|⟨a2,c2,rfl,rfl,rfl⟩⟩:=hrel
   case inr =>
     go_wp2_with fail
     go_end0
     have e:=HW0.out
     subst e
     refine ⟨rfl,nq,?_⟩
     rw [show (((x:Int)+65521-1) % 65521)=(((x+65520) % 65521:Nat):Int) from by omega]
     rfl
   have hd:decide ((m:Int) > 0)=true:=decide_eq_true (by omega)
   have hcm:(c:Int)≤9223372036854775807:=HA.out.row.i64c
   obtain ⟨bb,off,rfl,-,hcc⟩:=HA.out.row.at 0 0 h0
   have hlx:=HA.out.lx
   have hly:=HA.out.ly
   have hdl:(b.drop j).length=m:=by have:=HA.out.row.len1;exact this
   have HDL:=Lib.hid hdl
   have HC:=Lib.hid hcc
   clear hcc hdl
   by_cases hbig:m≤5552
   · have hmin : ¬ ((5552 : Int) < (m : Int)) := by omega
     have hmin2:min (m:Int) 5552=(m:Int):=by omega
     go_wp2_with fail
     go_loopw [4,5,8,28] (fun va vb vx vk wk=>∃k p q:Nat,vk=.int .i64 k∧va=.int .u32 p∧vb=.int .u32 q∧k≤m∧wk=wr∧Hid (adS ((b.drop j).take k) x0 y0=(p,q))) (fun _ _ _ vk _=>m-(intOf vk).toNat)
     case atStart=>exact ⟨0,x0,y0,rfl,rfl,rfl,Nat.zero_le _,rfl,Lib.hid rfl⟩
     case round =>
       obtain ⟨k,p,q,rfl,rfl,rfl,hk,rfl,HS0⟩:=hrel
       by_cases hkn:k<m
       case neg =>
         have hke:k=m:=by omega
         subst hke
         have hd2:decide ((k:Int)<(k:Int))=false:=decide_eq_false (by omega)
         have hpq:p % 65521=x∧q % 65521=y:=by
           have h:=adM_step HA.out.sum hlx hly HS0.out
           rw [HA.out.len,List.take_of_length_le (Nat.le_of_eq HL.out)] at h
           exact ⟨by rw [HX.out,h],by rw [HY.out,h]⟩
         have hp:(p:Int) % 65521=(x:Int):=by omega
         have hq:(q:Int) % 65521=(y:Int):=by omega
         clear HS0 hpq
         go_wp2_with fail
         exact ⟨⟨by trivial,.inr ⟨_,_,rfl,by rw [hp],by rw [hq]⟩⟩,by show (0:Nat)<k;exact h0⟩
       have hd2:decide ((k:Int)<(m:Int))=true:=decide_eq_true (by omega)
       have hdi:(k:Int)<(m:Int):=by omega
       have z2:=HC.out k hkn
       have HS:=Lib.hid (show adS ((b.drop j).take (k+1)) x0 y0=(p+((b.drop j).getD k 0).toNat,q+(p+((b.drop j).getD k 0).toNat)) from by
         rw [zgJ (b.drop j) k (by rw [HDL.out];exact hkn),zhp,HS0.out])
       have hfit:=adS_lt (l:=b.drop j) (k:=k+1) (by omega) hlx hly
       rw [HS.out] at hfit
       obtain ⟨hf1,hf2⟩:=hfit
       dsimp only at hf1 hf2
       have hz:=((b.drop j).getD k 0).toNat_lt
       clear HS0
       generalize ((b.drop j).getD k 0).toNat=z at z2 HS hz hf1 hf2
       go_wp2_with fail
       exact ⟨⟨k+1,p+z,q+(p+z),by go_num,by rw [Int.natCast_add],by rw [Int.natCast_add,Int.natCast_add],by omega,by trivial,HS⟩,by simp [intOf];omega⟩
   · have hmin : (5552 : Int) < (m : Int) := by omega
     have hmin2:min (m:Int) 5552=5552:=by omega
     have hc1:(5552:Int)≤(c:Int):=by omega
     have hc2:¬c=5552:=by omega
     have hc3:¬(c:Int)=5552:=by omega
     have hc4:(5552:Int)≤(m:Int):=by omega
     have hc5:(m:Int)≤(c:Int):=by omega
     go_wp2_with fail
     go_loopw [4,5,8,28] (fun va vb vx vk wk=>∃k p q:Nat,vk=.int .i64 k∧va=.int .u32 p∧vb=.int .u32 q∧k≤5552∧wk=wr∧Hid (adS ((b.drop j).take k) x0 y0=(p,q))) (fun _ _ _ vk _=>5552-(intOf vk).toNat)
     case atStart=>exact ⟨0,x0,y0,rfl,rfl,rfl,Nat.zero_le _,rfl,Lib.hid rfl⟩
     case round =>
       obtain ⟨k,p,q,rfl,rfl,rfl,hk,rfl,HS0⟩:=hrel
       by_cases hkn:k<5552
       case neg =>
         obtain rfl:k=5552:=by omega
         have HN:=Lib.hid (show AdAt wr b n (j+5552) (m-5552) (some ⟨bb,off+5552,none⟩) (c-5552) (p % 65521) (q % 65521) from
           ⟨by have:=HA.out.row.dropAt 5552 (by omega);rw [←List.map_drop,List.drop_drop] at this;exact this,adM_step HA.out.sum hlx hly HS0.out,by have:=HA.out.len;omega,Nat.mod_lt _ (by decide),Nat.mod_lt _ (by decide)⟩)
         clear HS0
         go_wp2_with fail
         exact ⟨⟨by trivial,.inl ⟨_,_,_,_,_,_,by omega,by omega,rfl,by rw [Int.natCast_emod];rfl,by rw [Int.natCast_emod];rfl,HN⟩⟩,by show m-5552<m;omega⟩
       have hd2:decide ((k:Int)<5552)=true:=decide_eq_true (by omega)
       have hdi:(k:Int)<5552:=by omega
       have z2:=HC.out k (by omega)
       have HS:=Lib.hid (show adS ((b.drop j).take (k+1)) x0 y0=(p+((b.drop j).getD k 0).toNat,q+(p+((b.drop j).getD k 0).toNat)) from by
         rw [zgJ (b.drop j) k (by rw [HDL.out];omega),zhp,HS0.out])
       have hfit:=adS_lt (l:=b.drop j) (k:=k+1) (by omega) hlx hly
       rw [HS.out] at hfit
       obtain ⟨hf1,hf2⟩:=hfit
       dsimp only at hf1 hf2
       have hz:=((b.drop j).getD k 0).toNat_lt
       clear HS0
       generalize ((b.drop j).getD k 0).toNat=z at z2 HS hz hf1 hf2
       go_wp2_with fail
       exact ⟨⟨k+1,p+z,q+(p+z),by go_num,by rw [Int.natCast_add],by rw [Int.natCast_add,Int.natCast_add],by omega,by trivial,HS⟩,by simp [intOf];omega⟩
theorem asum_all {w : World} {a : Option Addr} {n cap : Nat} {b : List UInt8} (hr : Row w 1 a n cap (b.map fun x => .int .u8 x.toNat)) :
   Calls Tryz.prog 106 #[.slice a n cap] w fun e w'=>e=.returned (.int .u32 (adV b))∧Below w.heap.size w w':=by
 have hbA:=zah w (.cells #[.int .u32 0,.int .u32 0] 219)
 have hnew:=heap_alloc_new w (.cells #[.int .u32 0,.int .u32 0] 219)
 have hbk:=hnew
 have c0:(w.alloc (.cells #[.int .u32 0,.int .u32 0] 219)).cell? ⟨w.heap.size,0,none⟩=some (.int .u32 0):=by rw [cell_of_row _ _ 0 _ _ _ hnew];rfl
 have c1:(w.alloc (.cells #[.int .u32 0,.int .u32 0] 219)).cell? ⟨w.heap.size,1,none⟩=some (.int .u32 0):=by rw [cell_of_row _ _ 1 _ _ _ hnew];rfl
 have HT:=Lib.hid (atake_all (hr.mono hbA) c0 c1 (frozen_of_row _ _ _ _ _ hnew) (frozen_of_row _ _ _ _ _ hnew))
 have HB:=Lib.hid hbA
 have hlt:=adM_lt b 1 0 (by decide) (by decide)
 have HV:=Lib.hid (show adV b=65536 * (adM b 1 0).2+((adM b 1 0).1+65520) % 65521+0∨True from .inr trivial)
 have HVV:=Lib.hid (show 65536 * (adM b 1 0).2+(((adM b 1 0).1+65520) % 65521+1) % 65521=adV b from by unfold adV;omega)
 have HC:=Lib.hid (And.intro c0 c1)
 clear hr hbA hnew hbk c0 c1 HV
 generalize (adM b 1 0).1=x at HT hlt HVV
 generalize (adM b 1 0).2=y at HT hlt HVV
 go_enter Tryz.func106,Tryz.ntmps106
 go_wp2_with fail
 generalize w.alloc (.cells #[.int .u32 0,.int .u32 0] 219)=w0 at HT HB HC ⊢
 obtain ⟨hb,hhb⟩:∃hb,hb=w.heap.size:=⟨_,rfl⟩
 rw [←hhb] at HT HC HB ⊢
 have HH:=Lib.hid hhb
 clear hhb
 refine HT.out.mono ?_
 rintro e w1 ⟨rfl,q,hq⟩
 have d0:w1.cell? ⟨hb,0,none⟩=some (.int .u32 ((x+65520) % 65521:Nat)):=by
   rw [hq]
   show ((w0.setCell _ _).setCell _ _).cell? _=_
   rw [World.cell?_setCell_other _ _ _ _ (by simp)]
   exact World.cell?_setCell_same _ _ _ HC.out.1
 have d1:w1.cell? ⟨hb,1,none⟩=some (.int .u32 (y:Nat)):=by
   rw [hq]
   show ((w0.setCell _ _).setCell _ _).cell? _=_
   exact World.cell?_setCell_same _ _ _ (u:=.int .u32 0) (by rw [World.cell?_setCell_other _ _ _ _ (by simp)];exact HC.out.2)
 have hb1:Below hb w w1:=by
   rw [hq]
   exact zad ((((Keeps.of_below (S:=fun z=>hb≤z) HB.out fun z hz=>hz).setCell (a:=⟨hb,0,none⟩) (.inl (Nat.le_refl _)) _).setCell (a:=⟨hb,1,none⟩) (.inl (Nat.le_refl _)) _).below (by have:=HH.out;omega) fun z hz=>hz) q
 have HVL:=Lib.hid (avalue_any (w:=w1) (hb:=hb) (x:=(x+65520) % 65521) (y:=y) (by omega) hlt.2 d0 d1)
 have HB1:=Lib.hid hb1
 clear d0 d1 hb1 hq HT HC HB
 go_wp2_with fail
 refine HVL.out.mono ?_
 rintro e w2 ⟨rfl,q2,hq2⟩
 have HB2:=Lib.hid (show Below hb w w2 from by rw [hq2];exact zad HB1.out q2)
 clear hq2 HVL
 go_wp2_with fail
 go_ret
 refine ⟨?_,by have:=HB2.out;rw [HH.out] at this;exact this⟩
 rw [←HVV.out]
 show Ending.returned (.int .u32 (65536 * (y:Int)+((x:Int)+65520+1) % 65521))=_
 exact congrArg (fun z=>Ending.returned (.int .u32 z)) (by omega)
end Go.Proofs.YtkhcjoomijkfbaaGreatDoor.Z
namespace Go.Proofs.YtkhcjoomijkfbaaGreatDoor.Z
open Go.RowKit Go.Sort
structure UnQ (w W:World) (o p q:Nat) (v:Value) (n e:Int):Prop where
 below:Below w.heap.size w W
 h0:W.heap[o]?=some (.cells #[v] 24 (0,0))
 h1:W.heap[p]?=some (.cells #[.int .i64 n] 3 (0,0))
 h2:W.heap[q]?=some (.cells #[.int .i64 e] 25 (0,0))
 lo:w.heap.size≤o
 lp:w.heap.size≤p
 lq:w.heap.size≤q
 op:o≠p
 oq:o≠q
 pq:p≠q
section
variable {w W : World} {o p q : Nat} {v : Value} {n e : Int}
theorem UnQ.set0 (h:UnQ w W o p q v n e) (v':Value):UnQ w (W.setCell ⟨o,0,none⟩ v') o p q v' n e :=
 { h with below:=h.below.setCell h.lo _,h0:=by rw [heap_setCell_same W o 0 _ _ _ h.h0];rfl,h1:=za3 h.h1 (a:=⟨o,0,none⟩) h.op _,h2:=za3 h.h2 (a:=⟨o,0,none⟩) h.oq _ }
theorem UnQ.set1 (h:UnQ w W o p q v n e) (n':Int):UnQ w (W.setCell ⟨p,0,none⟩ (.int .i64 n')) o p q v n' e :=
 { h with below:=h.below.setCell h.lp _,h0:=za3 h.h0 (a:=⟨p,0,none⟩) h.op.symm _,h1:=by rw [heap_setCell_same W p 0 _ _ _ h.h1];rfl,h2:=za3 h.h2 (a:=⟨p,0,none⟩) h.pq _ }
theorem UnQ.set2 (h:UnQ w W o p q v n e) (e':Int):UnQ w (W.setCell ⟨q,0,none⟩ (.int .i64 e')) o p q v n e' :=
 { h with below:=h.below.setCell h.lq _,h0:=za3 h.h0 (a:=⟨q,0,none⟩) h.oq.symm _,h1:=za3 h.h1 (a:=⟨q,0,none⟩) h.pq.symm _,h2:=by rw [heap_setCell_same W q 0 _ _ _ h.h2];rfl }
theorem UnQ.set3 (h:UnQ w W o p q v n e) (v':Value) (n' e':Int):UnQ w (((W.setCell ⟨o,0,none⟩ v').setCell ⟨p,0,none⟩ (.int .i64 n')).setCell ⟨q,0,none⟩ (.int .i64 e')) o p q v' n' e':=((h.set0 v').set1 n').set2 e'
theorem UnQ.next {W':World} (h:UnQ w W o p q v n e) (hb:Below W.heap.size W W'):UnQ w W' o p q v n e :=
 { h with below:=h.below.trans (hb.mono h.below.size),h0:=zab hb h.h0,h1:=zab hb h.h1,h2:=zab hb h.h2 }
theorem UnQ.cells (h:UnQ w W o p q v n e):W.cell? ⟨o,0,none⟩=some v∧W.cell? ⟨p,0,none⟩=some (.int .i64 n)∧W.cell? ⟨q,0,none⟩=some (.int .i64 e)∧W.frozen? ⟨o,0,none⟩=false∧W.frozen? ⟨p,0,none⟩=false∧W.frozen? ⟨q,0,none⟩=false :=
 ⟨by rw [cell_of_row W o 0 _ _ _ h.h0];rfl,by rw [cell_of_row W p 0 _ _ _ h.h1];rfl,by rw [cell_of_row W q 0 _ _ _ h.h2];rfl,frozen_of_row W o 0 _ _ h.h0,frozen_of_row W p 0 _ _ h.h1,frozen_of_row W q 0 _ _ h.h2⟩
theorem UnQ.start (w:World):UnQ w (((w.alloc (.cells #[.slice none 0 0] 24)).alloc (.cells #[.int .i64 0] 3)).alloc (.cells #[.int .i64 0] 25)) w.heap.size (w.heap.size+1) (w.heap.size+1+1) (.slice none 0 0) 0 0 :=
 { below := ((zah w _).alloc (by rw [zal]; omega) _).alloc (by rw [zal, zal]; omega) _
   h0:=zak _ (zak _ (zac _ rfl)),h1:=zak _ (zac _ (by rw [zal])),h2:=zac _ (by rw [zal,zal])
   lo:=Nat.le_refl _,lp:=by omega,lq:=by omega,op:=by omega,oq:=by omega,pq:=by omega }
theorem UnQ.apart (h : UnQ w W o p q v n e) {B m : Nat} {x : Value} {cs : List Value} (hO : W.ownsRow B 5 1 x m cs) : ∀ b, x.ownBlock = some b → b ≠ o ∧ b ≠ p ∧ b ≠ q := fun b hb => by
 rcases hO.2 with ⟨rfl,-⟩|⟨g,cap,cur,rfl,-,hg,-⟩
 · cases hb
 · have e1 : g = b := by simpa [Value.ownBlock] using hb
   subst e1
   refine ⟨fun e=>?_,fun e=>?_,fun e=>?_⟩
   · subst e;rw [h.h0] at hg;simp at hg
   · subst e;rw [h.h1] at hg;simp at hg
   · subst e;rw [h.h2] at hg;simp at hg
theorem UnQ.own3 (h:UnQ w W o p q v n e) {B m:Nat} {x:Value} {cs:List Value} (hO:W.ownsRow B 5 1 x m cs) (a b c:Value):(((W.setCell ⟨o,0,none⟩ a).setCell ⟨p,0,none⟩ b).setCell ⟨q,0,none⟩ c).ownsRow B 5 1 x m cs:=by
 have hx:=h.apart hO
 have k:∀g:Nat,(∀b,x.ownBlock=some b→b≠g)→x.ownBlock≠some g:=fun g hg e=>hg g e rfl
 exact zcL (zcL (zcL hO (a:=⟨o,0,none⟩) (k o fun b hb=>(hx b hb).1) a) (a:=⟨p,0,none⟩) (k p fun b hb=>(hx b hb).2.1) b) (a:=⟨q,0,none⟩) (k q fun b hb=>(hx b hb).2.2) c
end
theorem none_ok {o p q:Nat} {w:World} (u:FrameMode) (c2:w.cell? ⟨q,0,none⟩=some (.int .i64 0)) :
   CallsD Tryz.prog 101 #[.pointer (some ⟨o,0,none⟩),.pointer (some ⟨p,0,none⟩),.pointer (some ⟨q,0,none⟩)] u w fun e u' w'=>u'=u∧(e=.returned (.tuple #[])∧w'=w):=by
 go_enter_d Tryz.func101,Tryz.ntmps101
 go_wp2
 go_end0
 exact ⟨rfl,rfl⟩
theorem none_bad {o p q:Nat} {e:Int} {v1 v2:Value} {w:World} (u:FrameMode) (he:e≠0) (c0:w.cell? ⟨o,0,none⟩=some v1) (c1:w.cell? ⟨p,0,none⟩=some v2) (c2:w.cell? ⟨q,0,none⟩=some (.int .i64 e)) (f0:w.frozen? ⟨o,0,none⟩=false) (f1:w.frozen? ⟨p,0,none⟩=false) (hop:¬p=o) :
   CallsD Tryz.prog 101 #[.pointer (some ⟨o,0,none⟩),.pointer (some ⟨p,0,none⟩),.pointer (some ⟨q,0,none⟩)] u w fun x u' w'=>u'=u∧(x=.returned (.tuple #[])∧w'=(w.setCell ⟨o,0,none⟩ (.slice none 0 0)).setCell ⟨p,0,none⟩ (.int .i64 0)):=by
 have hd:(e==0)=false:=by simpa using he
 have hd2:(e != 0)=true:=by simpa using he
 go_enter_d Tryz.func101,Tryz.ntmps101
 go_wp2
 go_end0
 exact ⟨rfl,rfl⟩
theorem notAgg {ty : TypeId} {d : TypeDesc} (hu : Tryz.prog.underlying ty = some d) (hd : (match d with | .struct _ | .array _ _ => true | _ => false) = false) {a : Addr} {x : Value} {W : World} (hc : W.cell? a = some x) : (loadVar ty a).run Tryz.prog W = .ok x W := by
 have hagg:(isAgg ty).run Tryz.prog W=.ok false W:=by
   unfold isAgg
   rw [Sem.run_bind,run_underlying hu W]
   cases d<;>simp_all
 unfold loadVar
 rw [Sem.run_bind,hagg]
 simp [hc]
theorem results3 {fn:Func} {t0 t1 t2:Tmp} (h:fn.results=#[.cell t0 24,.cell t1 3,.cell t2 25]) (tmps:Array Value) {w W:World} {o p q:Nat} {v:Value} {n e:Int}
   (h0:tmps.getD t0 undef=.pointer (some ⟨o,0,none⟩)) (h1:tmps.getD t1 undef=.pointer (some ⟨p,0,none⟩)) (h2:tmps.getD t2 undef=.pointer (some ⟨q,0,none⟩)) (hq:UnQ w W o p q v n e) :
   (results fn tmps).run Tryz.prog W=.ok (.tuple #[v,.int .i64 n,.int .i64 e]) W:=by
 obtain ⟨c0,c1,c2,-⟩:=hq.cells
 have l0:=notAgg Tryz.underlying24 rfl c0
 have l1:=notAgg Tryz.underlying3 rfl c1
 have l2:=notAgg Tryz.underlying25 rfl c2
 have h0':tmps[t0]?.getD undef=.pointer (some ⟨o,0,none⟩):=by simpa using h0
 have h1':tmps[t1]?.getD undef=.pointer (some ⟨p,0,none⟩):=by simpa using h1
 have h2':tmps[t2]?.getD undef=.pointer (some ⟨q,0,none⟩):=by simpa using h2
 simp [results,h,h0',h1',h2',asAddr,l0,l1,l2,Sem.run_bind,Result.andThen]
theorem door_ok {a:Act} {R:Ending→World→Prop} {w W:World} {o p q:Nat} {v:Value} {n:Int} (hd:a.defers=[{ target:=.fn (.func 101) #[],args:=#[.pointer (some ⟨o,0,none⟩),.pointer (some ⟨p,0,none⟩),.pointer (some ⟨q,0,none⟩)] }])
   (h0:a.tmps.getD 4 undef=.pointer (some ⟨o,0,none⟩)) (h1:a.tmps.getD 5 undef=.pointer (some ⟨p,0,none⟩)) (h2:a.tmps.getD 6 undef=.pointer (some ⟨q,0,none⟩)) (hq:UnQ w W o p q v n 0) (hR:R (.returned (.tuple #[v,.int .i64 n,.int .i64 0])) W) :
   bodyPostD Tryz.prog Tryz.f62 R .ret a W:=by
 show Leaves Tryz.prog Tryz.f62 a.tmps R a.defers .returning W
 rw [hd]
 refine leaves_cons (f:=101) (args:=#[.pointer (some ⟨o,0,none⟩),.pointer (some ⟨p,0,none⟩),.pointer (some ⟨q,0,none⟩)]) (by simp) (by simp [go_sem]) ?_
 refine (none_ok .returning hq.cells.2.2.1).mono ?_
 rintro e u' w' ⟨rfl,rfl,rfl⟩
 exact ⟨_,results3 rfl _ h0 h1 h2 hq,hR⟩
theorem zdC {a:Act} {R:Ending→World→Prop} {w W:World} {o p q:Nat} {v:Value} {n e:Int} (hd:a.defers=[{ target:=.fn (.func 101) #[],args:=#[.pointer (some ⟨o,0,none⟩),.pointer (some ⟨p,0,none⟩),.pointer (some ⟨q,0,none⟩)] }])
   (h0:a.tmps.getD 4 undef=.pointer (some ⟨o,0,none⟩)) (h1:a.tmps.getD 5 undef=.pointer (some ⟨p,0,none⟩)) (h2:a.tmps.getD 6 undef=.pointer (some ⟨q,0,none⟩)) (he:e≠0) (hq:UnQ w W o p q v n e) (hR:∀W',Below w.heap.size w W'→R (.returned (.tuple #[.slice none 0 0,.int .i64 0,.int .i64 e])) W') :
   bodyPostD Tryz.prog Tryz.f62 R .ret a W:=by
 show Leaves Tryz.prog Tryz.f62 a.tmps R a.defers .returning W
 rw [hd]
 obtain ⟨c0,c1,c2,f0,f1,-⟩:=hq.cells
 refine leaves_cons (f:=101) (args:=#[.pointer (some ⟨o,0,none⟩),.pointer (some ⟨p,0,none⟩),.pointer (some ⟨q,0,none⟩)]) (by simp) (by simp [go_sem]) ?_
 refine (none_bad .returning he c0 c1 c2 f0 f1 (fun h=>hq.op h.symm)).mono ?_
 rintro e u' w' ⟨rfl,rfl,rfl⟩
 have hq2:=(hq.set0 (.slice none 0 0)).set1 0
 exact ⟨_,results3 rfl _ h0 h1 h2 hq2,hR _ hq2.below⟩
theorem bequal_z {w:World} {a a2:Option Addr} {cap c2:Nat} {bs sep:List UInt8} (hr:Row w 1 a bs.length cap (bs.map u8C)) (hs:Row w 1 a2 sep.length c2 (sep.map u8C)) :
   Calls Tryz.prog 104 #[.slice a bs.length cap,.slice a2 sep.length c2] w fun e w'=>e=.returned (.bool (decide (bs=sep)))∧w=w':=by
 have h1:=conv_z hr
 have h2:=conv_z hs
 have hq:=eq_mkB7 bs sep
 clear hr hs
 generalize mkB7 bs=x at *
 generalize mkB7 sep=y at *
 generalize decide (bs=sep)=d at *
 go_enter Tryz.func104,Tryz.ntmps104
 go_wp2
 go_ret
 exact ⟨rfl,rfl⟩
theorem heldU {w2 W W':World} {p o:Nat} {x y:Value} (h:W.cell? ⟨p,0,none⟩=some x∧W.cell? ⟨o,0,none⟩=some y∧Below w2.heap.size w2 W) (hb:Below W.heap.size W W'):W'.cell? ⟨p,0,none⟩=some x∧W'.cell? ⟨o,0,none⟩=some y∧Below w2.heap.size w2 W' :=
 ⟨cell?_keep hb h.1,cell?_keep hb h.2.1,h.2.2.trans (hb.mono h.2.2.size)⟩
theorem unpack_all {w:World} {a:Option Addr} {cap:Nat} {b:List UInt8} (most:Int) (hr:Row w 1 a b.length cap (b.map u8C)) (hbl:b.length≤100000) :
   Calls Tryz.prog 62 #[.slice a b.length cap,.int .i64 most] w (zeo w (unpM b most)):=by
 have HQ:=Lib.hid (UnQ.start w)
 have hcapn:=hr.2.1
 have hcapm:=hr.2.2.1
 unfold maxLen at hcapm
 have HR:=Lib.hid (fun W (h:Below w.heap.size w W)=>hr.mono h)
 have HR0:=Lib.hid hr
 have hni:(b.length:Int)≤9223372036854775807:=by omega
 clear hr
 go_enter_defers Tryz.func62,Tryz.ntmps62
 go_upto_region 2 with fail
 generalize ((w.alloc (.cells #[.slice none 0 0] 24)).alloc (.cells #[.int .i64 0] 3)).alloc (.cells #[.int .i64 0] 25)=W0 at HQ ⊢
 generalize w.heap.size+1+1=q at HQ ⊢
 generalize w.heap.size+1=p at HQ ⊢
 obtain ⟨o,ho⟩:∃o,o=w.heap.size:=⟨_,rfl⟩
 rw [←ho] at HQ ⊢
 clear ho
 obtain ⟨c0,c1,c2,f0,f1,f2⟩:=HQ.out.cells
 have hop:¬o=p:=HQ.out.op
 have hoq:¬o=q:=HQ.out.oq
 have hpq:¬p=q:=HQ.out.pq
 have hpo:¬p=o:=fun h=>hop h.symm
 have hqo:¬q=o:=fun h=>hoq h.symm
 have hqp:¬q=p:=fun h=>hpq h.symm
 by_cases m1:most<0
 · have d1:decide (most<0)=true:=decide_eq_true m1
   have HV:=Lib.hid (show unpM b most=([],0,2) from if_pos (.inl m1))
   have HQ1:=Lib.hid (HQ.out.set3 (.slice none 0 0) 0 2)
   go_wp2_with fail
   refine zdC rfl rfl rfl rfl (by decide) HQ1.out (fun W' hb=>?_)
   rw [HV.out]
   exact zeo.bad hb
 have d1:decide (most<0)=false:=decide_eq_false m1
 by_cases m2:16777216<most
 · have d2:decide (most > 16777216)=true:=decide_eq_true m2
   have HV:=Lib.hid (show unpM b most=([],0,2) from if_pos (.inr m2))
   have HQ1:=Lib.hid (HQ.out.set3 (.slice none 0 0) 0 2)
   go_wp2_with fail
   refine zdC rfl rfl rfl rfl (by decide) HQ1.out (fun W' hb=>?_)
   rw [HV.out]
   exact zeo.bad hb
 have d2:decide (most > 16777216)=false:=decide_eq_false m2
 obtain ⟨M,rfl⟩:∃M:Nat,most=M:=⟨most.toNat,by omega⟩
 have hM:M≤16777216:=by omega
 have HV:=Lib.hid (show unpM b M=unpV b M from if_neg (by omega))
 have HCK:=Lib.hid (zcI (HR.out W0 HQ.out.below))
 by_cases hck:chkV b=0
 case neg =>
   have HU:=Lib.hid (show unpV b M=([],0,chkV b) from if_pos hck)
   generalize chkV b=c at *
   have hb:(c != 0)=true:=by simpa using hck
   have hb2:(c==0)=false:=by simpa using hck
   go_wp2_with fail
   refine HCK.out.mono ?_
   rintro e w1 ⟨rfl,r,rfl⟩
   have HQ1:=Lib.hid ((HQ.out.next (zad (Below.refl _ _) r)).set2 c)
   have HQ2:=Lib.hid (HQ1.out.set3 (.slice none 0 0) 0 c)
   go_wp2_with fail
   refine zdC rfl rfl rfl rfl hck HQ2.out (fun W' hb=>?_)
   rw [HV.out,HU.out]
   exact zeo.bad hb
 have hl2:2≤b.length:=by
   rcases Nat.lt_or_ge b.length 2 with h|h
   · unfold chkV at hck;rw [if_pos h] at hck;cases hck
   · exact h
 have HU:=Lib.hid (show unpV b M=_ from by unfold unpV;rw [if_neg (fun h=>h hck)])
 rw [hck] at HCK
 clear hck
 obtain ⟨bb,off,rfl,hbb,-⟩:=HR0.out.at 0 0 (by omega)
 have hI := (fun (W : World) (hb : Below w.heap.size w W) => by
   have h:=inflate_res W (if cap=2 then some ⟨bb,off,none⟩ else some ((⟨bb,off,none⟩:Addr).add 2)) (cap-2) M (b.drop 2) (by rw [List.length_drop];exact row_two (HR.out W hb) hl2) (by rw [List.length_drop];omega) hM
   rw [List.length_drop] at h
   exact h:∀(W:World) (hb:Below w.heap.size w W),Calls Tryz.prog 103 #[.slice (if cap=2 then some ⟨bb,off,none⟩ else some ((⟨bb,off,none⟩:Addr).add 2)) (b.length-2) (cap-2),.int .i64 M] W (InfRes (endI (b.drop 2) M) W))
 have hend:=endI_is (b.drop 2) M
 obtain ⟨s,hs⟩:∃s,s=endI (b.drop 2) M:=⟨_,rfl⟩
 rw [←hs] at hI HU hend
 have hat:=hend.2
 rw [List.length_drop] at hat
 obtain ⟨O,C,D,hOC,HI⟩:∃O C D,((cap=2∧O=off∧C=0∧D=0)∨(¬cap=2∧O=off+2∧C=cap-2∧D=b.length-2))∧Hid (∀(W:World),Below w.heap.size w W→Calls Tryz.prog 103 #[.slice (some ⟨bb,O,none⟩) D C,.int .i64 M] W (InfRes s W)):=by
   by_cases h:cap=2
   · refine ⟨off, 0, 0, .inl ⟨h, rfl, rfl, rfl⟩, Lib.hid fun W hb => ?_⟩
     have:=hI W hb
     rw [if_pos h,h,show b.length-2=0 from by omega] at this
     exact this
   · refine ⟨off + 2, cap - 2, b.length - 2, .inr ⟨h, rfl, rfl, rfl⟩, Lib.hid fun W hb => ?_⟩
     have:=hI W hb
     rw [if_neg h] at this
     exact this
 obtain ⟨L,hL⟩:∃L,L=b.length:=⟨_,rfl⟩
 rw [←hL] at HCK hOC hl2 hcapn hbl hat HU hni ⊢
 have HL:=Lib.hid hL
 have HS:=Lib.hid hs
 clear hI hend hL hs
 by_cases he:s.e=0
 case neg =>
   rw [if_pos he] at HU
   have hb:(s.e != 0)=true:=by simpa using he
   have hb2:(s.e==0)=false:=by simpa using he
   clear hat
   rcases hOC with ⟨rfl,rfl,rfl,rfl⟩|⟨hc2,rfl,rfl,rfl⟩<;>(
     go_wp2_with fail
     refine HCK.out.mono ?_
     rintro e w1 ⟨rfl,r,rfl⟩
     have HQ1:=Lib.hid ((HQ.out.next (zad (Below.refl _ _) r)).set2 0)
     go_wp2_with fail
     refine (HI.out _ HQ1.out.below).mono ?_
     rintro e w2 ⟨v1,B1,rfl,hO1,hb2⟩
     have HQ2:=Lib.hid (HQ1.out.next hb2)
     obtain ⟨d0,d1,d2,g0,g1,g2⟩:=HQ2.out.cells
     obtain ⟨a1,c1,rfl,-,-⟩:=Row.of_owns hO1
     have HQ3:=Lib.hid ((HQ2.out.set3 (.slice a1 (resO s).length c1) (resN s) s.e).set3 (.slice a1 (resO s).length c1) (resN s) s.e)
     clear hO1 hb2
     go_wp2_with fail
     refine zdC rfl rfl rfl rfl he HQ3.out (fun W' hb=>?_)
     rw [HV.out,HU.out]
     exact zeo.bad hb)
 rw [if_neg (fun h=>h he)] at HU
 have hNv:resN s=(s.at_+7) / 8:=if_pos he
 have hNl:resN s≤L-2:=by omega
 have HE:=Lib.hid he
 have hb:(s.e != 0)=false:=by simpa using he
 clear hNv hat he
 obtain ⟨N,hN⟩:∃N,N=resN s:=⟨_,rfl⟩
 rw [←hN] at hNl HU
 have HN:=Lib.hid hN.symm
 obtain ⟨out,ho⟩:∃o,o=resO s:=⟨_,rfl⟩
 rw [←ho] at HU
 have HO:=Lib.hid ho.symm
 clear hN ho
 by_cases hlen:L<N+6
 case pos =>
   rw [if_pos hlen] at HU
   have hlt:decide ((L:Int)-((N:Int)+2)<4)=true:=decide_eq_true (by omega)
   rcases hOC with ⟨rfl,rfl,rfl,rfl⟩|⟨hc2,rfl,rfl,rfl⟩<;>(
     go_wp2_with fail
     refine HCK.out.mono ?_
     rintro e w1 ⟨rfl,r,rfl⟩
     have HQ1:=Lib.hid ((HQ.out.next (zad (Below.refl _ _) r)).set2 0)
     go_wp2_with fail
     refine (HI.out _ HQ1.out.below).mono ?_
     rintro e w2 ⟨v1,B1,rfl,hO1,hb2⟩
     rw [HN.out,HE.out]
     rw [HO.out] at hO1
     have HQ2:=Lib.hid (HQ1.out.next hb2)
     obtain ⟨d0,d1,d2,g0,g1,g2⟩:=HQ2.out.cells
     obtain ⟨a1,c1,rfl,-,-⟩:=Row.of_owns hO1
     have HQ3:=Lib.hid (HQ2.out.set3 (.slice a1 out.length c1) N 0)
     clear hO1 hb2
     go_upto_region 8 with fail
     generalize ((w2.setCell ⟨o,0,none⟩ (.slice a1 out.length c1)).setCell ⟨p,0,none⟩ (.int .i64 N)).setCell ⟨q,0,none⟩ (.int .i64 0)=w3 at HQ3 ⊢
     clear d0 d1 d2 g0 g1 g2 HQ2
     obtain ⟨d0,d1,d2,g0,g1,g2⟩:=HQ3.out.cells
     have HQ4:=Lib.hid (HQ3.out.set1 ((N:Int)+2))
     go_upto_region 11 with fail
     generalize w3.setCell ⟨p,0,none⟩ (.int .i64 ((N:Int)+2))=w4 at HQ4 ⊢
     clear d0 d1 d2 g0 g1 g2 HQ3
     obtain ⟨d0,d1,d2,g0,g1,g2⟩:=HQ4.out.cells
     have HQ5:=Lib.hid (HQ4.out.set3 (.slice a1 out.length c1) ((N:Int)+2) 10)
     go_wp2_with fail
     refine zdC rfl rfl rfl rfl (by decide) HQ5.out (fun W' hb=>?_)
     rw [HV.out,HU.out]
     exact zeo.bad hb)
 rw [if_neg hlen] at HU
 have hlt:decide ((L:Int)-((N:Int)+2)<4)=false:=decide_eq_false (by omega)
 obtain ⟨hc2,rfl,rfl,rfl⟩:=hOC.resolve_left (fun h=>by omega)
 obtain ⟨s4,hs4⟩:∃s4,s4=(b.drop (N+2)).take 4:=⟨_,rfl⟩
 have hl4:s4.length=4:=by rw [hs4,List.length_take,List.length_drop];have:=HL.out;omega
 obtain ⟨dd,hdd⟩:∃dd,dd=decide (s4=by4 (adV out)):=⟨_,rfl⟩
 have HDD:=Lib.hid hdd.symm
 have HEQ := Lib.hid (fun (W : World) (hb : Below w.heap.size w W) (aB : Option Addr) (cB : Nat) (hrB : Row W 1 aB 4 cB ((by4 (adV out)).map u8C)) => show Calls Tryz.prog 104 #[.slice (some ⟨bb, off + (N + 2), none⟩) 4 (cap - (N + 2)), .slice aB 4 cB] W (fun e w' => e = .returned (.bool dd) ∧ W = w') from by
   have h:=row_four (N:=N) (HR.out W hb) (by have:=HL.out;omega)
   rw [←hs4] at h
   have h2:=bequal_z (bs:=s4) (sep:=by4 (adV out)) (by rw [hl4];exact h) hrB
   rw [hl4,←hdd] at h2
   exact h2)
 rw [←hs4] at HU
 clear hs4 hdd hOC
 have i1:¬((cap:Int)=(N:Int)+2):=by omega
 have i2:(N:Int)+6≤(cap:Int):=by omega
 have i3:¬cap=N+2:=by omega
 have i4:IntKind.i64.wrap ((N:Int)+2)=(N:Int)+2:=IntWalk.i64_in _ (by omega)
 have i5:IntKind.i64.wrap ((N:Int)+2+4)=(N:Int)+6:=by rw [IntWalk.i64_in _ (by omega)];omega
 have i6:((N:Int)+2).toNat=N+2:=by omega
 have i7:((N:Int)+6).toNat=N+6:=by omega
 have i8:(0:Int)≤(N:Int)+2:=by omega
 have i9:(0:Int)≤(N:Int)+6:=by omega
 have i10:(N:Int)+2≤(N:Int)+6:=by omega
 have i11:N+6-(N+2)=4:=by omega
 have i12:N+6≤cap:=by omega
 go_wp2_with fail
 refine HCK.out.mono ?_
 rintro e w1 ⟨rfl,r,rfl⟩
 have HQ1:=Lib.hid ((HQ.out.next (zad (Below.refl _ _) r)).set2 0)
 go_wp2_with fail
 refine (HI.out _ HQ1.out.below).mono ?_
 rintro e w2 ⟨v1,B1,rfl,hO1,hb2⟩
 rw [HN.out,HE.out]
 rw [HO.out] at hO1
 have HQ2:=Lib.hid (HQ1.out.next hb2)
 obtain ⟨d0,d1,d2,g0,g1,g2⟩:=HQ2.out.cells
 obtain ⟨a1,c1,rfl,hR1,-⟩:=Row.of_owns hO1
 have HQ3:=Lib.hid (HQ2.out.set3 (.slice a1 out.length c1) N 0)
 have HO3:=Lib.hid (HQ2.out.own3 hO1 (.slice a1 out.length c1) (.int .i64 N) (.int .i64 0))
 clear hO1 hb2 hR1 HQ HQ1 HCK HI HR0
 go_upto_region 8 with fail
 generalize ((w2.setCell ⟨o,0,none⟩ (.slice a1 out.length c1)).setCell ⟨p,0,none⟩ (.int .i64 N)).setCell ⟨q,0,none⟩ (.int .i64 0)=w3 at HQ3 HO3 ⊢
 clear d0 d1 d2 g0 g1 g2 HQ2
 obtain ⟨d0,d1,d2,g0,g1,g2⟩:=HQ3.out.cells
 have HQ4:=Lib.hid (HQ3.out.set1 ((N:Int)+2))
 have HO4:=Lib.hid (zcL HO3.out (a:=⟨p,0,none⟩) (fun h=>(HQ3.out.apart HO3.out p h).2.1 rfl) (.int .i64 ((N:Int)+2)))
 go_upto_region 11 with fail
 generalize w3.setCell ⟨p,0,none⟩ (.int .i64 ((N:Int)+2))=w4 at HQ4 HO4 ⊢
 clear d0 d1 d2 g0 g1 g2 HQ3 HO3
 obtain ⟨d0,d1,d2,g0,g1,g2⟩:=HQ4.out.cells
 have hR4:=(Row.of_own HO4.out).2
 have HSU:=Lib.hid (fun W (h:Below w4.heap.size w4 W)=>asum_all (hR4.mono h))
 have HBY:=Lib.hid (fun W=>abytes_any (w:=W) (adV_lt out))
 have HEQ4:=Lib.hid (fun W (h:Below w4.heap.size w4 W)=>HEQ.out W (HQ4.out.below.trans (h.mono HQ4.out.below.size)))
 clear hR4 HEQ
 go_upto_region 13 with fail
 have e0:w4.drew.cell? ⟨p,0,none⟩=some (.int .i64 ((N:Int)+2)):=d1
 have e1:w4.drew.cell? ⟨o,0,none⟩=some (.slice a1 out.length c1):=d0
 have e2:Below w4.heap.size w4 w4.drew:=(Below.refl _ _).drew
 go_region_held3 (fun w' => w'.cell? ⟨p, 0, none⟩ = some (.int .i64 ((N : Int) + 2)) ∧ w'.cell? ⟨o, 0, none⟩ = some (.slice a1 out.length c1) ∧ Below w4.heap.size w4 w') (first | assumption | exact ⟨e0, e1, e2⟩ | exact heldU (by assumption) hbS | exact heldU (by assumption) hbB)
   (first
     | (go_at_call 106;refine (HSU.out _ (And.right (And.right (by assumption)))).mono ?_;rintro e wS ⟨rfl,hbS⟩)
     | (go_at_call 105;refine (HBY.out _).mono ?_;rintro e wB ⟨vB,rfl,hOB,hbB⟩;obtain ⟨aB,cB,rfl,hrB,-⟩:=Row.of_owns hOB;clear hOB)
     | (go_at_call 104;refine (HEQ4.out _ (And.right (And.right (by assumption))) aB cB (by first|exact hrB|exact hrB.mono (by assumption))).mono ?_;rintro e wE ⟨rfl,rfl⟩))
 have hb4:Below w4.heap.size w4 wB:=And.right (And.right (by assumption))
 have HQ6:=Lib.hid (HQ4.out.next hb4)
 have HO6:=Lib.hid (zay HO4.out hb4)
 clear d0 d1 d2 g0 g1 g2 HQ4 HO4 hb4 HSU HBY HEQ4 e0 e1 e2
 obtain ⟨d0,d1,d2,g0,g1,g2⟩:=HQ6.out.cells
 cases dd with
 | true =>
   rw [if_neg (fun h=>h (of_decide_eq_true HDD.out))] at HU
   have HQ7:=Lib.hid (HQ6.out.set3 (.slice a1 out.length c1) ((N:Int)+6) 0)
   have HO7:=Lib.hid (HQ6.out.own3 HO6.out (.slice a1 out.length c1) (.int .i64 ((N:Int)+6)) (.int .i64 0))
   go_wp2_with fail
   refine door_ok rfl rfl rfl rfl HQ7.out ?_
   rw [HV.out,HU.out]
   exact ⟨_,_,rfl,HO7.out,HQ7.out.below⟩
 | false =>
   rw [if_pos (of_decide_eq_false HDD.out)] at HU
   have HQ7:=Lib.hid (HQ6.out.set3 (.slice a1 out.length c1) ((N:Int)+2) 12)
   go_wp2_with fail
   refine zdC rfl rfl rfl rfl (by decide) HQ7.out (fun W' hb=>?_)
   rw [HV.out,HU.out]
   exact zeo.bad hb
end Go.Proofs.YtkhcjoomijkfbaaGreatDoor.Z
namespace Go.Proofs.YtkhcjoomijkfbaaGreatDoor
open Go.RowKit
theorem fstream_any (v : PV) (sl : Value) (d : ByteArray) (w : World) (hs : ∃ a n c, sl = .slice a n c) : Calls Tryz.prog 63 #[pvA v sl, .string d] w fun e w' => e = .returned (.agg (obC v sl true d)) ∧ Below w.heap.size w w' := by
 obtain ⟨a,n,c,rfl⟩:=hs
 have HB:=Lib.hid ((zah w (.cells #[.int .i64 v.kind,.int .i64 v.n,.string (mkB v.s),.slice a n c] 48)).alloc (by rw [zal];omega) (.cells #[.int .i64 v.kind,.int .i64 v.n,.string (mkB v.s),.slice a n c,.bool true,.string d] 56))
 have HK:=Lib.hid (zac (w:=w.alloc (.cells #[.int .i64 v.kind,.int .i64 v.n,.string (mkB v.s),.slice a n c] 48)) (b:=w.heap.size+1) (.cells #[.int .i64 v.kind,.int .i64 v.n,.string (mkB v.s),.slice a n c,.bool true,.string d] 56) (by rw [zal]))
 unfold pvA obC
 generalize v.kind=k at *
 generalize v.n=m at *
 generalize mkB v.s=s at *
 go_enter Tryz.func63,Tryz.ntmps63
 go_wp2
 refine bodyPost_ret (results_cell_row rfl _ _ (w.heap.size+1) 56 _ (0,0) _ rfl (by exact HK.out) Tryz.underlying56 rfl (by kernel_rfl)) rfl ?_
 exact ⟨rfl,HB.out⟩
theorem unpV_bad {b:List UInt8} {most:Nat} (h:(Z.unpV b most).2.2≠0):(Z.unpV b most).1=[]:=by
 unfold Z.unpV at h ⊢
 split
 · rfl
 · rename_i h1
   rw [if_neg h1] at h
   split
   · rfl
   · rename_i h2
     rw [if_neg h2] at h
     split
     · rfl
     · rename_i h3
       rw [if_neg h3] at h
       split
       · rfl
       · rename_i h4
         rw [if_neg h4] at h
         exact absurd rfl h
theorem unpM_bad {b:List UInt8} {most:Int} (h:(Z.unpM b most).2.2≠0):(Z.unpM b most).1=[]:=by
 unfold Z.unpM at h ⊢
 split
 · rfl
 · rename_i h1
   rw [if_neg h1] at h
   exact unpV_bad h
def UeEnd (w:World) (e:Ending) (w':World):Prop :=
 ∃(a2:Option Addr) (c2:Nat) (ds:List UInt8) (n er:Int),e=.returned (.tuple #[.slice a2 ds.length c2,.int .i64 n,.int .i64 er])∧Row w' 1 a2 ds.length c2 (ds.map u8C)∧(er≠0→ds=[])∧Below w.heap.size w w'
theorem unpack_ends {w:World} {a:Option Addr} {cap:Nat} {b:List UInt8} (hr:Row w 1 a b.length cap (b.map u8C)) (hbl:b.length≤100000):Calls Tryz.prog 62 #[.slice a b.length cap,.int .i64 16777216] w (UeEnd w):=by
 refine (Z.unpack_all (b:=b) 16777216 hr hbl).mono ?_
 rintro e w' ⟨v,B,rfl,hO,hb⟩
 obtain ⟨a2,c2,rfl,hR,-⟩:=Row.of_owns hO
 exact ⟨a2,c2,_,_,_,rfl,hR,unpM_bad,hb⟩
theorem row_zero {w w':World} {a:Option Addr} {c:Nat} {ds:List UInt8} (h:Row w 1 a ds.length c (ds.map u8C)) (hd:ds=[]):Row w' 1 a ds.length c (ds.map u8C):=by
 subst hd
 exact ⟨h.1,h.2.1,h.2.2.1,h.2.2.2.1,fun e=>absurd e (Nat.lt_irrefl _)⟩
structure SkM (w0 w W:World) (p r q m:Nat) (a:Option Addr) (cap:Nat) (bs:List UInt8) (last:Bool) (s:Int×Int) (x n:Array Value):Prop where
 fd:IsFd w0 W p a cap bs last s
 kp:Keeps (fun b=>b=p) w W
 br:W.heap[r]?=some (.cells x 48 (0,0))
 bq:W.heap[q]?=some (.cells #[.int .i64 0,.int .i64 0,.string ⟨#[]⟩,.slice none 0 0,.bool false,.string ⟨#[]⟩] 56 (0,0))
 bm:W.heap[m]?=some (.cells n 48 (0,0))
 lp:p<w.heap.size
 lr:w.heap.size≤r
 lq:w.heap.size≤q
 lm:w.heap.size≤m
 rq:r≠q
section
variable {w0 w W W' : World} {p r q m : Nat} {a : Option Addr} {cap : Nat} {bs : List UInt8} {last : Bool} {s s' : Int × Int} {x n : Array Value}
theorem SkM.step (h : SkM w0 w W p r q m a cap bs last s x n) (hf : IsFd w0 W' p a cap bs last s') (hk : Keeps (fun b => b = p) W W') : SkM w0 w W' p r q m a cap bs last s' x n :=
 ⟨hf,h.kp.trans hk fun _ e=>.inl e,hk.obj h.br (by have:=h.lp;have:=h.lr;omega),hk.obj h.bq (by have:=h.lp;have:=h.lq;omega),hk.obj h.bm (by have:=h.lp;have:=h.lm;omega),h.lp,h.lr,h.lq,h.lm,h.rq⟩
theorem SkM.mono (h:SkM w0 w W p r q m a cap bs last s x n) (hb:Below W.heap.size W W'):SkM w0 w W' p r q m a cap bs last s x n:=h.step (h.fd.mono hb) (zaq hb)
end
end Go.Proofs.YtkhcjoomijkfbaaGreatDoor
namespace Go.Proofs.YtkhcjoomijkfbaaGreatDoor
open Go.RowKit
theorem okS_cases (v:PV) (n:PV) (pm may:Bool):∃ok,ok=(decide (v.kind=7)&&(decide (n.kind=2)&&(decide (0≤n.n)&&(decide (n.n≤16777216)&&(!pm&&may))))) ∧
   (((v.kind != 7)=true∧ok=false)∨((v.kind != 7)=false∧(n.kind != 2)=true∧ok=false)∨((v.kind != 7)=false∧(n.kind != 2)=false∧decide (n.n<0)=true∧ok=false)∨((v.kind != 7)=false∧(n.kind != 2)=false∧decide (n.n<0)=false∧decide (n.n > 16777216)=true∧ok=false) ∨
     ((v.kind != 7)=false∧(n.kind != 2)=false∧decide (n.n<0)=false∧decide (n.n > 16777216)=false∧pm=true∧ok=false)∨((v.kind != 7)=false∧(n.kind != 2)=false∧decide (n.n<0)=false∧decide (n.n > 16777216)=false∧pm=false∧ok=may)):=by
 refine ⟨_,rfl,?_⟩
 by_cases h1:v.kind=7
 · by_cases h2:n.kind=2
   · by_cases h3:n.n<0
     · have h3' : ¬ 0 ≤ n.n := by omega
       simp [h1,h2,h3,h3']
     · have h3' : 0 ≤ n.n := by omega
       by_cases h4:n.n≤16777216
       · have h4' : ¬ 16777216 < n.n := by omega
         cases pm<;>simp [h1,h2,h3',h4,h4']
       · have h4' : 16777216 < n.n := by omega
         simp [h1,h2,h3',h4,h4']
   · simp [h1,h2]
 · simp [h1]
theorem dropV_len (v:PV) (key:List UInt8):(zb2 v key).l.length≤v.l.length:=by
 unfold zb2
 cases zdi v key with
 | none=>exact Nat.le_refl _
 | some k =>
   show (v.l.take k++v.l.drop (k+2)).length≤_
   rw [List.length_append,List.length_take,List.length_drop]
   omega
section
variable {w0 w W : World} {p r q m : Nat} {a : Option Addr} {cap : Nat} {bs : List UInt8} {last : Bool} {s : Int × Int} {x n : Array Value}
theorem SkM.fin (h:SkM w0 w W p r q m a cap bs last s x n) {F G:Nat→Prop} {v:PV} {sl:Value} (hv:IsV W G v sl) (hG:∀b,G b→b≠q∧(F b∨w.heap.size≤b)) (y0 y1 y2 y3 y4 y5:Value) :
   (putO W q y0 y1 y2 y3 y4 y5).heap[q]?=some (.cells #[y0,y1,y2,y3,y4,y5] 56 (0,0))∧IsV (putO W q y0 y1 y2 y3 y4 y5) (fun b=>F b∨w.heap.size≤b) v sl∧IsFd w0 (putO W q y0 y1 y2 y3 y4 y5) p a cap bs last s∧Keeps (fun b=>b=p) w (putO W q y0 y1 y2 y3 y4 y5) :=
 ⟨set6 h.bq y0 y1 y2 y3 y4 y5, (zho hv (fun b hb => (hG b hb).1) y0 y1 y2 y3 y4 y5).weaken fun b hb => (hG b hb).2,
   ⟨(zdm (by have:=h.lp;have:=h.lq;omega) y0 y1 y2 y3 y4 y5).trans h.fd.blk,h.fd.new,h.fd.row,zeN h.fd.bel (Nat.le_trans h.fd.new (Nat.le_of_lt (Nat.lt_of_lt_of_le h.lp h.lq))) y0 y1 y2 y3 y4 y5,h.fd.small⟩,
   (((((h.kp.setCell (a:=⟨q,0,none⟩) (.inr h.lq) y0).setCell (a:=⟨q,1,none⟩) (.inr h.lq) y1).setCell (a:=⟨q,2,none⟩) (.inr h.lq) y2).setCell (a:=⟨q,3,none⟩) (.inr h.lq) y3).setCell (a:=⟨q,4,none⟩) (.inr h.lq) y4).setCell (a:=⟨q,5,none⟩) (.inr h.lq) y5⟩
end
def SteP (w0 w:World) (p:Nat) (a:Option Addr) (cap:Nat) (bs:List UInt8) (last:Bool) (F:Nat→Prop) (D:Int×Int) (e:Ending) (w':World):Prop :=
 ∃(v2:PV) (sl2:Value) (d:ByteArray) (at2 er:Int),e=.returned (.agg (obC v2 sl2 true d))∧IsV w' (fun b=>F b∨w.heap.size≤b) v2 sl2∧(v2.kind=7→v2.l.length % 2=0)∧IsFd w0 w' p a cap bs last (at2,er)∧Keeps (fun b=>b=p) w w'∧(D.2≠0→er=D.2)∧(D.2=0→er=0∨er=18)
theorem stream_ok {a:Option Addr} {cap:Nat} {bs:List UInt8} {last:Bool} (hbs:bs.length≤100000):StreamC a cap bs last:=by
 intro w0 w p at0 v sl F hfd h0 h1 hv hnp hev hvl
 obtain ⟨va,vc,rfl,-,-,-⟩:=hv.len
 have HG:=Lib.hid (fun W (hb:Below w.heap.size w W)=>zea (hv.below hb) hev zbg)
 have HP:=Lib.hid (fun W (hb:Below w.heap.size w W)=>fpacked_any (hv.below hb) hev)
 have HH:=Lib.hid (fun W (hb:Below w.heap.size w W)=>fhas_any (hv.below hb) hev kParms)
 have HV:=Lib.hid hv
 have HBS:=Lib.hid hbs
 have HVL:=Lib.hid (show v.l.length≤1000000 by omega)
 have HEV:=Lib.hid hev
 have HNP:=Lib.hid hnp
 have HIN:=Lib.hid (strmL_in (bs:=bs) (last:=last) (v:=v) h0 h1)
 have HLN:=Lib.hid (fun h=>okS_len (v:=v) (strmL_ok (bs:=bs) (last:=last) (a:=at0) h))
 have hb0:=(zah w (.cells #[.int .i64 v.kind,.int .i64 v.n,.string (mkB v.s),.slice va v.l.length vc] 48)).alloc (by rw [zal];omega) (.cells #[.int .i64 0,.int .i64 0,.string ⟨#[]⟩,.slice none 0 0,.bool false,.string ⟨#[]⟩] 56)
 have HB0:=Lib.hid hb0
 have HZ0:=Lib.hid (show ((w.alloc (.cells #[.int .i64 v.kind,.int .i64 v.n,.string (mkB v.s),.slice va v.l.length vc] 48)).alloc (.cells #[.int .i64 0,.int .i64 0,.string ⟨#[]⟩,.slice none 0 0,.bool false,.string ⟨#[]⟩] 56)).heap[w.heap.size]?=some (.cells #[.int .i64 v.kind,.int .i64 v.n,.string (mkB v.s),.slice va v.l.length vc] 48 (0,0)) ∧
   ((w.alloc (.cells #[.int .i64 v.kind,.int .i64 v.n,.string (mkB v.s),.slice va v.l.length vc] 48)).alloc (.cells #[.int .i64 0,.int .i64 0,.string ⟨#[]⟩,.slice none 0 0,.bool false,.string ⟨#[]⟩] 56)).heap[w.heap.size+1]?=some (.cells #[.int .i64 0,.int .i64 0,.string ⟨#[]⟩,.slice none 0 0,.bool false,.string ⟨#[]⟩] 56 (0,0)) from ⟨zak _ (zac _ rfl),zac _ (by rw [zal])⟩)
 have HFD:=Lib.hid hfd
 obtain ⟨ok,hok,hcs⟩:=okS_cases v (lenV v) (getP (getV v kParms)).2 (mayV v)
 have hok2:okS v=ok:=hok.symm
 have hSL:zb9 bs last v at0=zbR bs last (at0,if ok=true then 0 else 18):=by unfold zb9;rw [hok2]
 have HSL:=Lib.hid hSL.symm
 have HSB:=Lib.hid (show bytS bs last (lenV v).n (zb9 bs last v at0)=zez bs last v at0 from rfl)
 have HSD:=Lib.hid (show zbV bs last zck (zbV bs last zdz (zez bs last v at0))=zfc bs last v at0 from rfl)
 have HIS:=Lib.hid (show ∀y,getP (getV v zbg)=y→y.1=lenV v from fun y h=>by rw [←h];rfl)
 have HD1:=Lib.hid (fun (G:Nat→Prop) W (hx:IsV W G v (.slice va v.l.length vc))=>show Calls Tryz.prog 64 #[.agg #[.int .i64 v.kind,.int .i64 v.n,.string (mkB v.s),.slice va v.l.length vc],.string ⟨#[76,101,110,103,116,104]⟩] W (zhH W G (zb2 v zbg)) from vdrop_any hx hev (by omega) zbg)
 have HD2:=Lib.hid (fun (G:Nat→Prop) W sl2 (hx:IsV W G (zb2 v zbg) sl2)=>show Calls Tryz.prog 64 #[pvA (zb2 v zbg) sl2,.string ⟨#[70,105,108,116,101,114]⟩] W (zhH W G (zb2 (zb2 v zbg) za1)) from vdrop_any hx (zeX hev) (Nat.le_trans (dropV_len v zbg) (by omega)) za1)
 have HST:=Lib.hid (fun sl d W hs=>show Calls Tryz.prog 63 #[pvA (zb2 (zb2 v zbg) za1) sl,.string d] W (fun e w'=>e=.returned (.agg #[.int .i64 (zb2 (zb2 v zbg) za1).kind,.int .i64 (zb2 (zb2 v zbg) za1).n,.string (mkB (zb2 (zb2 v zbg) za1).s),sl,.bool true,.string d])∧Below W.heap.size W w') from fstream_any _ sl d W hs)
 have HE3:=Lib.hid (zeX (key:=za1) (zeX (key:=zbg) hev))
 generalize zb2 (zb2 v zbg) za1=V2 at *
 generalize zb2 v zbg=V1 at *
 clear hok hok2 hSL hfd hv hb0 hbs hev hnp hvl
 show Calls _ _ _ _ (SteP w0 w p a cap bs last F (zfc bs last v at0))
 generalize zfc bs last v at0=SD at *
 generalize zez bs last v at0=SB at *
 generalize zb9 bs last v at0=SL at *
 obtain ⟨N,hN⟩:∃N,N=lenV v:=⟨_,rfl⟩
 rw [←hN] at HIS HSB HLN hcs
 clear hN
 generalize mayV v=may at *
 generalize (getP (getV v kParms)).2=pm at *
 generalize (getP (getV v za1)).2=is at *
 generalize getP (getV v zbg)=G at *
 obtain ⟨g,gis⟩:=G
 obtain rfl:g=N:=HIS.out _ rfl
 unfold zgS at HG
 dsimp only at HG
 have HV2:=Lib.hid HV.out
 clear HIS
 unfold pvA at HG HP HH ⊢
 generalize v.kind=vk at *
 generalize v.n=vn at *
 generalize mkB v.s=vs at *
 obtain ⟨vl,hvl⟩:∃vl,vl=v.l.length:=⟨_,rfl⟩
 rw [←hvl] at HG HP HH HB0 HZ0 HV2 HVL HD1 ⊢
 have HVE:=Lib.hid hvl
 clear hvl
 go_enter Tryz.func38,Tryz.ntmps38
 go_upto_region 1 with fail
 obtain ⟨r,hr⟩:∃r,r=w.heap.size:=⟨_,rfl⟩
 obtain ⟨q,hq⟩:∃q,q=r+1:=⟨_,rfl⟩
 rw [←hr] at HZ0 ⊢
 rw [←hq] at HZ0 ⊢
 have HRQ:=Lib.hid (show r<q∧w.heap.size≤r from by omega)
 clear hr hq
 generalize (w.alloc _).alloc _=W0 at *
 obtain ⟨⟨c0,c1,c2,c3⟩,-⟩:=zaf HZ0.out.1
 go_wp2_with fail
 refine (HG.out _ HB0.out).mono ?_
 rintro e w1 ⟨sl2,rfl,hx,hb1⟩
 obtain ⟨na,nc,rfl,-,-,-⟩:=hx.len
 have hb2:=zah w1 (.cells #[.int .i64 g.kind,.int .i64 g.n,.string (mkB g.s),.slice na g.l.length nc] 48)
 have HM:=Lib.hid (show SkM w0 w (w1.alloc (.cells #[.int .i64 g.kind,.int .i64 g.n,.string (mkB g.s),.slice na g.l.length nc] 48)) p r q w1.heap.size a cap bs last (at0,0) #[.int .i64 vk,.int .i64 vn,.string vs,.slice va vl vc] #[.int .i64 g.kind,.int .i64 g.n,.string (mkB g.s),.slice na g.l.length nc] from
   ⟨HFD.out.mono ((HB0.out.trans (hb1.mono HB0.out.size)).trans (hb2.mono (by have:=HB0.out.size;have:=hb1.size;omega))),zaq ((HB0.out.trans (hb1.mono HB0.out.size)).trans (hb2.mono (by have:=HB0.out.size;have:=hb1.size;omega))),zab hb2 (zab hb1 HZ0.out.1),zab hb2 (zab hb1 HZ0.out.2),zac _ rfl,HFD.out.lt,HRQ.out.2,by have:=HRQ.out;omega,by have:=HB0.out.size;have:=hb1.size;omega,by have:=HRQ.out;omega⟩)
 have HB2:=Lib.hid ((HB0.out.trans (hb1.mono HB0.out.size)).trans (hb2.mono (by have:=HB0.out.size;have:=hb1.size;omega)))
 clear hx hb1 hb2 HG HFD HB0 HZ0 c0 c1 c2 c3 HRQ
 go_upto_region 2 with fail
 obtain ⟨m,hm⟩:∃m,m=w1.heap.size:=⟨_,rfl⟩
 rw [←hm] at HM ⊢
 clear hm
 generalize w1.alloc _=W1 at *
 generalize g.kind=gk at *
 generalize g.n=gn at *
 generalize mkB g.s=gs at *
 generalize g.l.length=gl at *
 obtain ⟨⟨c0,c1,c2,c3⟩,-⟩:=zaf HM.out.br
 go_wp2_with fail
 refine (HP.out _ HB2.out).mono ?_
 rintro e w2 ⟨rfl,hb3⟩
 have HM2:=Lib.hid (HM.out.mono hb3)
 have HB3:=Lib.hid (HB2.out.trans (hb3.mono HB2.out.size))
 clear hb3 HM HP HB2 c0 c1 c2 c3
 obtain ⟨⟨c0,c1,c2,c3⟩,-⟩:=zaf HM2.out.br
 obtain ⟨⟨m0,m1,m2,m3⟩,-⟩:=zaf HM2.out.bm
 go_upto_region 3 with fail
 go_cut [48] from 25 (fun v wc=>v=.bool (!ok)∧Hid (Below w2.heap.size w2 wc))
 case first =>
   rcases hcs with ⟨k1,rfl⟩|⟨k1,k2,rfl⟩|⟨k1,k2,k3,rfl⟩|⟨k1,k2,k3,k4,rfl⟩|⟨k1,k2,k3,k4,rfl,rfl⟩|⟨k1,k2,k3,k4,rfl,rfl⟩
   all_goals
     go_wp2_with (go_at_call 59;refine (HH.out _ HB3.out).mono ?_;rintro e w3 ⟨rfl,hb4⟩)
   all_goals go_meet
   all_goals first
     | exact ⟨rfl,Lib.hid (Below.refl _ _)⟩
     | exact ⟨rfl,Lib.hid hb4⟩
 case rest =>
 obtain ⟨rfl,HB4⟩:=hcut
 have HM3:=Lib.hid (HM2.out.mono HB4.out)
 clear HM2 HB4 HB3 HH hcs c0 c1 c2 c3 m0 m1 m2 m3
 go_upto_if 48 with fail
 go_cut [7] from 9 (fun v7 wx=>v7=.bool is∧Hid (SkM w0 w wx p r q m a cap bs last (at0,if ok=true then 0 else 18) #[.int .i64 vk,.int .i64 vn,.string vs,.slice va vl vc] #[.int .i64 gk,.int .i64 gn,.string gs,.slice na gl nc]))
 case first =>
   cases ok with
   | true =>
     go_wp2_with fail
     go_meet
     exact ⟨rfl,HM3⟩
   | false =>
     go_wp2_with fail
     refine (zc3 HM3.out.fd 18).mono ?_
     rintro e w4 ⟨rfl,f4,k4⟩
     have HM4:=Lib.hid (HM3.out.step f4 k4)
     clear f4 k4 HM3
     go_wp2_with fail
     go_meet
     exact ⟨rfl,HM4⟩
 case rest =>
 obtain ⟨rfl,HM4⟩:=hcut
 clear HM3
 generalize (if ok=true then (0:Int) else 18)=e0 at *
 go_wp2_with fail
 refine (fline_any HM4.out.fd h0 h1).mono ?_
 rintro e w4 ⟨rfl,f4,k4⟩
 rw [HSL.out] at f4
 have HM5:=Lib.hid (HM4.out.step f4 k4)
 clear f4 k4 HM4 HSL
 obtain ⟨⟨m0,m1,m2,m3⟩,-⟩:=zaf HM5.out.bm
 go_wp2_with fail
 refine (fbytes_any HM5.out.fd gn (fun h=>?_)).mono ?_
 · exact ⟨(HIN.out h).1,(HIN.out h).2,(HLN.out h).1⟩
 rintro e w5 ⟨ds,da,dc,rfl,hrd,hld,f5,k5⟩
 rw [HSB.out] at f5
 have HM6:=Lib.hid (HM5.out.step f5 k5)
 have HRD:=Lib.hid hrd
 have HLD:=Lib.hid hld
 clear f5 k5 HM5 HSB hrd hld m0 m1 m2 m3
 have HW1:=Lib.hid (zf9 HM6.out.fd zdz)
 go_wp2_with fail
 refine HW1.out.mono ?_
 rintro e w6 ⟨rfl,f6,k6⟩
 have HM7:=Lib.hid (HM6.out.step f6 k6)
 clear f6 k6 HM6 HW1
 have HW2:=Lib.hid (zf9 HM7.out.fd zck)
 go_wp2_with fail
 refine HW2.out.mono ?_
 rintro e w7 ⟨rfl,f7,k7⟩
 rw [HSD.out] at f7
 have HM8:=Lib.hid (HM7.out.step f7 k7)
 clear f7 k7 HM7 HW2 HSD
 go_upto_region 9 with fail
 obtain ⟨at2,er⟩:=SD
 obtain ⟨z,hz,hz1,hz2⟩:∃z,(er==0)=z∧(z=true→er=0)∧(z=false→er≠0):=by
   by_cases h:er=0
   · exact ⟨true,by rw [h];rfl,fun _=>h,fun e=>by cases e⟩
   · exact ⟨false,by rw [beq_eq_false_iff_ne];exact h,fun e=>(by cases e),fun _=>h⟩
 have HZ:=Lib.hid (And.intro hz1 hz2)
 clear hz1 hz2
 obtain ⟨⟨d0,d1,d2,d3⟩,-⟩:=HM8.out.fd.cells
 dsimp only at d1 d3
 go_cut [68] from 61 (fun v wx=>v=.bool (is&&z)∧wx=w7)
 case first =>
   cases is<;>(go_wp2_with fail;go_meet;exact ⟨rfl,rfl⟩)
 case rest =>
 obtain ⟨rfl,rfl⟩:=hcut
 clear d0 d1 d2 d3 hz
 have HRW:=Lib.hid (HRD.out.mono HM8.out.fd.bel)
 go_upto_if 68 with fail
 go_cut [9] from 10 (fun v9 wx=>∃(a2:Option Addr) (c2:Nat) (es:List UInt8) (e2:Int),v9=.slice a2 es.length c2∧Hid (Row wx 1 a2 es.length c2 (es.map u8C))∧Hid (SkM w0 w wx p r q m a cap bs last (at2,e2) #[.int .i64 vk,.int .i64 vn,.string vs,.slice va vl vc] #[.int .i64 gk,.int .i64 gn,.string gs,.slice na gl nc])∧Hid ((er≠0→e2=er)∧(er=0→e2=0∨e2=18)))
 case first =>
   obtain ⟨c,hc,hc1⟩:∃c,(is&&z)=c∧(c=true→er=0):=⟨_,rfl,fun h=>HZ.out.1 (by simp at h;exact h.2)⟩
   rw [hc]
   clear hc
   cases c with
   | false =>
     go_wp2_with fail
     go_meet
     exact ⟨da,dc,ds,er,rfl,HRW,HM8,Lib.hid ⟨fun _=>rfl,fun h=>.inl h⟩⟩
   | true =>
     obtain rfl:er=0:=hc1 rfl
     have HU:=Lib.hid (unpack_ends HRW.out (by have:=HLD.out;have:=HBS.out;omega))
     go_wp2_with fail
     refine HU.out.mono ?_
     rintro e w8 ⟨a2,c2,es,n2,e3,rfl,hr8,he3,hb8⟩
     have HM9:=Lib.hid (HM8.out.mono hb8)
     have HR9:=Lib.hid hr8
     have HE3:=Lib.hid he3
     clear hr8 he3 hb8 HM8 HU
     by_cases h3:e3=0
     · subst h3
       go_wp2_with fail
       go_meet
       exact ⟨a2,c2,es,0,rfl,HR9,HM9,Lib.hid ⟨fun h=>absurd rfl h,fun _=>.inl rfl⟩⟩
     · have b1 : (e3 == 0) = false := by rw [beq_eq_false_iff_ne]; exact h3
       have b2:(e3 != 0)=true:=by simp only [bne,b1,Bool.not_false]
       have HNIL:=Lib.hid (HE3.out h3)
       clear h3 HE3
       go_wp2_with fail
       refine (zc3 HM9.out.fd 18).mono ?_
       rintro e w9 ⟨rfl,f9,k9⟩
       have HM10:=Lib.hid (HM9.out.step f9 k9)
       have HR10:=Lib.hid (row_zero (w':=w9) HR9.out HNIL.out)
       clear f9 k9 HM9 HR9
       go_wp2_with fail
       go_meet
       exact ⟨a2,c2,es,18,rfl,HR10,HM10,Lib.hid ⟨fun h=>absurd rfl h,fun _=>.inr rfl⟩⟩
 case rest =>
 obtain ⟨a2,c2,es,e2,rfl,HR9,HM9,HE9⟩:=hcut
 clear HM8 HRW HRD HLD
 have HVW := Lib.hid (show IsV wc (fun b => F b ∧ b < w.heap.size) v (.slice va vl vc) from by
   have h:=IsV.keep (G:=fun b=>F b∧b<w.heap.size) (zaU.of_keeps HM9.out.kp (fun b (hb:F b∧b<w.heap.size) e=>HNP.out (e▸hb.1))) (fun _ h=>h) v (IsV.lt v HV.out)
   rw [←HVE.out] at h
   exact h)
 have HC9:=Lib.hid (fun W (h:Below wc.heap.size wc W)=>conv29 (HR9.out.mono h))
 generalize mkB es=dd at *
 have hcv:=fun W (h:Below wc.heap.size wc W)=>HC9.out W h
 have e0:Below wc.heap.size wc wc:=Below.refl _ _
 have e1:Below wc.heap.size wc wc.drew:=(Below.refl _ _).drew
 obtain ⟨⟨c0,c1,c2',c3⟩,-⟩:=zaf HM9.out.br
 have HQ:=Lib.hid (zag HM9.out.bq)
 clear HR9 HC9
 go_upto_region 14 with fail
 go_region_with (first
   | (go_at_call 64;(with_reducible refine (HD1.out _ _ (HVW.out.below e1)).mono ?_);rintro e w10 ⟨s1,rfl,hx1,hb1⟩;have hB1:Below wc.heap.size wc w10:=e1.trans hb1)
   | (go_at_call 64;(with_reducible refine (HD2.out _ _ _ hx1).mono ?_);rintro e w11 ⟨s2,rfl,hx2,hb2⟩;have hB2:Below wc.heap.size wc w11:=hB1.trans (hb2.mono hB1.size);obtain ⟨sa,sc,rfl,-,-,-⟩:=hx2.len)
   | (go_at_call 63;(with_reducible refine (HST.out _ _ _ ⟨_,_,_,rfl⟩).mono ?_);rintro e w12 ⟨rfl,hb3⟩;have hB3:Below wc.heap.size wc w12:=hB2.trans (hb3.mono hB2.size);have HM12:=Lib.hid (HM9.out.mono hB3);obtain ⟨⟨q0,q1,q2,q3,q4,q5⟩,g0,g1,g2,g3,g4,g5⟩:=zc4 HM12.out.bq))
 all_goals
   have hfin := HM12.out.fin (F := F) (hx2.below hb3) (fun b hb => by
     have h1:=HQ.out
     have h2:wc.heap.size≤w10.heap.size:=hB1.size
     have h3:w.heap.size≤q:=HM9.out.lq
     have h4:w.heap.size≤wc.heap.size:=HM9.out.kp.size
     rcases hb with (hb|hb)|hb
     · exact ⟨by have:=hb.2;omega,.inl hb.1⟩
     · have hb':wc.heap.size≤b:=hb
       exact ⟨by omega,.inr (by omega)⟩
     · exact ⟨by omega,.inr (by omega)⟩) (.int .i64 V2.kind) (.int .i64 V2.n) (.string (mkB V2.s)) (.slice sa V2.l.length sc) (.bool true) (.string dd)
   go_wp2_with fail
   refine bodyPost_ret (results_cell_row rfl _ _ q 56 _ (0,0) _ rfl (by exact hfin.1) Tryz.underlying56 rfl (by kernel_rfl)) rfl ?_
   exact ⟨V2,.slice sa V2.l.length sc,dd,at2,e2,rfl,hfin.2.1,HE3.out,hfin.2.2.1,hfin.2.2.2,HE9.out.1,HE9.out.2⟩
end Go.Proofs.YtkhcjoomijkfbaaGreatDoor
namespace Go.Proofs.YtkhcjoomijkfbaaGreatDoor
open Go.RowKit
theorem row_takeL {w:World} {a:Option Addr} {cap:Nat} {bs:List UInt8} (h:Row w 1 a bs.length cap (bs.map u8C)) (q:Nat) (hq:q≤bs.length):Row w 1 a (bs.take q).length cap ((bs.take q).map u8C):=by
 obtain ⟨h1,h2,h3,h4,h5⟩:=h
 have e:(bs.take q).length=q:=by rw [List.length_take];omega
 rw [e]
 refine ⟨by simp;omega,by omega,h3,h4,fun h0=>?_⟩
 obtain ⟨b,off,ha,hb,hc⟩:=h5 (by omega)
 refine ⟨b,off,ha,hb,fun j u hj=>hc j u ?_⟩
 rw [List.getElem?_map] at hj ⊢
 obtain ⟨x,hx,hxu⟩:=Option.map_eq_some_iff.1 hj
 rw [List.getElem?_take] at hx
 split at hx
 · rw [hx];exact congrArg some hxu
 · cases hx
theorem zgK {w:World} {a:Option Addr} {cap:Nat} {bs:List UInt8} {last:Bool} (hr:Row w 1 a bs.length cap (bs.map u8C)) (hn:bs.length≤500) (total:Int) :
   Calls Tryz.prog 13 #[.slice a bs.length cap,.bool last,.int .i64 total] w (LpEnd w (linV bs last total)) :=
 zgV hr (by omega) (fun _=>stream_ok (by omega)) total
theorem law_lstays {w:World} {a:Option Addr} {cap:Nat} {bs:List UInt8} (hr:Row w 1 a bs.length cap (bs.map u8C)) (_hal:∀x,a=some x→x.block<w.heap.size) {M:Int} (hM:0≤M∧M<65536) (last:Bool) {total:Int} (_hT:-9223372036854775808≤total∧total≤9223372036854775807) :
   Calls Tryz.prog 7 #[.slice a bs.length cap,.int .u16 M,.bool last,.int .i64 total] w fun e w'=>e=.returned (.bool true)∧Below w.heap.size w w':=by
 have HW:=Lib.hid (fun W=>works29 W)
 by_cases hbig:500<bs.length
 · have hb2:decide (500<bs.length)=true:=decide_eq_true hbig
   have hb3:decide ((500:Int)<bs.length)=true:=decide_eq_true (by omega)
   clear hr hbig
   generalize bs.length=bl at *
   go_enter Tryz.func7,Tryz.ntmps7
   go_wp2_with (go_at_call 12;refine (HW.out _).mono ?_;rintro e w' ⟨rfl,hb⟩)
   go_ret
   exact ⟨rfl,hb⟩
 obtain ⟨m,rfl⟩:∃m:Nat,M=m:=⟨M.toNat,by omega⟩
 obtain ⟨q,hq⟩:∃q,q=m % (bs.length+1):=⟨_,rfl⟩
 have hql:q≤bs.length:=by
   have:=Nat.mod_lt m (show bs.length+1 > 0 by omega)
   omega
 have hqe:(m:Int) % ((bs.length:Int)+1)=(q:Int):=by rw [hq];push_cast;rfl
 have hb2:decide (500<bs.length)=false:=decide_eq_false hbig
 have hb3:decide ((500:Int)<bs.length)=false:=decide_eq_false (by omega)
 have hl4:bs.length≤500:=by omega
 have hM0:(0:Int)≤(m:Int):=by omega
 have hM1:(m:Int)≤65535:=by omega
 clear hbig hq hM
 have hqc:q≤cap:=by have:=hr.2.1;omega
 have hcc:=hr.i64c
 have hlq:(bs.take q).length=q:=by rw [List.length_take];omega
 have HT:=Lib.hid (row_takeL hr q hql)
 have HN1:=Lib.hid (fun (W:World) (h:Below w.heap.size w W)=>zgK (last:=false) (HT.out.mono h) (by omega) total)
 have HN2:=Lib.hid (fun (W:World) (h:Below w.heap.size w W)=>zgK (last:=last) (hr.mono h) (by omega) total)
 rw [hlq] at HN1
 have hst:=fun h6=>linV_stays (bs:=bs) (total:=total) last hql h6
 have hsx:=fun h6=>linV_six (bs:=bs.take q) (last:=false) (total:=total) h6
 have hnil:a=none→cap=0:=hr.2.2.2.1
 obtain ⟨V,hV⟩:∃V,V=linV (bs.take q) false total:=⟨_,rfl⟩
 rw [←hV] at HN1 hst hsx
 clear hV
 obtain ⟨l,er⟩:=V
 dsimp only at hst hsx
 unfold LpEnd linA at HN1
 dsimp only at HN1
 by_cases h6:er=6
 · have hl0:=hsx h6
   subst h6
   obtain rfl:l={}:=(Prod.mk.inj hl0).1
   clear hst hsx hl0 hr HT HN2 hlq
   generalize bs.length=bl at *
   go_enter Tryz.func7,Tryz.ntmps7
   go_wp2_with fail
   refine (HN1.out _ (Below.refl _ _)).mono ?_
   rintro e w1 ⟨rfl,hb1⟩
   have HB1:=Lib.hid (hb1.alloc hb1.size (.cells #[.int .i64 0,.int .i64 0,.int .i64 0,.int .i64 0,.int .i64 0,.int .i64 0,.int .i64 0] 23))
   have HK1:=Lib.hid (zac (w:=w1) (b:=w1.heap.size) (.cells #[.int .i64 0,.int .i64 0,.int .i64 0,.int .i64 0,.int .i64 0,.int .i64 0,.int .i64 0] 23) rfl)
   clear hb1 HN1
   go_upto_region 5 with fail
   generalize w1.heap.size=r at *
   generalize w1.alloc _=W1 at *
   obtain ⟨c0,c1,c2,c3,c4,c5,c6⟩:=za4 HK1.out
   go_wp2_with (go_at_call 12;refine (HW.out _).mono ?_;rintro e w2 ⟨rfl,hb2⟩)
   go_ret
   exact ⟨rfl,HB1.out.trans (hb2.mono HB1.out.size)⟩
 rw [hst h6] at HN2
 unfold LpEnd linA at HN2
 dsimp only at HN2
 have e6:(er==6)=false:=by rw [beq_eq_false_iff_ne];exact h6
 clear hst hsx hr HT hlq h6
 generalize bs.length=bl at *
 go_enter Tryz.func7,Tryz.ntmps7
 go_wp2_with fail
 refine (HN1.out _ (Below.refl _ _)).mono ?_
 rintro e w1 ⟨rfl,hb1⟩
 have HB1:=Lib.hid (hb1.alloc hb1.size (.cells #[.int .i64 l.len,.int .i64 l.at_,.int .i64 l.n,.int .i64 l.obj,.int .i64 l.fin,.int .i64 l.pages,.int .i64 l.main] 23))
 have HK1:=Lib.hid (zac (w:=w1) (b:=w1.heap.size) (.cells #[.int .i64 l.len,.int .i64 l.at_,.int .i64 l.n,.int .i64 l.obj,.int .i64 l.fin,.int .i64 l.pages,.int .i64 l.main] 23) rfl)
 clear hb1 HN1
 go_upto_region 5 with fail
 obtain ⟨r,hr⟩:∃r,r=w1.heap.size:=⟨_,rfl⟩
 rw [←hr] at HK1 ⊢
 clear hr
 generalize w1.alloc _=W1 at *
 go_upto_region 7 with fail
 go_wp2_with fail
 refine (HN2.out _ HB1.out).mono ?_
 rintro e w2 ⟨rfl,hb2⟩
 have hb3:=hb2.alloc hb2.size (.cells #[.int .i64 l.len,.int .i64 l.at_,.int .i64 l.n,.int .i64 l.obj,.int .i64 l.fin,.int .i64 l.pages,.int .i64 l.main] 23)
 have HB2:=Lib.hid (HB1.out.trans (hb3.mono HB1.out.size))
 have HK2:=Lib.hid (zab hb3 HK1.out)
 have HX2:=Lib.hid (zac (w:=w2) (b:=w2.heap.size) (.cells #[.int .i64 l.len,.int .i64 l.at_,.int .i64 l.n,.int .i64 l.obj,.int .i64 l.fin,.int .i64 l.pages,.int .i64 l.main] 23) rfl)
 clear hb2 hb3 HN2 HB1 HK1
 go_upto_region 8 with fail
 obtain ⟨y,hy⟩:∃y,y=w2.heap.size:=⟨_,rfl⟩
 rw [←hy] at HX2 ⊢
 clear hy
 generalize w2.alloc _=W2 at *
 obtain ⟨c0,c1,c2,c3,c4,c5,c6⟩:=za4 HK2.out
 obtain ⟨x0,x1,x2,x3,x4,x5,x6⟩:=za4 HX2.out
 go_wp2_with (go_at_call 12;refine (HW.out _).mono ?_;rintro e w3 ⟨rfl,hb3⟩)
 go_ret
 exact ⟨rfl,HB2.out.trans (hb3.mono HB2.out.size)⟩
end Go.Proofs.YtkhcjoomijkfbaaGreatDoor
namespace Go.Proofs.YtkhcjoomijkfbaaGreatDoor
open Go.RowKit Go.ChangeShapes Go.WideShapes
theorem bytes_z {H : Type} {enc : TypeId × Value → H} {w : World} {a : Option Addr} {n cap : Nat} {d : DataW H} {p : List MemPlace} (h : DataW.Trod enc Tryz.prog w 0 (fun _ => true) true 24 (.slice a n cap) d p) :
   ∃bs:List UInt8,bs.length=n∧Row w 1 a bs.length cap (bs.map fun x=>.int .u8 x.toNat):=by
 obtain ⟨fuel,hf⟩:=h
 rcases open_ints Tryz.underlying24 Tryz.underlying5 (by kernel_rfl) hf with ⟨hcs,_⟩|⟨x,l,c,zs,hcs,_,hl,hm,hz,_,hcell,hwz⟩
 · simp [Value.cells] at hcs
   obtain ⟨rfl,rfl,rfl⟩:=hcs
   exact ⟨[],rfl,Row.nil w 1⟩
 · simp [Value.cells] at hcs
   obtain ⟨rfl,rfl,rfl⟩:=hcs
   exact row_bytes (w:=w) (a:=some x) (len:=n) (cap:=cap) (zs:=zs) (.inr ⟨x,rfl,hl,hm,by simpa using hz,hcell,hwz⟩)
theorem al_z {P : Program} {w : World} {base : Nat} {t e : TypeId} {a : Option Addr} {n cap : Nat} (ht : P.underlying t = some (.slice e)) (h : Value.okWide P w .any base t (.slice a n cap)) : ∀ x, a = some x → x.block < w.heap.size := fun x hx => by
 subst hx
 simp only [Value.okWide,ht,Cell.okWide,Cell.ok,World.has] at h
 obtain ⟨-,-,-,-,row,cells,hs,-⟩:=h
 unfold World.shape? at hs
 rcases Nat.lt_or_ge x.block w.heap.size with h1|h1
 · exact h1
 · rw [Array.getElem?_eq_none h1] at hs;simp at hs
end Go.Proofs.YtkhcjoomijkfbaaGreatDoor
