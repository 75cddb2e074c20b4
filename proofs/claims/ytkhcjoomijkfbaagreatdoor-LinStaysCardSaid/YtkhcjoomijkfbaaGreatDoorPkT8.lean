/-
  Our texts Ps9 to Lm4, in one.
-/
import Derived.Test.YtkhcjoomijkfbaaGreatDoorPkT7
import Derived.Maps.AppendAt
import Derived.Deep.RegionLaw
import Derived.Deep.AppendLies
import Derived.Deep.Cut
set_option maxRecDepth 8000
set_option maxHeartbeats 8000000
namespace Go.Proofs.YtkhcjoomijkfbaaGreatDoor
open Go.RowKit Go.Shelf Go.Sort
attribute [local go_sem] Oper.semAt_some
theorem EPart:(Tryz.prog.info? 46).map (fun i=>(i.zero,i.size,i.bytes))=some (some (.slice none 0 0),1,24):=by kernel_rfl
def PairsEnd (w:World) (F:Nat→Prop) (R:Option (List PV)) (e:Ending) (w':World):Prop :=
 Below w.heap.size w w'∧match R with
   | none=>e=.returned (.tuple #[.slice none 0 0,.int .i64 16])
   | some m=>∃v cs',e=.returned (.tuple #[v,.int .i64 0])∧w'.ownsRow w.heap.size 48 4 v m.length cs'∧IsVs w' F m cs'
theorem put_part {W w1:World} {base B Bs Bn:Nat} {v v':Value} {k:Nat} {xs:List Value} {tmp:Obj} (hrow:W.ownsRow base 46 1 v k xs) (hgrow:(W.alloc tmp).grownBy w1 v.ownBlock)
   (h1:Bs<base) (h2:Bn<base) (h3:Bs≠B) (h4:Bn≠B) (hb:base≤W.heap.size):zaU (fun c=>c=Bs∨c=Bn) W (w1.setCell ⟨B,0,none⟩ v'):=by
 have hs:=hgrow.size
 rw [zal] at hs
 have key : ∀ c, c < base → c ≠ B → (w1.setCell ⟨B, 0, none⟩ v').heap[c]? = W.heap[c]? := fun c hc hcB => by
   rw [heap_setCell_other _ _ _ _ hcB,hgrow.block c (by rw [zal];omega) (fun e=>by have:=(hrow.lt c e.symm).1;omega)]
   exact Below.heap_alloc W tmp c (by omega)
 refine ⟨by simp [World.setCell];omega,fun c _ hc=>?_⟩
 rcases hc with rfl|rfl
 · exact key _ h1 h3
 · exact key _ h2 h4
theorem eq_mkB' (a b:List UInt8):((mkB a).toList==(mkB b).toList)=decide (a=b):=by
 rw [zbB,zbB];by_cases h:a=b<;>simp [h]
set_option maxRecDepth 100000 in
theorem pairs_any {w:World} {F:Nat→Prop} {l:List PV} {a:Option Addr} {cap:Nat} {cs:List Value} {m:Nat} (hr:Row w 4 a (2 * m) cap cs) (h:IsVs w F l cs) (hm:2 * m=l.length) (hl:m≤200000) :
   Calls Tryz.prog 163 #[.slice a (2 * m) cap] w (PairsEnd w F (zcJ l)):=by
 have hro:Fence.wide.round=none:=rfl
 obtain ⟨i0,hi,hz0,hz1,hz2⟩:=info_parts EPart
 have hcap:=hr.2.1
 have hcm:=hr.2.2.1
 obtain ⟨b,off,hab,hbw⟩:∃b off,(0<m→a=some ⟨b,off,none⟩)∧b<w.heap.size+1:=by
   rcases Nat.eq_zero_or_pos m with h0|h0
   · exact ⟨0,0,fun h=>by omega,by omega⟩
   · obtain ⟨b, off, e, hb, _⟩ := hr.2.2.2.2 (by omega)
     exact ⟨b,off,fun _=>e,by omega⟩
 have HR:=Lib.hid hr
 have H:=Lib.hid h
 have HM:=Lib.hid hm
 have HAB:=Lib.hid hab
 clear hr h hm hab
 refine (callsIn_wide (n:=5)).1 ?_
 refine callsIn_of_wp_marks Tryz.func163 rfl trivial ?_ hro
 simp only [Tryz.ntmps163,List.size_toArray,List.length_cons,List.length_nil,Nat.reduceAdd,Nat.reduceSub,Array.replicate_succ,Array.replicate_zero,List.push_toArray,List.append_toArray,List.nil_append,List.cons_append]
 gi_wp2_with (refine ⟨trivial,?_⟩;gi_at_call 195;refine (chunk_in trivial _ _ _ _ _).mono ?_;rintro e w' ⟨rfl,rfl⟩)
 have bO:=Boxed.new w 267 (.slice none 0 0)
 have bS:=Boxed.new (w.alloc (.cells #[.slice none 0 0] 267)) 46 (.slice a (2 * m) cap)
 have bN:=Boxed.new ((w.alloc (.cells #[.slice none 0 0] 267)).alloc (.cells #[.slice a (2 * m) cap] 46)) 3 (.int .i64 2)
 simp only [World.size_alloc] at bS bN
 have hB0:=zh6 w (.cells #[.slice none 0 0] 267) (.cells #[.slice a (2 * m) cap] 46) (.cells #[.int .i64 2] 3)
 have bO':=(bO.alloc (.cells #[.slice a (2 * m) cap] 46)).alloc (.cells #[.int .i64 2] 3)
 have bS':=bS.alloc (.cells #[.int .i64 2] 3)
 obtain ⟨W0,hW0⟩:∃W0:World,((w.alloc (.cells #[.slice none 0 0] 267)).alloc (.cells #[.slice a (2 * m) cap] 46)).alloc (.cells #[.int .i64 2] 3)=W0:=⟨_,rfl⟩
 have hsz:W0.heap.size=w.heap.size+3:=by rw [←hW0,zal,zal,zal]
 rw [hW0] at bO' bS' bN hB0 ⊢
 clear hW0 bO bS
 refine wpIn_rangeFunc_ownG hro (by omega) (gf := 221) (lb := #[.pointer (some ⟨w.heap.size + 1, 0, none⟩), .pointer (some ⟨w.heap.size + 1 + 1, 0, none⟩)]) rfl trivial (enters_of Tryz.func221 (by kernel_rfl) rfl)
   (chunk_stops 4 hro (by omega) (w.heap.size+1) (w.heap.size+1+1) b off m cap a HAB.out hcap hcm W0 (by omega) (by omega) bS'.cell bN.cell) staysK_t (staysK_b (by rintro c (rfl|rfl)<;>omega)) (Below.refl _ _) (fun _=>rfl)
   (fun pre W=>(∃v,Boxed W w.heap.size 267 v∧W.ownsRow W0.heap.size 46 1 v pre.length (pre.map (zcn b off))∧True)∧Below w.heap.size w W∧W0.heap.size≤W.heap.size)
   (fun _ _ _=>False)
   (OwnFrom.and (Own.from (holdsRow_own W0.heap.size w.heap.size 267 46 1 (fun pre:List Nat=>pre.length) (fun pre:List Nat=>pre.map (zcn b off)) (fun _ _=>True)) _) (OwnFrom.and (ownFrom_below (Nat.le_refl _) (by omega)) (fun s A B row hs hg _=>Nat.le_trans hs hg.size)))
   (fun _ _ _ _ _ hs _ _=>hs)
   ⟨⟨_,bO',World.ownsRow_nil _ _ _ _,trivial⟩,hB0,Nat.le_refl _⟩
   (fun x => { tmps := #[.slice a (2 * m) cap, undef, .slice none 0 0, .int .i64 0, .pointer (some ⟨w.heap.size, 0, none⟩), zcn b off x, undef, .slice a (2 * m) cap, .func (.func 221) #[] #[.pointer (some ⟨w.heap.size + 1, 0, none⟩), .pointer (some ⟨w.heap.size + 1 + 1, 0, none⟩)], zcn b off x,
     undef,undef,undef,undef,undef,undef,undef,undef,undef,undef,undef,undef,undef,undef,undef,undef,undef,undef,undef,undef,undef,undef,undef,undef,undef,undef,undef,undef,undef,undef],defers:=[] }) ?assign ?body ?done ?stop
 case assign =>
   intro l x W K hK
   gi_wp2
   exact hK
 case body =>
   rintro l pre x W ⟨⟨v,hv,hrow,-⟩,hB,hs⟩ hlt
   have hc:=hv.cell
   have hle:w.heap.size≤W0.heap.size:=by omega
   unfold zcn
   gi_wp2_with (gi_at_builtin;refine wpListIn_append_own _ rfl _ _ 267 rfl W0.heap.size 46 i0 (.slice none 0 0) 1 24 Tryz.underlying267 hi hz0 hz1 hz2 rfl (by decide) _ _ _ rfl (hrow.alloc _) ⟨W.heap.size,0,none⟩ 1 1 [zcn b off x] rfl rfl (cell_one_new _ _ _) (by simp [Value.oneCell',zcn]) (by unfold maxLen;omega) (by omega) (by simp;omega) ?_;intro v' w1 hown' hgrow _;obtain ⟨g',cap',rfl⟩:=ownsRow_succ hown';obtain ⟨hv1,hv2,hr2,hk2,hb2⟩:=hv.appended (by decide) (zbT hrow hle) hB.size (Nat.le_refl _) (zbT hown' hle) hgrow;have hc1:=hv1.cell;have hf1:=hv1.frozen)
   refine ⟨hk2.from _,put_part hrow hgrow (by omega) (by omega) (by omega) (by omega) hs,⟨_,hv2,?_,trivial⟩,hB.trans hb2,?_⟩
   · rw [List.length_append,List.map_append]
     exact zbC hown' fun c hc=>heap_setCell_other _ _ _ _ (by have:=(hown'.lt c hc).1;intro e;subst e;simp at this;omega)
   · have:=hgrow.size
     rw [zal] at this
     simp [World.setCell];omega
 case done =>
   rintro D ys W hD rfl ⟨⟨v,hv,hrow,-⟩,hB,hs⟩ hK
   rw [List.length_range] at hrow
   have hc:=hv.cell
   have hp:(twoV l).length=m:=twoV_len m l HM.out.symm
   have hnm:Names W b off m (twoV l):=fun k hk=>cell?_keep hB (Names.of (cap:=cap) (by have:=HR.out;rwa [HAB.out (by omega)] at this) H.out HM.out.symm k hk)
   have HNM:=Lib.hid hnm
   have HSP:=Lib.hid (sort_parts hp hrow hnm (show b<W0.heap.size by omega) hl)
   have hDo : v.ownBlock ≠ some D := fun e => by
     obtain ⟨cs,hc⟩:=zaz hrow e
     rw [hK] at hc;cases hc
   have hBo:v.ownBlock≠some w.heap.size:=fun e=>by have:=(hrow.lt _ e).1;omega
   have HV:=Lib.hid hv
   have HDO:=Lib.hid hDo
   have HBO:=Lib.hid hBo
   have HOW:=Lib.hid (fun b h=>(hrow.lt b h))
   have HWB:=Lib.hid hB
   have HDL:=Lib.hid (show D<W.heap.size from (Array.getElem?_eq_some_iff.1 hK).1)
   clear hp hrow hnm hDo hBo hi hz0 hz1 hz2 hbw bN bS' bO' hB0
   gi_wp2_with (refine ⟨trivial,?_⟩;gi_at_call 196;refine (callsIn_wide.2 HSP.out).mono ?_;rintro e w1 ⟨rfl,R,hR1,hR2,hR3,hO1,hg1⟩)
   refine wpIn_wide.2 ?_
   have HK1:=Lib.hid (show w1.heap[D]?=some (.deferred (some [])) from (hg1.block D HDL.out (fun e=>HDO.out e.symm)).trans hK)
   have hc1:w1.cell? ⟨w.heap.size,0,none⟩=some v:=(show Boxed w1 w.heap.size 267 v from (hg1.block _ (Boxed.lt HV.out) (fun e=>HBO.out e.symm)).trans HV.out).cell
   have HB1:=Lib.hid (HWB.out.grown hg1 HWB.out.size (fun k e=>by have:=(HOW.out k e).1;omega))
   have HN1 := Lib.hid (show Names w1 b off m (twoV l) from fun k hk => by
     have hc:=HNM.out k hk
     rw [World.cell?_of_block (w:=W) (a:=⟨b,off+2 * k * 4+2,none⟩) (hg1.block b (World.block_lt_of_cell? W _ hc) (fun e=>by have:=(HOW.out b e.symm).1;have:=World.block_lt_of_cell? w _ (Names.of (cap:=cap) (by have:=HR.out;rwa [HAB.out (by omega)] at this) H.out HM.out.symm k hk);simp at this;omega))]
     exact hc)
   have HO1:=Lib.hid hO1
   have HR1:=Lib.hid hR1
   have HR2:=Lib.hid hR2
   have HR3:=Lib.hid hR3
   obtain ⟨av,cv,rfl,hv1,hv2⟩:=zbK hO1
   clear hv hc hK hR1 hR2 hR3 hO1 hg1 hB hs
   go_wp2
   go_loopw [6] (fun v6 wr=>∃k:Nat,v6=.int .i64 k∧1≤k∧k≤210000∧(∃q,w1.drewN q=wr)∧Hid (k≤m∨k=1)∧Hid (∀i,i+1<k→(twoV l)[R[i]!]!.1.s≠(twoV l)[R[i+1]!]!.1.s)) (fun v6 _=>m-(intOf v6).toNat)
   case atStart=>exact ⟨1,rfl,Nat.le_refl _,by omega,⟨0,rfl⟩,.inr rfl,Lib.hid (fun i hi=>by omega)⟩
   case round =>
     obtain ⟨k,rfl,hk1,hk2,⟨q,rfl⟩,HKM,HNE⟩:=hrel
     by_cases hlt:k<m
     · obtain ⟨gb, go, rfl, hgb, hgc⟩ := (Row.of_own HO1.out).2.2.2.2.2 (by omega)
       have hRz:R.size=m:=HR1.out
       have hx1:w1.cell? ⟨gb,go+k,none⟩=some (zcn b off R[k]!):=hgc k _ (by rw [List.getElem?_map,getElem!_pos R k (by omega)];simp [show k<R.size by omega])
       have hx2:w1.cell? ⟨gb,go+(k-1),none⟩=some (zcn b off R[k-1]!):=hgc (k-1) _ (by rw [List.getElem?_map,getElem!_pos R (k-1) (by omega)];simp [show k-1<R.size by omega])
       have hn1:=HN1.out _ (HR2.out k hlt)
       have hn2:=HN1.out _ (HR2.out (k-1) (by omega))
       have hse:=eq_mkB' (twoV l)[R[k]!]!.1.s (twoV l)[R[k-1]!]!.1.s
       have hkk:k-1+1=k:=by omega
       have HKK:=Lib.hid hkk
       have HS1 := Lib.hid (show ∀ j, j + 1 < k + 1 → (twoV l)[R[k]!]!.1.s ≠ (twoV l)[R[k - 1]!]!.1.s → (twoV l)[R[j]!]!.1.s ≠ (twoV l)[R[j + 1]!]!.1.s from fun j hj hne => by
         by_cases e:j+1=k
         · have : j = k - 1 := by omega
           subst this
           rw [hkk];exact Ne.symm hne
         · exact HNE.out j (by omega))
       have HS2 := Lib.hid (show (twoV l)[R[k]!]!.1.s = (twoV l)[R[k - 1]!]!.1.s → zcJ l = none from fun e => by
         unfold zcJ
         rw [if_pos]
         rw [←HR3.out]
         refine (zgr _).2 ⟨k-1,by simp;omega,?_⟩
         have g : ∀ j, j < m → (R.toList.map fun i => (twoV l)[i]!)[j]! = (twoV l)[R[j]!]! := fun j hj => by
           rw [getElem!_pos _ j (by simp;omega),getElem!_pos R j (by omega)];simp
         rw [g (k-1) (by omega),hkk,g k hlt];exact e.symm)
       unfold zcn at hx1 hx2
       generalize (twoV l)[R[k]!]!.1.s=s1 at *
       generalize (twoV l)[R[k-1]!]!.1.s=s2 at *
       generalize R[k]! = q1 at *
       generalize R[k-1]! = q2 at *
       have i1:(0:Int)≤(k:Int)-1:=by omega
       have i2:((k:Int)-1).toNat=k-1:=by omega
       have i3:IntKind.i64.wrap ((k:Int)-1)=(k:Int)-1:=IntWalk.i64_in _ (by omega)
       have i4:(k:Int)<(m:Int):=by omega
       have i5:(k:Int)-1<(m:Int):=by omega
       clear hgc hkk hRz
       by_cases hs:s1=s2
       · rw [decide_eq_true hs] at hse
         have hnone:=HS2.out hs
         have HNONE:=Lib.hid hnone
         clear hnone hs HS1 HS2
         go_wp2
         go_quiet (fail)
         go_wp2
         refine ⟨by simp,.inl ⟨_,_,rfl,run_takeDeferred (show (w1.drewN (q+nq)).heap[D]?=_ from HK1.out),?_⟩⟩
         refine ⟨_,results_tmp2 rfl _ _ _,?_⟩
         rw [HNONE.out]
         exact ⟨(zad (zad HB1.out q) nq).trans (belowK_b (w:=w) (Nat.le_refl _) _ D _ _ (by omega) (show ((w1.drewN q).drewN nq).heap[D]?=_ from HK1.out) rfl rfl),rfl⟩
       · rw [decide_eq_false hs] at hse
         have HS3:=Lib.hid (fun j hj=>HS1.out j hj hs)
         clear hs HS1 HS2 HNE
         go_wp2
         go_quiet (fail)
         go_wp2
         go_roundw
         case rel=>exact ⟨k+1,by go_num,by omega,by omega,⟨q+nq,rfl⟩,.inl (by omega),HS3⟩
         case measure=>simp [intOf];omega
     · have hRz:R.toList.length=m:=HR1.out
       have hrow : Row w 4 (some ⟨b, off, none⟩) (2 * m) cap cs := ⟨HR.out.1, hcap, hcm, fun h => (by cases h), fun hn => by
         have h:=HR.out.2.2.2.2 hn
         rwa [HAB.out (by omega)] at h⟩
       have hcc := concat_any (w := w1.drewN q) (a := av) (cap := cv) (b := b) (off := off) (n := 2 * m) (c := cap) (qs := R.toList) (cs := cs) (by rw [hRz]; exact (Row.of_own HO1.out).2.mono (zad (Below.refl _ _) q))
         ((hrow.mono HB1.out).mono (zad (Below.refl _ _) q)) H.out.one1 (fun k hk => by
           obtain ⟨i,hi,rfl⟩:=List.getElem_of_mem hk
           have:=HR2.out i (by omega)
           rw [getElem!_pos R i (by rw [hRz] at hi;have:=HR1.out;omega)] at this
           simp only [Array.getElem_toList];omega) (by omega)
       rw [hRz] at hcc
       have HCC:=Lib.hid hcc
       have HP:=Lib.hid (show zcJ l=some (zb5 (zd1 (twoV l))) by
         unfold zcJ
         rw [if_neg]
         rw [←HR3.out,zgr]
         rintro ⟨i,h1,h2⟩
         have h3:i+1<m:=by simpa [HR1.out] using h1
         have g : ∀ j, j < m → (R.toList.map fun i => (twoV l)[i]!)[j]! = (twoV l)[R[j]!]! := fun j hj => by
           rw [getElem!_pos _ j (by simp [HR1.out];omega),getElem!_pos R j (by rw [HR1.out];omega)];simp
         rw [g i (by omega),g (i+1) h3] at h2
         refine HNE.out i ?_ h2
         rcases HKM.out with h|h<;>omega)
       have hkd:decide (k<m)=false:=decide_eq_false hlt
       clear hcc hrow hRz hlt
       go_wp2
       refine wpIn_wide.2 ?_
       go_wp2_with (go_at_call 199;refine HCC.out.mono ?_;rintro e w2 ⟨v2,rfl,hO2,hb2⟩)
       have hK2:w2.heap[D]?=some (.deferred (some [])):=(hb2.block D (zag HK1.out)).trans HK1.out
       refine ⟨by simp,.inl ⟨_,_,rfl,run_takeDeferred hK2,?_⟩⟩
       refine ⟨_,results_tmp2 rfl _ _ _,?_⟩
       have hbf:RowKit.Below w.heap.size w (w2.putObj D (.deferred none)):=((zad HB1.out q).trans (hb2.mono (zad HB1.out q).size)).trans (belowK_b (w:=w) (Nat.le_refl _) _ D _ _ (by omega) hK2 rfl rfl)
       rw [HP.out]
       refine ⟨hbf,v2,R.toList.flatMap (zfq cs),rfl,?_,?_⟩
       · rw [flatV_len,←HR3.out,List.length_map,show R.toList.length=m from HR1.out]
         exact ownsRow_putObj (zbT hO2 (zad HB1.out q).size) _ hK2 rfl
       · rw [←HR3.out]
         exact parts_all HM.out.symm (H.out.below hbf) R.toList fun k hk => by
           obtain ⟨i,hi,rfl⟩:=List.getElem_of_mem hk
           have:=HR2.out i (by have:=HR1.out;simp at hi;omega)
           rw [getElem!_pos R i (by simpa using hi)] at this
           simpa using this
 case stop =>
   rintro D c pre W _ _ h _
   exact h.elim
end Go.Proofs.YtkhcjoomijkfbaaGreatDoor
namespace Go.Proofs.YtkhcjoomijkfbaaGreatDoor
open Go.RowKit
section
variable {w0 w w' : World} {F F' G : Nat → Prop} {p : Nat} {a : Option Addr} {cap : Nat} {bs : List UInt8} {last : Bool} {st : List Lv} {at_ : Int} {gs : List Nat} {osl : Value}
theorem zaA {w:World} {r b:Nat} (h:b≠r) (y0 y1 y2 y3:Value):((((w.setCell ⟨r,0,none⟩ y0).setCell ⟨r,1,none⟩ y1).setCell ⟨r,2,none⟩ y2).setCell ⟨r,3,none⟩ y3).heap[b]?=w.heap[b]?:=za7 h _ _ _ _
theorem zaT (w:World) (r:Nat) (y0 y1 y2 y3:Value):((((w.setCell ⟨r,0,none⟩ y0).setCell ⟨r,1,none⟩ y1).setCell ⟨r,2,none⟩ y2).setCell ⟨r,3,none⟩ y3).heap.size=w.heap.size:=by simp [World.setCell]
theorem Nxt.fin4 {W1 W2 : World} {r : Nat} (h : zam w0 w F G p a cap bs last st at_ gs osl) (hb : Below w.heap.size w W1) {st2 : List Lv} {at2 : Int} (N : Nxt w0 W1 F (fun b => G b ∨ b = r) p a cap bs last st2 at2 F' W2) (hr : w.heap.size ≤ r) (y0 y1 y2 y3 : Value) :
   Nxt w0 w F G p a cap bs last st2 at2 F' ((((W2.setCell ⟨r,0,none⟩ y0).setCell ⟨r,1,none⟩ y1).setCell ⟨r,2,none⟩ y2).setCell ⟨r,3,none⟩ y3):=by
 obtain ⟨gs2,osl2,hs⟩:=N.stk
 have hGl:∀b,G b→b<w.heap.size:=fun b hb=>(h.gb b hb).2
 have hFl:∀b,F b→b<w.heap.size:=fun b hb=>h.Flt hb
 have h1:=hb.size
 have h2:=N.sg.1
 refine ⟨⟨gs2,osl2,(hs.set4 (.inr rfl) _ _ _ _).give fun b hb=>.inl hb⟩,⟨by rw [zaT];omega,fun b hb1 hG=>?_⟩,⟨by rw [zaT];omega,fun b hb1 hf=>?_⟩,N.ff⟩
 · rw [zaA (by have:=hGl b hG;omega),N.sg.2 b (by omega) (.inl hG),hb.block b hb1]
 · rw [zaA (by have:=hFl b hf;omega),N.sf.2 b (by omega) hf,hb.block b hb1]
theorem IsV.fin4 {W2 : World} {r : Nat} {st2 : List Lv} {at2 : Int} {v : PV} {sl : Value} (h : IsV W2 F' v sl) (N : Stk w0 W2 F' (fun b => G b ∨ b = r) p a cap bs last st2 at2) (y0 y1 y2 y3 : Value) :
   IsV ((((W2.setCell ⟨r,0,none⟩ y0).setCell ⟨r,1,none⟩ y1).setCell ⟨r,2,none⟩ y2).setCell ⟨r,3,none⟩ y3) F' v sl:=by
 obtain ⟨gs2,osl2,hs⟩:=N
 exact IsV.keep ⟨by rw [zaT];exact Nat.le_refl _,fun b _ hf=>zaA (fun e=>(hs.fb b hf).2.1 (.inr e)) _ _ _ _⟩ (fun _ h=>h) v h
theorem Nxt.drew {W:World} (N:Nxt w0 w F G p a cap bs last st at_ F' W):Nxt w0 w F G p a cap bs last st at_ F' W.drew:=by
 obtain ⟨gs2,osl2,hs⟩:=N.stk
 exact ⟨⟨gs2,osl2,hs.drewN 1⟩,N.sg,N.sf,N.ff⟩
theorem Nxt.weak {W:World} {F1:Nat→Prop} (N:Nxt w0 w F1 G p a cap bs last st at_ F' W) (hF:∀b,F b→F1 b):Nxt w0 w F G p a cap bs last st at_ F' W :=
 ⟨N.stk,N.sg,⟨N.sf.1,fun b hb hf=>N.sf.2 b hb (hF b hf)⟩,fun b hb=>N.ff b (hF b hb)⟩
theorem IsV.of_owns {W:World} {base:Nat} {v:PV} {sl:Value} {cs:List Value} (hO:W.ownsRow base 48 4 sl v.l.length cs) (h:IsVs W F v.l cs) (hF:∀b,sl.ownBlock=some b→F b):IsV W F v sl:=by
 obtain ⟨a,c,rfl,hr,-⟩:=Row.of_owns hO
 refine IsV.mk hr (fun hn x hx=>?_) h
 subst hx
 rcases hO.2 with ⟨e,-⟩|⟨g,cap,cur,e,-⟩
 · cases e
 · cases e;exact hF g rfl
theorem zam.popA {v:Lv} {g:Nat} {t:List Nat} {ao:Option Addr} {oc:Nat} {sl:Value} (h:zam w0 w F G p a cap bs last (v::st) at_ (g::t) (.slice ao (st.length+1) oc)) (hg:w.heap[g]?=some (.cells #[.bool v.dict,sl] 168 (0,0))) :
   ∃F',Nxt w0 w F G p a cap bs last st at_ F' (w.setCell ⟨p,3,none⟩ (.slice ao st.length oc))∧IsV (w.setCell ⟨p,3,none⟩ (.slice ao st.length oc)) F' (.mk 6 0 [] v.l) sl:=by
 obtain ⟨F',sl',hF,⟨g',t',cs,h1,h2,h3,h4,h5⟩,N⟩:=h.pop rfl
 simp only [List.cons.injEq] at h1
 obtain ⟨rfl,rfl⟩:=h1
 rw [hg] at h2
 obtain rfl:sl=sl':=by simpa using h2
 refine ⟨F',N,IsV.of_owns (v:=.mk 6 0 [] v.l) (base:=w0.heap.size) (cs:=cs) (zbC h3 fun b hb=>?_) (IsVs.keep ⟨by simp [World.setCell],fun b _ hf=>?_⟩ (fun _ h=>h) _ h4) h5⟩
 · exact heap_setCell_other _ _ _ _ (by obtain ⟨ds,hc⟩:=zaz h3 hb;exact za2 hc h.blk (by decide))
 · obtain ⟨gs2,osl2,hs⟩:=N.stk
   exact heap_setCell_other _ _ _ _ (hs.notF hf)
theorem IsV.drew {W:World} {v:PV} {sl:Value} (h:IsV W F v sl):IsV W.drew F v sl:=IsV.below h (zad (Below.refl _ _) 1)
theorem zam.popD {v:Lv} {ao:Option Addr} {oc:Nat} {v':PV} {sl:Value} (h:zam w0 w F G p a cap bs last (v::st) at_ gs (.slice ao (st.length+1) oc)) (hv:IsV w F v' sl) :
   ∃F',Nxt w0 w F G p a cap bs last st at_ F' (w.setCell ⟨p,3,none⟩ (.slice ao st.length oc))∧IsV (w.setCell ⟨p,3,none⟩ (.slice ao st.length oc)) F' v' sl:=by
 obtain ⟨F',sl',hF,-,N⟩:=h.pop rfl
 exact ⟨F',N,IsV.keep N.sf hF _ hv⟩
theorem zam.lastV {v:Lv} {g:Nat} {t:List Nat} {sl:Value} (h:zam w0 w F G p a cap bs last (v::st) at_ (g::t) osl) (hg:w.heap[g]?=some (.cells #[.bool v.dict,sl] 168 (0,0))) :
   ∃cs,w.ownsRow w0.heap.size 48 4 sl v.l.length cs∧IsVs w F v.l cs:=by
 obtain ⟨g',t',sl',cs,h1,h2,h3,h4,h5,h6,-⟩:=h.lvs
 simp only [List.cons.injEq] at h1
 obtain ⟨rfl,rfl⟩:=h1
 rw [hg] at h4
 obtain rfl:sl=sl':=by simpa using h4
 exact ⟨cs,h5,h6⟩
theorem zam.gain {W3:World} {m:List PV} {v3:Value} {cs:List Value} (h:zam w0 w F G p a cap bs last st at_ gs osl) (hb:Below w.heap.size w W3) (hO:W3.ownsRow w.heap.size 48 4 v3 m.length cs) (hV:IsVs W3 F m cs) :
   zam w0 W3 (fun b=>F b∨v3.ownBlock=some b) G p a cap bs last st at_ gs osl∧IsV W3 (fun b=>F b∨v3.ownBlock=some b) (.mk 7 0 [] m) v3:=by
 refine ⟨h.frame' (zaq hb) (fun b hb=>.inl hb) (fun b hb=>.inl hb) (fun b hb'=>?_),IsV.of_owns (v:=.mk 7 0 [] m) hO (hV.weaken fun b hb=>.inl hb) fun b hb=>.inr hb⟩
 rcases hb' with h1|h1
 · exact .inl h1
 · refine .inr ⟨(hO.lt b h1).1, fun hG => ?_, zaz hO h1⟩
   have h2:=(h.gb b hG).2
   have h3:=(hO.lt b h1).1
   omega
def EndEnd (w0 w:World) (F G:Nat→Prop) (p:Nat) (a:Option Addr) (cap:Nat) (bs:List UInt8) (last:Bool) (at_:Int) (R:PV×List Lv×Int) (e:Ending) (w':World):Prop :=
 ∃F' sl,e=.returned (.tuple #[pvA R.1 sl,.int .i64 R.2.2])∧IsV w' F' R.1 sl∧Nxt w0 w F G p a cap bs last R.2.1 at_ F' w'
theorem end_any (h:zam w0 w F G p a cap bs last st at_ gs osl) (d:Bool) (hlen:∀v∈st,v.l.length≤400000):Calls Tryz.prog 132 #[.pointer (some ⟨p,0,none⟩),.bool d] w (EndEnd w0 w F G p a cap bs last at_ (zbr st d)):=by
 obtain ⟨R,hR⟩:∃R,R=zbr st d:=⟨_,rfl⟩
 rw [←hR]
 have HR:=Lib.hid hR
 have HS:=Lib.hid h
 obtain ⟨r,hr⟩:∃r,r=w.heap.size:=⟨_,rfl⟩
 have HRR:=Lib.hid hr
 have hrl:r<(w.alloc (.cells #[.int .i64 0,.int .i64 0,.string ⟨#[]⟩,.slice none 0 0] 48)).heap.size:=by rw [zal];omega
 have h1:=h.res (G':=fun b=>G b∨b=r) (zah w (.cells #[.int .i64 0,.int .i64 0,.string ⟨#[]⟩,.slice none 0 0] 48)) (fun b hb=>hb.imp id fun e=>by rw [e];exact ⟨Nat.le_of_eq hr.symm,hrl⟩)
 have hr4:=zac (w:=w) (b:=r) (.cells #[.int .i64 0,.int .i64 0,.string ⟨#[]⟩,.slice none 0 0] 48) hr
 have HW:=Lib.hid (zah w (.cells #[.int .i64 0,.int .i64 0,.string ⟨#[]⟩,.slice none 0 0] 48))
 have hpr:p≠r:=by have:=h.lt;omega
 clear h hR hrl
 go_enter Tryz.func132,Tryz.ntmps132
 go_wp2_with fail
 rw [←hr]
 generalize w.alloc _=W1 at *
 have HTOP:=Lib.hid (zhY h1)
 have HS1:=Lib.hid h1
 have HR4:=Lib.hid hr4
 clear hr h1 hr4
 refine HTOP.out.mono ?_
 rintro e w1 ⟨rfl,q,rfl⟩
 have HS2:=Lib.hid (HS1.out.drewN q)
 have HW2:=Lib.hid (zad HW.out q)
 have HR2:=Lib.hid (show (W1.drewN q).heap[r]?=_ from HR4.out)
 clear HS1 HW HR4 HTOP
 generalize W1.drewN q=W2 at *
 have hbad:R=(PV.none,st,11)→∀y0 y1 y2 y3:Value,(y0=.int .i64 0∧y1=.int .i64 0∧y2=.string ⟨#[]⟩∧y3=.slice none 0 0)→EndEnd w0 w F G p a cap bs last at_ R (.returned (.tuple #[.agg #[y0,y1,y2,y3],.int .i64 11])) ((((W2.setCell ⟨r,0,none⟩ y0).setCell ⟨r,1,none⟩ y1).setCell ⟨r,2,none⟩ y2).setCell ⟨r,3,none⟩ y3):=by
   rintro e y0 y1 y2 y3 ⟨rfl,rfl,rfl,rfl⟩
   rw [e]
   exact ⟨F,.slice none 0 0,rfl,IsV.leaf _ _ _ rfl,Nxt.fin4 HS.out HW2.out (Nxt.refl HS2.out (Below.refl _ _)) (Nat.le_of_eq HRR.out.symm) _ _ _ _⟩
 have HBAD:=Lib.hid hbad
 obtain ⟨⟨q0,q1,q2,q3⟩,n0,n1,n2,n3⟩:=zaf HR2.out
 clear hbad
 rcases HS2.out.top with ⟨rfl,rfl⟩|⟨v,st',g,t',sa,sc,rfl,rfl,h1,h2,h3⟩
 · unfold topP
   go_wp2
   refine bodyPost_ret (zaa rfl _ _ r 48 _ (0,0) _ rfl (by exact set4 HR2.out _ _ _ _) Tryz.underlying48 rfl (by exact zaB) _ rfl) rfl ?_
   exact HBAD.out HR.out _ _ _ _ ⟨rfl,rfl,rfl,rfl⟩
 · obtain ⟨k0, k1⟩ : W2.cell? ⟨g, 0, none⟩ = some (.bool v.dict) ∧ W2.cell? ⟨g, 1, none⟩ = some (.slice sa v.l.length sc) := ⟨by rw [cell_of_row W2 g 0 _ _ _ h3]; rfl, by rw [cell_of_row W2 g 1 _ _ _ h3]; rfl⟩
   have HWT:=Lib.hid (zge h3 (by omega))
   have hR:=HR.out
   unfold zbr at hR
   simp only at hR
   have HG:=Lib.hid h3
   unfold topP
   have HWV:=Lib.hid (show zdd v=(v.dict&&v.l.length % 2==0) from rfl)
   have HLE:=Lib.hid (hlen v List.mem_cons_self)
   have hgp:g≠p:=fun e=>by subst e;have:=HS2.out.blk;rw [h3] at this;simp at this
   by_cases hdd:v.dict=d
   case neg =>
     have HB2:=Lib.hid (HBAD.out (hR.trans (if_pos (.inl hdd))))
     have e1:(v.dict==d)=false:=by rw [beq_eq_false_iff_ne];exact hdd
     have e2:(v.dict != d)=true:=by simp only [bne,e1,Bool.not_false]
     generalize v.dict=vd at *
     clear hR hdd h1 h2 h3 hlen HBAD
     go_wp2
     refine bodyPost_ret (zaa rfl _ _ r 48 _ (0,0) _ rfl (by exact set4 HR2.out _ _ _ _) Tryz.underlying48 rfl (by exact zaB) _ rfl) rfl ?_
     exact HB2.out _ _ _ _ ⟨rfl,rfl,rfl,rfl⟩
   subst hdd
   obtain ⟨ao,oc,rfl,ho1,ho2⟩:=zbK HS2.out.own
   obtain ⟨⟨c0,c1,c2,c3⟩,f0,f1,f2,f3⟩:=HS2.out.cells
   simp only [List.length_cons] at c3 ho1
   have hdp:st'.length≤63:=by have:=HS2.out.deep;simp at this;omega
   have HPG:=Lib.hid hgp
   obtain ⟨vd,hvd⟩:∃vd,vd=v.dict:=⟨_,rfl⟩
   rw [←hvd] at k0 HWT HWV hR
   rw [←hvd] at HG
   rw [←hvd]
   have HVD:=Lib.hid hvd
   clear hvd h3 hlen
   cases vd with
   | false =>
     have HR5:=Lib.hid ((hR.trans (if_neg (by rintro (h|⟨h,-⟩);exact h rfl;cases h))).trans (if_pos rfl))
     have i1:(0:Int)≤(st'.length:Int)+1-1:=by omega
     have i2:((st'.length:Int)+1-1).toNat=st'.length:=by omega
     have i3:IntKind.i64.wrap ((st'.length:Int)+1-1)=(st'.length:Int):=by rw [IntWalk.i64_in _ (by omega)];omega
     have i4:(st'.length:Int)≤(oc:Int):=by omega
     have i5:(0:Int)≤(st'.length:Int):=by omega
     have i6:(st'.length:Int).toNat=st'.length:=by omega
     clear hR HBAD HWT
     obtain ⟨F',hN,hV⟩:=HS2.out.popA (by rw [←HVD.out];exact HG.out)
     have hpg:p≠g:=Ne.symm hgp
     have HRX:=Lib.hid (show (W2.setCell ⟨p,3,none⟩ (.slice ao st'.length oc)).heap[r]?=_ from (heap_setCell_other W2 ⟨p,3,none⟩ r _ (Ne.symm hpr)).trans HR2.out)
     have HND:=Lib.hid hN
     have HVD2:=Lib.hid hV
     clear hN hV
     go_wp2
     go_region
     all_goals
       go_wp2
       refine bodyPost_ret (zaa rfl _ _ r 48 _ (0,0) _ rfl (by exact set4 HRX.out _ _ _ _) Tryz.underlying48 rfl (by exact zaB) _ rfl) rfl ?_
       rw [HR5.out]
       exact ⟨F',_,rfl,(IsV.fin4 HVD2.out HND.out.stk _ _ _ _).drew,(Nxt.fin4 HS.out HW2.out HND.out (Nat.le_of_eq HRR.out.symm) _ _ _ _).drew⟩
   | true =>
     cases hev:(v.l.length % 2==0)
     · rw [hev,Bool.and_false] at HWT HWV
       have HB2:=Lib.hid (HBAD.out (hR.trans (if_pos (.inr ⟨rfl,HWV.out⟩))))
       clear hR HBAD h1 h2 hev
       go_wp2_with (go_at_call 162;refine HWT.out.mono ?_;rintro e w' ⟨rfl,rfl⟩)
       refine bodyPost_ret (zaa rfl _ _ r 48 _ (0,0) _ rfl (by exact set4 HR2.out _ _ _ _) Tryz.underlying48 rfl (by exact zaB) _ rfl) rfl ?_
       exact HB2.out _ _ _ _ ⟨rfl,rfl,rfl,rfl⟩
     · rw [hev,Bool.and_true] at HWT HWV
       have hR6:=(hR.trans (if_neg (by rintro (h|⟨-,h⟩);exact h rfl;rw [HWV.out] at h;cases h))).trans (if_neg (by decide))
       have HR6:=Lib.hid hR6
       obtain ⟨m,hm⟩:∃m,2 * m=v.l.length:=⟨v.l.length / 2,by simp at hev;omega⟩
       obtain ⟨cs,hO,hVs⟩:=HS2.out.lastV (by rw [←HVD.out];exact HG.out)
       have HP:=Lib.hid (pairs_any (m:=m) (by rw [hm];exact (Row.of_own hO).2) hVs hm (by have:=HLE.out;omega))
       rw [←hm] at k1
       have i1:(0:Int)≤(st'.length:Int)+1-1:=by omega
       have i2:((st'.length:Int)+1-1).toNat=st'.length:=by omega
       have i3:IntKind.i64.wrap ((st'.length:Int)+1-1)=(st'.length:Int):=by rw [IntWalk.i64_in _ (by omega)];omega
       have i4:(st'.length:Int)≤(oc:Int):=by omega
       have i5:(0:Int)≤(st'.length:Int):=by omega
       have i6:(st'.length:Int).toNat=st'.length:=by omega
       have HRP:=Lib.hid (show r≠p from Ne.symm hpr)
       clear hR HBAD h1 h2 hev hm hO hVs
       cases hpv:zcJ v.l with
       | none =>
         rw [hpv] at hR6 HP
         have HR7:=Lib.hid hR6
         clear hR6 hpv HR6
         go_wp2_with (first
           | (go_at_call 162;refine HWT.out.mono ?_;rintro e w' ⟨rfl,rfl⟩)
           | (go_at_call 163;refine HP.out.mono ?_;rintro e w3 ⟨hb3,rfl⟩;have HB3:=Lib.hid hb3;have HR23:=Lib.hid (zab hb3 HR2.out);clear hb3 q0 q1 q2 q3 n0 n1 n2 n3 k0 k1 c0 c1 c2 c3 f0 f1 f2 f3;obtain ⟨⟨q0,q1,q2,q3⟩,n0,n1,n2,n3⟩:=zaf HR23.out))
         refine bodyPost_ret (zaa rfl _ _ r 48 _ (0,0) _ rfl (by exact set4 HR23.out _ _ _ _) Tryz.underlying48 rfl (by exact zaB) _ rfl) rfl ?_
         rw [HR7.out]
         exact ⟨F,.slice none 0 0,rfl,IsV.leaf _ _ _ rfl,Nxt.fin4 HS.out HW2.out (Nxt.refl HS2.out HB3.out) (Nat.le_of_eq HRR.out.symm) _ _ _ _⟩
       | some m2 =>
         rw [hpv] at hR6 HP
         have HR7:=Lib.hid hR6
         clear hR6 hpv HR6
         go_wp2_with (first
           | (go_at_call 162;refine HWT.out.mono ?_;rintro e w' ⟨rfl,rfl⟩)
           | (go_at_call 163;refine HP.out.mono ?_;rintro e w3 ⟨hb3,v3,cs3,rfl,hO3,hV3⟩;obtain ⟨a3,cap3,rfl,-,-⟩:=zbK hO3;obtain ⟨hS3,hD3⟩:=HS2.out.gain hb3 hO3 hV3;obtain ⟨F',hN4,hV4⟩:=hS3.popD hD3;have HB3:=Lib.hid hb3;have HND:=Lib.hid hN4;have HVD2:=Lib.hid hV4;have HRX:=Lib.hid (show (w3.setCell ⟨p,3,none⟩ (.slice ao st'.length oc)).heap[r]?=_ from (heap_setCell_other w3 ⟨p,3,none⟩ r _ (Ne.symm hpr)).trans (zab hb3 HR2.out));have HS3:=Lib.hid hS3;have HR23:=Lib.hid (zab hb3 HR2.out);clear hb3 hO3 hV3 hS3 hD3 hN4 hV4 q0 q1 q2 q3 n0 n1 n2 n3 k0 k1 c0 c1 c2 c3 f0 f1 f2 f3;obtain ⟨⟨q0,q1,q2,q3⟩,n0,n1,n2,n3⟩:=zaf HR23.out;obtain ⟨⟨c0,c1,c2,c3⟩,f0,f1,f2,f3⟩:=HS3.out.cells;simp only [List.length_cons] at c3))
         go_region
         all_goals
           go_wp2
           refine bodyPost_ret (zaa rfl _ _ r 48 _ (0,0) _ rfl (by exact set4 HRX.out _ _ _ _) Tryz.underlying48 rfl (by exact zaB) _ rfl) rfl ?_
           rw [HR7.out]
           exact ⟨F',_,rfl,(IsV.fin4 HVD2.out HND.out.stk _ _ _ _).drew,(Nxt.fin4 HS.out (HW2.out.trans (HB3.out.mono HW2.out.size)) (HND.out.weak fun b hb=>.inl hb) (Nat.le_of_eq HRR.out.symm) _ _ _ _).drew⟩
end
end Go.Proofs.YtkhcjoomijkfbaaGreatDoor
namespace Go.Proofs.YtkhcjoomijkfbaaGreatDoor
open Go.RowKit
section
variable {w0 w w' : World} {F F' G : Nat → Prop} {p : Nat} {a : Option Addr} {cap : Nat} {bs : List UInt8} {last : Bool} {st : List Lv} {at_ : Int} {gs : List Nat} {osl : Value}
def PStep (w0 w:World) (F G:Nat→Prop) (p:Nat) (a:Option Addr) (cap:Nat) (bs:List UInt8) (last:Bool) (R:Option PV×List Lv×Int×Int) (e:Ending) (w':World):Prop :=
 ∃F' sa sn sc V,e=.returned (.tuple #[pvA V (.slice sa sn sc),.bool R.1.isSome,.int .i64 R.2.2.2])∧(∀X,R.1=some X→V=X∧IsV w' F' V (.slice sa sn sc))∧Nxt w0 w F G p a cap bs last R.2.1 R.2.2.1 F' w'
theorem zcQ {S:Nat→Prop} {w w':World} (h:zaU S w w') {b o:Nat} {v:Value} (hc:w.cell? ⟨b,o,none⟩=some v) (hS:S b):w'.cell? ⟨b,o,none⟩=some v:=by
 rw [World.cell?_of_block (w:=w) (a:=⟨b,o,none⟩) (h.2 b (World.block_lt_of_cell? w _ hc) hS)];exact hc
theorem zce {S:Nat→Prop} {w w':World} (h:zaU S w w') {b:Nat} {o:Obj} (hc:w.heap[b]?=some o) (hS:S b):w'.heap[b]?=some o:=by
 rw [h.2 b (zag hc) hS];exact hc
def G3 (G:Nat→Prop) (r:Nat):Nat→Prop:=fun b=>G b∨b=r∨b=r+1∨b=r+2
theorem Nxt.fin3 {W1 W2:World} {r:Nat} (h:zam w0 w F G p a cap bs last st at_ gs osl) (hb:Below w.heap.size w W1) {st2:List Lv} {at2:Int} (N:Nxt w0 W1 F (G3 G r) p a cap bs last st2 at2 F' W2) (hr:w.heap.size≤r) {k:Nat} (hk:k=r+1) (y0 y1 y2 y3:Value) :
   Nxt w0 w F G p a cap bs last st2 at2 F' ((((W2.setCell ⟨k,0,none⟩ y0).setCell ⟨k,1,none⟩ y1).setCell ⟨k,2,none⟩ y2).setCell ⟨k,3,none⟩ y3):=by
 subst hk
 obtain ⟨gs2,osl2,hs⟩:=N.stk
 have hGl:∀b,G b→b<w.heap.size:=fun b hb=>(h.gb b hb).2
 have hFl:∀b,F b→b<w.heap.size:=fun b hb=>h.Flt hb
 have h1:=hb.size
 have h2:=N.sg.1
 refine ⟨⟨gs2,osl2,(hs.set4 (.inr (.inr (.inl rfl))) _ _ _ _).give fun b hb=>.inl hb⟩,⟨by rw [zaT];omega,fun b hb1 hG=>?_⟩,⟨by rw [zaT];omega,fun b hb1 hf=>?_⟩,N.ff⟩
 · rw [zaA (by have:=hGl b hG;omega),N.sg.2 b (by omega) (.inl hG),hb.block b hb1]
 · rw [zaA (by have:=hFl b hf;omega),N.sf.2 b (by omega) hf,hb.block b hb1]
theorem Nxt.fin34 {W1 W2:World} {r:Nat} (h:zam w0 w F G p a cap bs last st at_ gs osl) (hb:Below w.heap.size w W1) {st2:List Lv} {at2:Int} (N:Nxt w0 W1 F (G3 G r) p a cap bs last st2 at2 F' W2) (hr:w.heap.size≤r) (y0 y1 y2 y3 z0 z1 z2 z3:Value) :
   Nxt w0 w F G p a cap bs last st2 at2 F' ((((((((W2.setCell ⟨r+1+1,0,none⟩ z0).setCell ⟨r+1+1,1,none⟩ z1).setCell ⟨r+1+1,2,none⟩ z2).setCell ⟨r+1+1,3,none⟩ z3).setCell ⟨r+1,0,none⟩ y0).setCell ⟨r+1,1,none⟩ y1).setCell ⟨r+1,2,none⟩ y2).setCell ⟨r+1,3,none⟩ y3):=by
 obtain ⟨gs2,osl2,hs⟩:=N.stk
 have hGl:∀b,G b→b<w.heap.size:=fun b hb=>(h.gb b hb).2
 have hFl:∀b,F b→b<w.heap.size:=fun b hb=>h.Flt hb
 have h1:=hb.size
 have h2:=N.sg.1
 refine ⟨⟨gs2,osl2,((hs.set4 (r:=r+1+1) (.inr (.inr (.inr rfl))) _ _ _ _).set4 (.inr (.inr (.inl rfl))) _ _ _ _).give fun b hb=>.inl hb⟩,⟨by rw [zaT,zaT];omega,fun b hb1 hG=>?_⟩,⟨by rw [zaT,zaT];omega,fun b hb1 hf=>?_⟩,N.ff⟩
 · rw [zaA (by have:=hGl b hG;omega),zaA (by have:=hGl b hG;omega),N.sg.2 b (by omega) (.inl hG),hb.block b hb1]
 · rw [zaA (by have:=hFl b hf;omega),zaA (by have:=hFl b hf;omega),N.sf.2 b (by omega) hf,hb.block b hb1]
theorem IsV.fin34 {W2:World} {r:Nat} {st2:List Lv} {at2:Int} {v:PV} {sl:Value} (h:IsV W2 F' v sl) (N:Stk w0 W2 F' (G3 G r) p a cap bs last st2 at2) (y0 y1 y2 y3 z0 z1 z2 z3:Value) :
   IsV ((((((((W2.setCell ⟨r+1+1,0,none⟩ z0).setCell ⟨r+1+1,1,none⟩ z1).setCell ⟨r+1+1,2,none⟩ z2).setCell ⟨r+1+1,3,none⟩ z3).setCell ⟨r+1,0,none⟩ y0).setCell ⟨r+1,1,none⟩ y1).setCell ⟨r+1,2,none⟩ y2).setCell ⟨r+1,3,none⟩ y3) F' v sl:=by
 obtain ⟨gs2,osl2,hs⟩:=N
 refine IsV.keep ⟨by rw [zaT,zaT];exact Nat.le_refl _,fun b _ hf=>?_⟩ (fun _ h=>h) v h
 have hn:=(hs.fb b hf).2.1
 rw [zaA (fun e=>hn (.inr (.inr (.inl e)))),zaA (fun e=>hn (.inr (.inr (.inr e))))]
theorem single_leaf (bs:List UInt8) (last:Bool) (st:List Lv) (at_:Int) (x:Tk):(zao bs last st at_ x).1.l=[]:=by
 unfold zao
 split
 · rfl
 · split
   · split
     · rfl
     · rename_i v hv
       unfold zeM at hv
       split at hv
       · cases hv;rfl
       · split at hv
         · cases hv;rfl
         · split at hv
           · cases hv;rfl
           · cases hv
   · split
     · unfold refV
       simp only
       split
       · rfl
       · split
         · rfl
         · split
           · rfl
           · rfl
     · rfl
theorem zaN {P:Program} {fn:Func} {p u z:Tmp} {ty:TypeId} (h:fn.results=#[.cell p ty,.tmp u,.tmp z]) (tmps:Array Value) (w:World) (g:Nat) (t:TypeId) (cs:Array Value) (fr:Nat×Nat) (d:TypeDesc)
   (hp:tmps.getD p undef=.pointer (some ⟨g,0,none⟩)) (hg:w.heap[g]?=some (.cells cs t fr))
   (hu:P.underlying ty=some d) (hd:(match d with | .struct _ | .array _ _=>true|_=>false)=true) (hi:(P.info? ty).map (·.size)=some cs.size) (v v2:Value) (hv:tmps.getD u undef=v) (hv2:tmps.getD z undef=v2) :
   (results fn tmps).run P w=.ok (.tuple #[.agg cs,v,v2]) w:=by
 simp only [Array.getD_eq_getD_getElem?] at hp hv hv2
 simp [results,h,hp,hv,hv2,asAddr,Result.andThen,run_loadVar_row w g t ty cs fr d hg hu hd hi]
def S5 (w:World) (r:Nat) (kd:Int):Prop:=w.cell? ⟨r,0,none⟩=some (.int .i64 kd)∧w.cell? ⟨r+2,0,none⟩=some (.int .i64 0)∧w.cell? ⟨r+2,1,none⟩=some (.int .i64 0)∧w.cell? ⟨r+2,2,none⟩=some (.string ⟨#[]⟩)∧w.cell? ⟨r+2,3,none⟩=some (.slice none 0 0)
theorem S5.drew {w:World} {r:Nat} {kd:Int} (h:S5 w r kd):S5 w.drew r kd:=h
theorem S5.stays {w w':World} {r:Nat} {kd:Int} (h:S5 w r kd) (hs:zaU (G3 G r) w w'):S5 w' r kd:=by
 exact ⟨zcQ hs h.1 (.inr (.inl rfl)),zcQ hs h.2.1 (.inr (.inr (.inr rfl))),zcQ hs h.2.2.1 (.inr (.inr (.inr rfl))),zcQ hs h.2.2.2.1 (.inr (.inr (.inr rfl))),zcQ hs h.2.2.2.2 (.inr (.inr (.inr rfl)))⟩
theorem S5.set4 {w:World} {r:Nat} {kd:Int} (h:S5 w r kd) (y0 y1 y2 y3:Value):S5 ((((w.setCell ⟨r+1,0,none⟩ y0).setCell ⟨r+1,1,none⟩ y1).setCell ⟨r+1,2,none⟩ y2).setCell ⟨r+1,3,none⟩ y3) r kd:=by
 have g : ∀ b o v, b ≠ r + 1 → w.cell? ⟨b, o, none⟩ = some v → ((((w.setCell ⟨r + 1, 0, none⟩ y0).setCell ⟨r + 1, 1, none⟩ y1).setCell ⟨r + 1, 2, none⟩ y2).setCell ⟨r + 1, 3, none⟩ y3).cell? ⟨b, o, none⟩ = some v := fun b o v hb hc => by
   rw [World.cell?_of_block (w:=w) (a:=⟨b,o,none⟩) (zaA hb _ _ _ _)];exact hc
 exact ⟨g _ _ _ (by omega) h.1,g _ _ _ (by omega) h.2.1,g _ _ _ (by omega) h.2.2.1,g _ _ _ (by omega) h.2.2.2.1,g _ _ _ (by omega) h.2.2.2.2⟩
theorem step_any (h:zam w0 w F G p a cap bs last st at_ gs osl) (x:Tk) (f t:Int) (hlen:∀v∈st,v.l.length≤400000) :
   Calls Tryz.prog 96 #[.pointer (some ⟨p,0,none⟩),.agg (tokN x f t)] w (PStep w0 w F G p a cap bs last (zau bs last st at_ x)):=by
 obtain ⟨R,hR⟩:∃R,R=zau bs last st at_ x:=⟨_,rfl⟩
 rw [←hR]
 have HS:=Lib.hid h
 obtain ⟨r,hr⟩:∃r,r=w.heap.size:=⟨_,rfl⟩
 have HRR:=Lib.hid hr
 have HB1:=Lib.hid (zh6 w (.cells (tokN x f t) 112) (.cells #[.int .i64 0,.int .i64 0,.string ⟨#[]⟩,.slice none 0 0] 48) (.cells #[.int .i64 0,.int .i64 0,.string ⟨#[]⟩,.slice none 0 0] 48))
 have h1 := h.res (G' := G3 G r) HB1.out (fun b hb => by
   rw [zal,zal,zal]
   rcases hb with hb|hb|hb|hb
   · exact .inl hb
   · exact .inr (by omega)
   · exact .inr (by omega)
   · exact .inr (by omega))
 have k0:=zak (.cells #[.int .i64 0,.int .i64 0,.string ⟨#[]⟩,.slice none 0 0] 48) (zak (.cells #[.int .i64 0,.int .i64 0,.string ⟨#[]⟩,.slice none 0 0] 48) (zac (w:=w) (b:=r) (.cells (tokN x f t) 112) hr))
 have k1:=zak (.cells #[.int .i64 0,.int .i64 0,.string ⟨#[]⟩,.slice none 0 0] 48) (zac (w:=w.alloc (.cells (tokN x f t) 112)) (b:=r+1) (.cells #[.int .i64 0,.int .i64 0,.string ⟨#[]⟩,.slice none 0 0] 48) (by rw [zal,hr]))
 have k2:=zac (w:=(w.alloc (.cells (tokN x f t) 112)).alloc (.cells #[.int .i64 0,.int .i64 0,.string ⟨#[]⟩,.slice none 0 0] 48)) (b:=r+2) (.cells #[.int .i64 0,.int .i64 0,.string ⟨#[]⟩,.slice none 0 0] 48) (by rw [zal,zal,hr])
 have HSG:=Lib.hid (fun (W:World) (h:zam w0 W F (G3 G r) p a cap bs last st at_ gs osl)=>single_any h x f t)
 have hkind:∃q0 q1 q2 q3 q4 q5 q6 q7,tokN x f t=#[q0,q1,q2,q3,q4,q5,q6,q7]∧q0=.int .i64 x.kind:=⟨_,_,_,_,_,_,_,_,rfl,rfl⟩
 obtain ⟨q0,q1,q2,q3,q4,q5,q6,q7,htk,rfl⟩:=hkind
 rw [htk] at HB1 h1 k0 k1 k2 HSG ⊢
 have HH1:=Lib.hid h1
 have K0:=Lib.hid k0
 have K1:=Lib.hid k1
 have K2:=Lib.hid k2
 unfold zau at hR
 have HR:=Lib.hid hR
 have HLEN:=Lib.hid hlen
 have hpw:=h.lt
 have hpr:p≠r:=by omega
 have hpr1:p≠r+1:=by omega
 have hpr2:p≠r+2:=by omega
 have hw0:w.heap.size≤r:=by omega
 have HW0:=Lib.hid hw0
 clear h1 k0 k1 k2 h hlen htk hR hpw hw0
 go_enter Tryz.func96,Tryz.ntmps96
 go_upto_region 3 with fail
 rw [←hr]
 generalize ((w.alloc _).alloc _).alloc _=W1 at *
 generalize x.kind=kd at *
 clear hr
 by_cases hk0:kd=0
 · subst hk0
   have hR2:=Lib.hid (HR.out.trans (if_pos rfl))
   obtain ⟨⟨c0,-⟩,-⟩:=zap K0.out
   obtain ⟨⟨a0,a1,a2,a3⟩,b0,b1,b2,b3⟩:=zaf K1.out
   obtain ⟨⟨d0,d1,d2,d3⟩,e0,e1,e2,e3⟩:=zaf K2.out
   go_wp2
   refine bodyPost_ret (zaN rfl _ _ (r+1) 48 _ (0,0) _ rfl (by exact set4 K1.out _ _ _ _) Tryz.underlying48 rfl (by exact zaB) _ _ rfl rfl) rfl ?_
   rw [hR2.out]
   exact ⟨F,none,0,0,PV.none,rfl,fun X hX=>(by cases hX),Nxt.fin3 HS.out HB1.out (Nxt.refl HH1.out (Below.refl _ _)) HW0.out rfl _ _ _ _⟩
 have hR1:=HR.out.trans (if_neg hk0)
 have e0:(kd==0)=false:=by rw [beq_eq_false_iff_ne];exact hk0
 by_cases hk2:kd=2∨kd=4
 · have hR2:=hR1.trans (if_pos hk2)
   obtain ⟨dd,hdd⟩:∃dd,dd=(kd==4):=⟨_,rfl⟩
   rw [←hdd] at hR2
   have HR2:=Lib.hid hR2
   have HBG:=Lib.hid (begin_any (show zam w0 W1.drew F (G3 G r) p a cap bs last st at_ gs osl from HH1.out.drewN 1) dd)
   have HK0:=Lib.hid (show W1.drew.heap[r+1]?=_ from K1.out)
   clear hR1 hR2 HSG HR
   obtain ⟨⟨c0,-⟩,-⟩:=zap K0.out
   obtain ⟨⟨d0,d1,d2,d3⟩,-⟩:=zaf K2.out
   have HC0:Hid (S5 W1 r kd):=Lib.hid ⟨c0,d0,d1,d2,d3⟩
   have hgo:∀wN,Nxt w0 W1.drew F (G3 G r) p a cap bs last (zch st dd).1 at_ F wN→∀W,W=((((wN.setCell ⟨r+1,0,none⟩ (.int .i64 0)).setCell ⟨r+1,1,none⟩ (.int .i64 0)).setCell ⟨r+1,2,none⟩ (.string ⟨#[]⟩)).setCell ⟨r+1,3,none⟩ (.slice none 0 0)) →
       PStep w0 w F G p a cap bs last R (.returned (.tuple #[.agg #[.int .i64 0,.int .i64 0,.string ⟨#[]⟩,.slice none 0 0],.bool false,.int .i64 (zch st dd).2])) W:=fun wN N W hW=>by
     rw [HR2.out,hW]
     exact ⟨F,none,0,0,PV.none,rfl,fun X hX=>(by cases hX),Nxt.fin3 HS.out HB1.out.drew N HW0.out rfl _ _ _ _⟩
   have HGO:=Lib.hid hgo
   have hrr:r+1≠r:=by omega
   clear hgo
   have e4:(kd==4)=dd:=hdd.symm
   have hcase:(kd==2)=true∨((kd==2)=false∧dd=true):=by
     rcases hk2 with rfl|rfl
     · exact .inl rfl
     · exact .inr ⟨rfl,hdd⟩
   clear hdd hk2 hk0
   rcases hcase with e2|⟨e2,rfl⟩
   all_goals
     go_wp2
     go_region_held3 (fun w' => w'.cell? ⟨r, 0, none⟩ = some (.int .i64 kd) ∧ w'.cell? ⟨r + 2, 0, none⟩ = some (.int .i64 0) ∧ w'.cell? ⟨r + 2, 1, none⟩ = some (.int .i64 0) ∧ w'.cell? ⟨r + 2, 2, none⟩ = some (.string ⟨#[]⟩) ∧ w'.cell? ⟨r + 2, 3, none⟩ = some (.slice none 0 0))
       ((show S5 _ r kd;(first
         | (with_reducible exact HC0.out.drew)
         | (with_reducible exact HC0.out)
         | (with_reducible exact Hid.out (by assumption))
         | (with_reducible exact S5.set4 (Hid.out (by assumption)) _ _ _ _))))
       ((go_at_call 131;(with_reducible refine HBG.out.mono ?_);rintro e wN ⟨rfl,hN⟩;have HSN:=Lib.hid (HC0.out.drew.stays hN.sg);have HN:=Lib.hid hN;have HK1:=Lib.hid (zce hN.sg HK0.out (.inr (.inr (.inl rfl))));obtain ⟨⟨a0,a1,a2,a3⟩,b0,b1,b2,b3⟩:=zaf HK1.out))
     all_goals
       go_wp2
       refine bodyPost_ret (zaN rfl _ _ (r+1) 48 _ (0,0) _ rfl (by exact set4 HK1.out _ _ _ _) Tryz.underlying48 rfl (by exact zaB) _ _ rfl rfl) rfl ?_
       exact HGO.out _ HN.out _ rfl
 have e2:(kd==2)=false:=by rw [beq_eq_false_iff_ne];intro e;exact hk2 (.inl e)
 have e4:(kd==4)=false:=by rw [beq_eq_false_iff_ne];intro e;exact hk2 (.inr e)
 have hR2:=hR1.trans (if_neg hk2)
 obtain ⟨⟨c0,c1,c2,c3,c4,c5,c6,c7⟩,-⟩:=zap K0.out
 have hr12:r+1≠r+2:=by omega
 have hr21:r+2≠r+1:=by omega
 have HFL := Lib.hid (fun b (hb : F b) => (show b < W1.heap.size ∧ b ≠ r + 2 by
   have h1:=HS.out.Flt hb
   have h2:=HB1.out.size
   have h3:=HW0.out
   omega))
 by_cases hk3:kd=3∨kd=5
 · have hR3:=hR2.trans (if_pos hk3)
   obtain ⟨dd,hdd⟩:∃dd,dd=(kd==5):=⟨_,rfl⟩
   rw [←hdd] at hR3
   have HR3:=Lib.hid hR3
   have HEN:=Lib.hid (end_any HH1.out dd HLEN.out)
   have e5:(kd==5)=dd:=hdd.symm
   have hcase:(kd==3)=true∨((kd==3)=false∧dd=true):=by
     rcases hk3 with rfl|rfl
     · exact .inl rfl
     · exact .inr ⟨rfl,hdd⟩
   clear hR1 hR2 hR3 HSG HR hk0 hk2 hk3 hdd c1 c2 c3 c4 c5 c6 c7
   rcases hcase with e3|⟨e3,rfl⟩
   all_goals
     go_wp2_with fail
     refine HEN.out.mono ?_
     rintro e wN ⟨F',sl,rfl,hV,hN⟩
     obtain ⟨sa,sc,rfl,-,-,-⟩:=hV.len
     have HN:=Lib.hid hN
     have HV:=Lib.hid hV
     have HK1:=Lib.hid (zce hN.sg K1.out (.inr (.inr (.inl rfl))))
     have HK2:=Lib.hid (zce hN.sg K2.out (.inr (.inr (.inr rfl))))
     obtain ⟨⟨a0,a1,a2,a3⟩,b0,b1,b2,b3⟩:=zaf HK1.out
     obtain ⟨⟨d0,d1,d2,d3⟩,g0,g1,g2,g3⟩:=zaf HK2.out
     clear hN hV c0
     generalize zbr st _=Q at *
     obtain ⟨V,st2,er⟩:=Q
     simp only at HR3 HV HN a0
     unfold pvA
     by_cases he:er=0
     · subst he
       have HR4:=Lib.hid (HR3.out.trans (if_pos rfl))
       go_wp2
       refine bodyPost_ret (zaN rfl _ _ (r+1) 48 _ (0,0) _ rfl (by exact set4 ((zaA hr12 _ _ _ _).trans HK1.out) _ _ _ _) Tryz.underlying48 rfl (by exact zaB) _ _ rfl rfl) rfl ?_
       rw [HR4.out]
       exact ⟨F',_,_,_,V,rfl,fun X hX=>⟨Option.some.inj hX,IsV.fin34 HV.out HN.out.stk _ _ _ _ _ _ _ _⟩,Nxt.fin34 HS.out HB1.out HN.out HW0.out _ _ _ _ _ _ _ _⟩
     · have f1 : (er == 0) = false := by rw [beq_eq_false_iff_ne]; exact he
       have HR4:=Lib.hid (HR3.out.trans (if_neg he))
       clear he
       go_wp2
       refine bodyPost_ret (zaN rfl _ _ (r+1) 48 _ (0,0) _ rfl (by exact set4 ((zaA hr12 _ _ _ _).trans HK1.out) _ _ _ _) Tryz.underlying48 rfl (by exact zaB) _ _ rfl rfl) rfl ?_
       rw [HR4.out]
       exact ⟨F',_,_,_,V,rfl,fun X hX=>(by cases hX),Nxt.fin34 HS.out HB1.out HN.out HW0.out _ _ _ _ _ _ _ _⟩
 have hR3:=hR2.trans (if_neg hk3)
 have e3:(kd==3)=false:=by rw [beq_eq_false_iff_ne];intro e;exact hk3 (.inl e)
 have e5:(kd==5)=false:=by rw [beq_eq_false_iff_ne];intro e;exact hk3 (.inr e)
 have HR3:=Lib.hid hR3
 have HSX:=Lib.hid (HSG.out _ HH1.out)
 have HLF:=Lib.hid (single_leaf bs last st at_ x)
 clear hR1 hR2 hR3 HSG HR hk0 hk2 hk3
 go_wp2_with fail
 refine HSX.out.mono ?_
 rintro e wN ⟨he,hs,hkp⟩
 have hN:Nxt w0 W1 F (G3 G r) p a cap bs last st (zao bs last st at_ x).2.1 F wN:=⟨⟨_,_,hs⟩,⟨hkp.size,fun b hb hG=>hkp.block b hb (fun e=>HH1.out.gp (e▸hG))⟩,⟨hkp.size,fun b hb hf=>hkp.block b hb (HH1.out.notF hf)⟩,fun _ h=>h⟩
 have HN:=Lib.hid hN
 have HK1:=Lib.hid (zce hN.sg K1.out (.inr (.inr (.inl rfl))))
 have HK2:=Lib.hid (zce hN.sg K2.out (.inr (.inr (.inr rfl))))
 obtain ⟨⟨a0,a1,a2,a3⟩,b0,b1,b2,b3⟩:=zaf HK1.out
 obtain ⟨⟨d0,d1,d2,d3⟩,g0,g1,g2,g3⟩:=zaf HK2.out
 obtain ⟨ao,oc,rfl,ho1,ho2⟩:=zbK hs.own
 obtain ⟨⟨p0,p1,p2,p3⟩,-⟩:=hs.cells
 clear hN hs hkp c0 c1 c2 c3 c4 c5 c6 c7 HSX
 generalize zao bs last st at_ x=Q at *
 obtain ⟨V,at2,er⟩:=Q
 simp only at HR3 HN HLF he p1
 unfold pvA at he
 subst he
 by_cases he:er=0
 case neg =>
   have f1:(er==0)=false:=by rw [beq_eq_false_iff_ne];exact he
   have HR4:=Lib.hid (HR3.out.trans (if_pos he))
   clear he
   go_wp2
   refine bodyPost_ret (zaN rfl _ _ (r+1) 48 _ (0,0) _ rfl (by exact set4 ((zaA hr12 _ _ _ _).trans HK1.out) _ _ _ _) Tryz.underlying48 rfl (by exact zaB) _ _ rfl rfl) rfl ?_
   rw [HR4.out]
   exact ⟨F,_,_,_,V,rfl,fun X hX=>(by cases hX),Nxt.fin34 HS.out HB1.out HN.out HW0.out _ _ _ _ _ _ _ _⟩
 subst he
 by_cases h64:64≤st.length
 · have hd:decide (64≤st.length)=true:=decide_eq_true h64
   have hd2:decide ((64:Int)≤(st.length:Int))=true:=decide_eq_true (by omega)
   have HR4:=Lib.hid ((HR3.out.trans (if_neg (by simp))).trans (if_pos h64))
   clear h64
   go_wp2
   refine bodyPost_ret (zaN rfl _ _ (r+1) 48 _ (0,0) _ rfl (by exact set4 ((zaA hr12 _ _ _ _).trans HK1.out) _ _ _ _) Tryz.underlying48 rfl (by exact zaB) _ _ rfl rfl) rfl ?_
   rw [HR4.out]
   exact ⟨F,_,_,_,V,rfl,fun X hX=>(by cases hX),Nxt.fin34 HS.out HB1.out HN.out HW0.out _ _ _ _ _ _ _ _⟩
 · have hd:decide (64≤st.length)=false:=decide_eq_false h64
   have hd2:decide ((64:Int)≤(st.length:Int))=false:=decide_eq_false (by omega)
   have HR4:=Lib.hid ((HR3.out.trans (if_neg (by simp))).trans (if_neg h64))
   clear h64
   go_wp2
   refine bodyPost_ret (zaN rfl _ _ (r+1) 48 _ (0,0) _ rfl (by exact set4 ((zaA hr12 _ _ _ _).trans HK1.out) _ _ _ _) Tryz.underlying48 rfl (by exact zaB) _ _ rfl rfl) rfl ?_
   rw [HR4.out]
   exact ⟨F,_,_,_,V,rfl,fun X hX=>⟨Option.some.inj hX,IsV.fin34 (IsV.leaf _ _ _ HLF.out) HN.out.stk _ _ _ _ _ _ _ _⟩,Nxt.fin34 HS.out HB1.out HN.out HW0.out _ _ _ _ _ _ _ _⟩
end
end Go.Proofs.YtkhcjoomijkfbaaGreatDoor
namespace Go.Proofs.YtkhcjoomijkfbaaGreatDoor
open Go.RowKit
structure DvM (w W:World) (B:Nat) (tc:Array Value):Prop where
 b0:W.heap[B]?=some (.cells tc 91 (0,0))
 b1:W.heap[B+1]?=some (.cells #[.int .i64 0,.int .i64 0,.string ⟨#[]⟩,.slice none 0 0] 48 (0,0))
 b2:W.heap[B+1+1]?=some (.cells #[.int .i64 0,.int .i64 0,.string ⟨#[]⟩,.slice none 0 0] 48 (0,0))
 bel:Below w.heap.size w W
 hB:B=w.heap.size
theorem DvM.keep {w W W':World} {B:Nat} {tc:Array Value} (h:DvM w W B tc) (hb:Below W.heap.size W W'):DvM w W' B tc :=
 ⟨zab hb h.b0,zab hb h.b1,zab hb h.b2,h.bel.trans (hb.mono h.bel.size),h.hB⟩
theorem DvM.fin {w W:World} {B:Nat} {tc:Array Value} (h:DvM w W B tc) (y0 y1 y2 y3:Value) :
   Below w.heap.size w ((((W.setCell ⟨B+1,0,none⟩ y0).setCell ⟨B+1,1,none⟩ y1).setCell ⟨B+1,2,none⟩ y2).setCell ⟨B+1,3,none⟩ y3):=zai h.bel (by have:=h.hB;omega) _ _ _ _
theorem DvM.start (w:World) (x:Array Value) {B:Nat} (hB:B=w.heap.size):DvM w (((w.alloc (.cells x 91)).alloc (.cells #[.int .i64 0,.int .i64 0,.string ⟨#[]⟩,.slice none 0 0] 48)).alloc (.cells #[.int .i64 0,.int .i64 0,.string ⟨#[]⟩,.slice none 0 0] 48)) B x :=
 ⟨zak _ (zak _ (zac _ hB)),zak _ (zac _ (by rw [zal,hB])),zac _ (by rw [zal,zal,hB]),zh6 _ _ _ _,hB⟩
def dctV (ps:List (PV×PV)):PV:=.mk 7 0 [] (zb5 ps)
structure PutM (w W:World) (B:Nat) (dc xc:Array Value):Prop where
 b0:W.heap[B]?=some (.cells dc 48 (0,0))
 b1:W.heap[B+1]?=some (.cells xc 48 (0,0))
 b2:W.heap[B+1+1]?=some (.cells #[.int .i64 0,.int .i64 0,.string ⟨#[]⟩,.slice none 0 0] 48 (0,0))
 bel:Below w.heap.size w W
 hB:B=w.heap.size
theorem PutM.keep {w W W':World} {B:Nat} {dc xc:Array Value} (h:PutM w W B dc xc) (hb:Below W.heap.size W W'):PutM w W' B dc xc :=
 ⟨zab hb h.b0,zab hb h.b1,zab hb h.b2,h.bel.trans (hb.mono h.bel.size),h.hB⟩
def PairAt (w:World) (b o K:Nat) (yk yn:Int) (ys:ByteArray) (yv:Value) (zk zn:Int) (zs:ByteArray) (zv:Value):Prop :=
 (w.cell? ⟨b,o+K * 4,none⟩=some (.int .i64 yk)∧w.cell? ⟨b,o+K * 4+1,none⟩=some (.int .i64 yn)∧w.cell? ⟨b,o+K * 4+2,none⟩=some (.string ys)∧w.cell? ⟨b,o+K * 4+3,none⟩=some yv) ∧
 (w.cell? ⟨b,o+(K+1) * 4,none⟩=some (.int .i64 zk)∧w.cell? ⟨b,o+(K+1) * 4+1,none⟩=some (.int .i64 zn)∧w.cell? ⟨b,o+(K+1) * 4+2,none⟩=some (.string zs)∧w.cell? ⟨b,o+(K+1) * 4+3,none⟩=some zv)
theorem PairAt.keep {w W:World} {b o K:Nat} {yk yn:Int} {ys:ByteArray} {yv:Value} {zk zn:Int} {zs:ByteArray} {zv:Value} (h:PairAt w b o K yk yn ys yv zk zn zs zv) (hb:Below w.heap.size w W):PairAt W b o K yk yn ys yv zk zn zs zv :=
 let ⟨⟨a1,a2,a3,a4⟩,c1,c2,c3,c4⟩:=h
 ⟨⟨cell?_keep hb a1,cell?_keep hb a2,cell?_keep hb a3,cell?_keep hb a4⟩,cell?_keep hb c1,cell?_keep hb c2,cell?_keep hb c3,cell?_keep hb c4⟩
mutual
theorem IsV.lt {w : World} {F : Nat → Prop} : ∀ (v : PV) {sl : Value}, IsV w F v sl → IsV w (fun b => F b ∧ b < w.heap.size) v sl
 | .mk _ _ _ l, _, ⟨a, cap, cs, h, hr, hF, hs⟩ => ⟨a, cap, cs, h, hr, fun h0 x hx => ⟨hF h0 x hx, by
     obtain ⟨b,off,ha,hb,_⟩:=hr.2.2.2.2 h0
     rw [ha] at hx
     cases hx
     exact hb⟩,IsVs.lt l hs⟩
theorem IsVs.lt {w : World} {F : Nat → Prop} : ∀ (l : List PV) {cs : List Value}, IsVs w F l cs → IsVs w (fun b => F b ∧ b < w.heap.size) l cs
 | [],_,h=>h
 | v::l,_,⟨sl,t,h,hv,ht⟩=>⟨sl,t,h,IsV.lt v hv,IsVs.lt l ht⟩
end
def ArrM (Q:Nat) (w:World) (v:Value) (n:Nat) (l:List PV):Prop:=∃cs,w.ownsRow Q 48 4 v n cs∧IsVs w (fun b=>Q≤b∧b<w.heap.size∧v.ownBlock≠some b) l cs
theorem ArrM.keep {Q:Nat} {w W:World} {v:Value} {n:Nat} {l:List PV} (h:ArrM Q w v n l) (hb:Below w.heap.size w W):ArrM Q W v n l :=
 let ⟨cs,h1,h2⟩:=h
 ⟨cs,zay h1 hb,IsVs.keep (zaU.of_below hb) (fun _ h=>⟨h.1,Nat.lt_of_lt_of_le h.2.1 hb.size,h.2.2⟩) _ h2⟩
theorem ArrM.push {Q : Nat} {w w' : World} {v v' : Value} {n : Nat} {l : List PV} {cs : List Value} (h2 : IsVs w (fun b => Q ≤ b ∧ b < w.heap.size ∧ v.ownBlock ≠ some b) l cs) {x : PV} {sx : Value} (hx : IsV w (fun b => Q ≤ b ∧ b < w.heap.size ∧ v.ownBlock ≠ some b) x sx) {o : Obj}
   (hO:w'.ownsRow Q 48 4 v' (n+1) (cs++pvC x sx)) (hg:(w.alloc o).grownBy w' v.ownBlock) (hn:zhX (w.alloc o) v v'):ArrM Q w' v' (n+1) (l++[x]):=by
 have hs:w.heap.size≤w'.heap.size:=Nat.le_trans (by rw [zal];omega) hg.size
 refine ⟨_,hO,IsVs.keep (F:=fun b=>Q≤b∧b<w.heap.size∧v.ownBlock≠some b) ⟨hs,fun b hb hF=>?_⟩ (fun b hF=>⟨hF.1,Nat.lt_of_lt_of_le hF.2.1 hs,fun e=>?_⟩) _ (h2.snoc hx)⟩
 · rw [hg.block b (by rw [zal]; omega) (fun e => hF.2.2 e.symm)]
   exact (zah w o).block b hb
 · rcases hn b e with e|e
   · exact hF.2.2 e
   · rw [zal] at e;omega
theorem rep_mem {x:PV×PV}:∀(l:List (PV×PV)) (y:PV×PV),y∈repK x l→∃z∈l,z.1=y.1
 | [],y,h=>by cases h
 | z :: l, y, h => by
   unfold repK at h
   split at h
   · rcases List.mem_cons.1 h with rfl|h
     · exact ⟨z,List.mem_cons_self,rfl⟩
     · exact ⟨y,List.mem_cons_of_mem _ h,rfl⟩
   · rcases List.mem_cons.1 h with rfl|h
     · exact ⟨y,List.mem_cons_self,rfl⟩
     · obtain ⟨u,hu,e⟩:=rep_mem l y h
       exact ⟨u,List.mem_cons_of_mem _ hu,e⟩
theorem put_kind {x:PV×PV} {l:List (PV×PV)} (hx:x.1.kind=5) (h:∀y∈l,y.1.kind=5):∀y∈putK x l,y.1.kind=5:=by
 intro y hy
 unfold putK at hy
 split at hy
 · obtain ⟨z,hz,e⟩:=rep_mem l y hy
   rw [←e];exact h z hz
 · rcases (zhW l).1 hy with rfl|hy
   · exact hx
   · exact h y hy
theorem put_len (x:PV×PV) (l:List (PV×PV)):(putK x l).length≤l.length+1:=by
 unfold putK
 split
 · rw [rep_len];omega
 · rw [(zgy x l).length_eq];simp
structure DicM (w wr:World) (B:Nat) (sl:Value) (ps:List (PV×PV)):Prop where
 b0:wr.heap[B]?=some (.cells #[.int .i64 0,.int .i64 0,.string ⟨#[]⟩,.slice none 0 0] 48 (0,0))
 b1:wr.heap[B+1]?=some (.cells #[.int .i64 7,.int .i64 0,.string ⟨#[]⟩,sl] 48 (0,0))
 val:IsV wr (fun b=>B+1<b) (dctV ps) sl
 kinds:∀y∈ps,y.1.kind=5
 bel:Below w.heap.size w wr
 hB:w.heap.size≤B
theorem DicM.keep {w wr W:World} {B:Nat} {sl:Value} {ps:List (PV×PV)} (h:DicM w wr B sl ps) (hb:Below wr.heap.size wr W):DicM w W B sl ps :=
 ⟨zab hb h.b0,zab hb h.b1,h.val.below hb,h.kinds,h.bel.trans (hb.mono h.bel.size),h.hB⟩
theorem DicM.start (w:World) {B:Nat} (hB:B=w.heap.size):DicM w ((w.alloc (.cells #[.int .i64 0,.int .i64 0,.string ⟨#[]⟩,.slice none 0 0] 48)).alloc (.cells #[.int .i64 7,.int .i64 0,.string ⟨#[]⟩,.slice none 0 0] 48)) B (.slice none 0 0) [] :=
 ⟨zak _ (zac _ hB),zac _ (by rw [zal,hB]),IsV.leaf _ _ _ rfl,fun y hy=>(by cases hy),zcg _ _ _,Nat.le_of_eq hB.symm⟩
theorem DicM.put {w wr W : World} {B : Nat} {sl s' : Value} {ps : List (PV × PV)} {x : PV × PV} (h : DicM w wr B sl ps) (hx : x.1.kind = 5) (hv : IsV W (fun b => B + 1 < b ∨ wr.heap.size ≤ b) (dctV (putK x ps)) s') (hb : Below wr.heap.size wr W) :
   DicM w ((((W.setCell ⟨B+1,0,none⟩ (.int .i64 7)).setCell ⟨B+1,1,none⟩ (.int .i64 0)).setCell ⟨B+1,2,none⟩ (.string ⟨#[]⟩)).setCell ⟨B+1,3,none⟩ s') B s' (putK x ps):=by
 have hl:=zag h.b1
 have hB:=h.hB
 refine ⟨(za7 (by omega) _ _ _ _).trans (zab hb h.b0),set4 (zab hb h.b1) _ _ _ _,IsV.keep ⟨by rw [zaT];exact Nat.le_refl _,fun b _ hF=>za7 ?_ _ _ _ _⟩ (fun b hF=>?_) _ hv,put_kind hx h.kinds,zai (h.bel.trans (hb.mono h.bel.size)) (by omega) _ _ _ _,h.hB⟩
 · rcases hF with hF|hF<;>omega
 · rcases hF with hF|hF
   · exact hF
   · show B+1<b
     omega
theorem DicM.fin {w W:World} {B:Nat} {sl:Value} {ps:List (PV×PV)} (h:DicM w W B sl ps) (y0 y1 y2 y3:Value) :
   Below w.heap.size w ((((W.setCell ⟨B,0,none⟩ y0).setCell ⟨B,1,none⟩ y1).setCell ⟨B,2,none⟩ y2).setCell ⟨B,3,none⟩ y3):=zai h.bel h.hB _ _ _ _
structure VAt (w W:World) (F:Nat→Prop) (r p:Nat) (a:Option Addr) (cap:Nat) (bs:List UInt8) (last:Bool) (V:PV×Int×Int) (n:Nat) (st:List Lv) (at_:Int):Prop where
 stk:Stk w W F (fun b=>b=r) p a cap bs last st at_
 res:W.heap[r]?=some (.cells #[.int .i64 0,.int .i64 0,.string ⟨#[]⟩,.slice none 0 0] 48 (0,0))
 fuel:valO bs last n st at_=some V
 len:∀v∈st,(v.l.length:Int)≤at_
 rng:st=[]∨(0≤at_∧at_≤bs.length)
def ValI (w:World) (r p:Nat) (a:Option Addr) (cap:Nat) (bs:List UInt8) (last:Bool) (at0:Int) (V:PV×Int×Int) (n:Nat) (act:Act) (W:World):Prop :=
 ∃(F:Nat→Prop) (st:List Lv) (at_:Int) (u10 u11 u12 u13 u14 u15 u16 u17 u18 u19 u20 u21 u22 u23 u24 u25 u26 u27 u28 u29 u30 u31 u32 u33 u34 u35 u36 u37 u38 u39 u40 u41 u42 u43 u44 u45 u46 u47 u48 u49 u50 u51 u52 u53 u54 u55 u56 u57 u58 u59 u60 u61:Value),Hid (VAt w W F r p a cap bs last V n st at_) ∧
   act={ tmps:=#[.slice a bs.length cap,.int .i64 at0,.bool last,undef,undef,undef,.pointer (some ⟨r,0,none⟩),.int .i64 0,.int .i64 0,.pointer (some ⟨p,0,none⟩),u10,u11,u12,u13,u14,u15,u16,u17,u18,u19,u20,u21,u22,u23,u24,u25,u26,u27,u28,u29,u30,u31,u32,u33,u34,u35,u36,u37,u38,u39,u40,u41,u42,u43,u44,u45,u46,u47,u48,u49,u50,u51,u52,u53,u54,u55,u56,u57,u58,u59,u60,u61],defers:=[] }
def ValEnd (w:World) (V:PV×Int×Int) (e:Ending) (w':World):Prop :=
 ∃sl,e=.returned (.tuple #[pvA V.1 sl,.int .i64 V.2.1,.int .i64 V.2.2])∧IsV w' (fun b=>w.heap.size≤b) V.1 sl∧Below w.heap.size w w'
theorem VAt.small {w W:World} {F:Nat→Prop} {r p:Nat} {a:Option Addr} {cap:Nat} {bs:List UInt8} {last:Bool} {V:PV×Int×Int} {n:Nat} {st:List Lv} {at_:Int} (h:VAt w W F r p a cap bs last V n st at_):∀v∈st,v.l.length≤400000:=by
 intro v hv
 obtain ⟨gs,osl,hs⟩:=h.stk
 have:=h.len v hv
 have hsm:=hs.small
 rcases h.rng with h0|h0
 · subst h0;cases hv
 · omega
theorem stepV_len {bs:List UInt8} {last:Bool} {st:List Lv} {k:Int} {t:Tk} {N:Int} (hN:0≤N) (h:∀v∈st,(v.l.length:Int)≤N):∀v∈(zau bs last st k t).2.1,(v.l.length:Int)≤N:=by
 unfold zau
 split
 · exact h
 · split
   · show ∀v∈(zch st _).1,_
     unfold zch
     split
     · exact h
     · split
       · exact h
       · intro v hv
         rcases List.mem_cons.1 hv with rfl|hv
         · exact hN
         · exact h v hv
   · split
     · have he:∀d,∀v∈(zbr st d).2.1,(v.l.length:Int)≤N:=by
         intro d
         unfold zbr
         split
         · exact h
         · rename_i v rest
           have hr:∀u∈rest,(u.l.length:Int)≤N:=fun u hu=>h u (List.mem_cons_of_mem _ hu)
           split
           · exact h
           · split
             · exact hr
             · split
               · exact h
               · exact hr
       simp only
       split
       · exact he _
       · exact he _
     · simp only
       split
       · exact h
       · split
         · exact h
         · exact h
theorem IsV.setr {w W : World} {F : Nat → Prop} {r p : Nat} {a : Option Addr} {cap : Nat} {bs : List UInt8} {last : Bool} {st : List Lv} {at_ : Int} {gs : List Nat} {osl : Value} {v : PV} {sl : Value} (h : IsV W F v sl) (hs : zam w W F (fun b => b = r) p a cap bs last st at_ gs osl) (y0 y1 y2 y3 : Value) :
   IsV ((((W.setCell ⟨r,0,none⟩ y0).setCell ⟨r,1,none⟩ y1).setCell ⟨r,2,none⟩ y2).setCell ⟨r,3,none⟩ y3) (fun b=>w.heap.size≤b) v sl :=
 IsV.keep ⟨by rw [zaT];exact Nat.le_refl _,fun b _ hf=>zaA (fun e=>(hs.fb b hf).2.1 e) _ _ _ _⟩ (fun b hf=>(hs.fb b hf).1) v h
def S5v (w:World) (v:Nat) (y0 y1 y2 y3:Value):Prop:=w.cell? ⟨v,0,none⟩=some y0∧w.cell? ⟨v,1,none⟩=some y1∧w.cell? ⟨v,2,none⟩=some y2∧w.cell? ⟨v,3,none⟩=some y3
theorem S5v.drew {w:World} {v:Nat} {y0 y1 y2 y3:Value} (h:S5v w v y0 y1 y2 y3):S5v w.drew v y0 y1 y2 y3:=h
theorem S5v.alloc {w:World} {v:Nat} {y0 y1 y2 y3:Value} (h:S5v w v y0 y1 y2 y3) (o:Obj):S5v (w.alloc o) v y0 y1 y2 y3 :=
 ⟨zbh o h.1,zbh o h.2.1,zbh o h.2.2.1,zbh o h.2.2.2⟩
theorem S5v.grown {w w':World} {row:Option Nat} {v:Nat} {y0 y1 y2 y3:Value} (h:S5v w v y0 y1 y2 y3) (hg:w.grownBy w' row) (h2:row≠some v):S5v w' v y0 y1 y2 y3:=by
 have k : ∀ b o y, row ≠ some b → w.cell? ⟨b, o, none⟩ = some y → w'.cell? ⟨b, o, none⟩ = some y := fun b o y hb hc => by
   rw [World.cell?_of_block (w:=w) (a:=⟨b,o,none⟩) (hg.block b (World.block_lt_of_cell? w _ hc) (fun e=>hb e.symm))];exact hc
 exact ⟨k _ _ _ h2 h.1,k _ _ _ h2 h.2.1,k _ _ _ h2 h.2.2.1,k _ _ _ h2 h.2.2.2⟩
theorem S5v.set {w:World} {v b:Nat} {y0 y1 y2 y3:Value} (h:S5v w v y0 y1 y2 y3) (h2:v≠b) (o:Nat) (z:Value):S5v (w.setCell ⟨b,o,none⟩ z) v y0 y1 y2 y3:=by
 have k : ∀ c o' y, c ≠ b → w.cell? ⟨c, o', none⟩ = some y → (w.setCell ⟨b, o, none⟩ z).cell? ⟨c, o', none⟩ = some y := fun c o' y hb hc => by
   rw [World.cell?_of_block (w:=w) (a:=⟨c,o',none⟩) (heap_setCell_other _ _ _ _ hb)];exact hc
 exact ⟨k _ _ _ h2 h.1,k _ _ _ h2 h.2.1,k _ _ _ h2 h.2.2.1,k _ _ _ h2 h.2.2.2⟩
theorem owns_lastC {w:World} {base g n cap:Nat} {cs:List Value} {z0 z1 z2 z3:Value} (h:w.ownsRow base 48 4 (.slice (some ⟨g,0,none⟩) (n+1) cap) (n+1) (cs++[z0,z1,z2,z3])) :
   (w.cell? ⟨g,n * 4,none⟩=some z0∧w.cell? ⟨g,n * 4+1,none⟩=some z1∧w.cell? ⟨g,n * 4+2,none⟩=some z2∧w.cell? ⟨g,n * 4+3,none⟩=some z3)∧(∀j,w.frozen? ⟨g,j,none⟩=false):=by
 have hl:cs.length=n * 4:=by have:=h.1;simp at this;omega
 rcases h.2 with ⟨e,-⟩|⟨g',cap',cur,e,hb,hh,hn,hm,hs,ht⟩
 · cases e
 · simp only [Value.slice.injEq,Option.some.injEq,Addr.mk.injEq] at e
   obtain ⟨⟨rfl,-⟩,-,rfl⟩:=e
   have hc : ∀ j z, (cs ++ [z0, z1, z2, z3])[j]? = some z → w.cell? ⟨g, j, none⟩ = some z := fun j z hj => by
     rw [cell_of_row w g j cur _ _ hh]
     rw [←ht,List.getElem?_take] at hj
     split at hj
     · simpa using hj
     · cases hj
   refine ⟨⟨hc _ _ ?_,hc _ _ ?_,hc _ _ ?_,hc _ _ ?_⟩,fun j=>frozen_of_row w g j cur _ hh⟩
   · rw [List.getElem?_append_right (by omega)];simp [hl]
   · rw [List.getElem?_append_right (by omega)];simp [hl]
   · rw [List.getElem?_append_right (by omega)];simp [hl]
   · rw [List.getElem?_append_right (by omega)];simp [hl]
theorem owns_setLast {w:World} {base g n cap:Nat} {cs:List Value} {z0 z1 z2 z3 y0 y1 y2 y3:Value} (h:w.ownsRow base 48 4 (.slice (some ⟨g,0,none⟩) (n+1) cap) (n+1) (cs++[z0,z1,z2,z3])) :
   ((((w.setCell ⟨g,n * 4,none⟩ y0).setCell ⟨g,n * 4+1,none⟩ y1).setCell ⟨g,n * 4+2,none⟩ y2).setCell ⟨g,n * 4+3,none⟩ y3).ownsRow base 48 4 (.slice (some ⟨g,0,none⟩) (n+1) cap) (n+1) (cs++[y0,y1,y2,y3]):=by
 have hl:cs.length=n * 4:=by have:=h.1;simp at this;omega
 rcases h.2 with ⟨e,-⟩|⟨g',cap',cur,e,hb,hh,hn,hm,hs,ht⟩
 · cases e
 · simp only [Value.slice.injEq,Option.some.injEq,Addr.mk.injEq] at e
   obtain ⟨⟨rfl,-⟩,-,rfl⟩:=e
   have e0:=heap_setCell_same w g (n * 4) cur _ y0 hh
   have e1:=heap_setCell_same _ g (n * 4+1) _ _ y1 e0
   have e2:=heap_setCell_same _ g (n * 4+2) _ _ y2 e1
   have e3:=heap_setCell_same _ g (n * 4+3) _ _ y3 e2
   refine ⟨by simp [hl];omega,.inr ⟨g,cap,_,rfl,hb,e3,hn,hm,by simpa using hs,?_⟩⟩
   have hcur : ∀ j, j < n * 4 → cur.toList[j]? = cs[j]? := fun j hj => by
     have:=congrArg (fun l=>l[j]?) ht
     simp only [List.getElem?_take] at this
     rw [if_pos (by omega),List.getElem?_append_left (by omega)] at this
     exact this
   apply List.ext_getElem?
   intro j
   rw [List.getElem?_take]
   simp only [Array.toList_setIfInBounds,List.getElem?_set,List.length_set,Array.length_toList]
   by_cases hj:j<(n+1) * 4
   · rw [if_pos hj]
     by_cases h3:n * 4+3=j
     · subst h3;rw [List.getElem?_append_right (by omega)];simp [hl];omega
     · by_cases h2:n * 4+2=j
       · subst h2;rw [List.getElem?_append_right (by omega)];simp [hl];omega
       · by_cases h1:n * 4+1=j
         · subst h1;rw [List.getElem?_append_right (by omega)];simp [hl];omega
         · by_cases h0:n * 4=j
           · subst h0;rw [List.getElem?_append_right (by omega)];simp [hl];omega
           · simp only [h0,h1,h2,h3,if_false]
             rw [List.getElem?_append_left (by omega)];exact hcur j (by omega)
   · rw [if_neg hj,List.getElem?_eq_none (by simp [hl];omega)]
theorem zcq (w:World) {g b:Nat} (h:g≠b) (i j:Nat) (u v:Value):(w.setCell ⟨g,i,none⟩ u).setCell ⟨b,j,none⟩ v=(w.setCell ⟨b,j,none⟩ v).setCell ⟨g,i,none⟩ u:=by
 unfold World.setCell
 simp only
 congr 1
 apply Array.ext_getElem?
 intro k
 simp only [Array.getElem?_modify]
 by_cases h1:g=k
 · subst h1
   have h2:¬b=g:=fun e=>h e.symm
   simp [h2]
 · by_cases h2:b=k
   · subst h2;simp [h1]
   · simp [h1,h2]
theorem zhJ (w:World) {g b:Nat} (h:g≠b) (i j0 j1 j2 j3:Nat) (u v0 v1 v2 v3:Value) :
   ((((w.setCell ⟨g,i,none⟩ u).setCell ⟨b,j0,none⟩ v0).setCell ⟨b,j1,none⟩ v1).setCell ⟨b,j2,none⟩ v2).setCell ⟨b,j3,none⟩ v3=((((w.setCell ⟨b,j0,none⟩ v0).setCell ⟨b,j1,none⟩ v1).setCell ⟨b,j2,none⟩ v2).setCell ⟨b,j3,none⟩ v3).setCell ⟨g,i,none⟩ u:=by
 rw [zcq w h,zcq _ h,zcq _ h,zcq _ h]
theorem VAt.put {w W5 w7:World} {F:Nat→Prop} {r v4 p:Nat} {a:Option Addr} {cap:Nat} {bs:List UInt8} {last:Bool} {V:PV×Int×Int} {n:Nat} {top:Lv} {rest:List Lv} {at2:Int} {g:Nat} {t:List Nat} {osl:Value}
   (HG5:zam w W5 F (fun b=>b=r∨b=v4) p a cap bs last (top::rest) at2 (g::t) osl) (HR5:W5.heap[r]?=some (.cells #[.int .i64 0,.int .i64 0,.string ⟨#[]⟩,.slice none 0 0] 48 (0,0)))
   {ta:Option Addr} {tn tc:Nat} (HGL:W5.heap[g]?=some (.cells #[.bool top.dict,.slice ta tn tc] 168 (0,0))) {cs:List Value} (HVS:IsVs W5 F top.l cs) {X:PV} {sa:Option Addr} {sn sc:Nat} (HX:IsV W5 F X (.slice sa sn sc)) (HTN:tn=top.l.length)
   {o:Obj} (HG7:((W5.alloc o).drew).grownBy w7 (Value.slice ta tn tc).ownBlock) {g7 cap7:Nat} {z0 z1 z2 z3:Value}
   (HO7:w7.ownsRow w.heap.size 48 4 (.slice (some ⟨g7,0,none⟩) (tn+1) cap7) (tn+1) (cs++[z0,z1,z2,z3])) (HAT:(Value.slice ta tn tc).ownBlock=some g7∨g7=W5.heap.size+1)
   (hv:valO bs last n ({ top with l:=top.l++[X] }::rest) at2=some V) (hlen:∀v∈top::rest,(v.l.length:Int)+1≤at2) (hrng:0≤at2∧at2≤bs.length) :
   VAt w (((((w7.setCell ⟨g7,tn * 4,none⟩ (.int .i64 X.kind)).setCell ⟨g7,tn * 4+1,none⟩ (.int .i64 X.n)).setCell ⟨g7,tn * 4+2,none⟩ (.string (mkB X.s))).setCell ⟨g7,tn * 4+3,none⟩ (.slice sa sn sc)).setCell ⟨g,1,none⟩ (.slice (some ⟨g7,0,none⟩) (tn+1) cap7)) F r p a cap bs last V n ({ top with l:=top.l++[X] }::rest) at2:=by
 subst HTN
 have hk : Keeps (fun b => (Value.slice ta top.l.length tc).ownBlock = some b) W5 ((((w7.setCell ⟨g7, top.l.length * 4, none⟩ (.int .i64 X.kind)).setCell ⟨g7, top.l.length * 4 + 1, none⟩ (.int .i64 X.n)).setCell ⟨g7, top.l.length * 4 + 2, none⟩ (.string (mkB X.s))).setCell ⟨g7, top.l.length * 4 + 3, none⟩ (.slice sa sn sc)) := by
   have h0 : Keeps (fun b => (Value.slice ta top.l.length tc).ownBlock = some b) W5 w7 :=
     (zaq (zah W5 o).drew).grown HG7 fun k hk=>.inl hk
   have hg7:(Value.slice ta top.l.length tc).ownBlock=some g7∨W5.heap.size≤g7:=by rcases HAT with h|h;exact .inl h;exact .inr (by omega)
   exact (((h0.setCell (a:=⟨g7,_,none⟩) hg7 _).setCell (a:=⟨g7,_,none⟩) hg7 _).setCell (a:=⟨g7,_,none⟩) hg7 _).setCell (a:=⟨g7,_,none⟩) hg7 _
 have N := HG5.put HGL HVS HX (v' := .slice (some ⟨g7, 0, none⟩) (top.l.length + 1) cap7) (owns_setLast HO7) hk (fun b hb => by
   have hb:g7=b:=by simpa [Value.ownBlock] using hb
   subst hb
   rcases HAT with h|h;exact .inl h;exact .inr (by omega))
 refine ⟨(let ⟨gs2,osl2,h⟩:=N.stk;⟨gs2,osl2,h.give fun b hb=>.inl hb⟩),zce N.sg HR5 (.inl rfl),hv,fun v hv=>?_,.inr hrng⟩
 rcases List.mem_cons.1 hv with rfl|hv
 · have:=hlen top List.mem_cons_self
   simpa using this
 · have:=hlen v (List.mem_cons_of_mem _ hv)
   omega
set_option maxRecDepth 100000 in
theorem value_any {w:World} {a:Option Addr} {cap:Nat} {bs:List UInt8} (hr:Row w 1 a bs.length cap (bs.map u8C)) (hn:bs.length≤400000) (at0:Int) (last:Bool) (V:PV×Int×Int) (hV:valO bs last (bs.length+2) [] at0=some V) :
   Calls Tryz.prog 55 #[.slice a bs.length cap,.int .i64 at0,.bool last] w (ValEnd w V):=by
 obtain ⟨r,hrr⟩:∃r,r=w.heap.size:=⟨_,rfl⟩
 have hs0 : zam w ((w.alloc (.cells #[.int .i64 0, .int .i64 0, .string ⟨#[]⟩, .slice none 0 0] 48)).alloc (.cells #[.slice a bs.length cap, .int .i64 at0, .bool last, .slice none 0 0] 161)) (fun _ => False) (fun b => b = r) (r + 1) a cap bs last [] at0 [] (.slice none 0 0) :=
   ⟨zac _ (by rw [zal,hrr]),by omega,by omega,World.ownsRow_nil _ _ _ _,fun b hb=>(by cases hb),rfl,fun b hb=>hb.elim,fun b hb=>by rw [zal,zal];omega,zcg w _ _,hr,hn,by simp⟩
 have HAT := Lib.hid (show VAt w ((w.alloc (.cells #[.int .i64 0, .int .i64 0, .string ⟨#[]⟩, .slice none 0 0] 48)).alloc (.cells #[.slice a bs.length cap, .int .i64 at0, .bool last, .slice none 0 0] 161)) (fun _ => False) r (r + 1) a cap bs last V (bs.length + 2) [] at0 from
   ⟨⟨_,_,hs0⟩,zak _ (zac _ hrr),hV,fun v hv=>(by cases hv),.inl rfl⟩)
 have HRR:=Lib.hid hrr
 clear hs0 hV hr hn hrr
 go_enter Tryz.func55,Tryz.ntmps55
 go_wp2
 refine za9 0 (ValI w r (r+1) a cap bs last at0 V) rfl ?first ?pass
 case first =>
   intro hpass
   have HPASS:=Lib.hid hpass
   clear hpass
   go_wp2
   rw [←HRR.out]
   refine wp_label ?_
   rename_i K hK
   exact hK _ _ (HPASS.out _ _ _ ⟨_,[],at0,_,_,_,_,_,_,_,_,_,_,_,_,_,_,_,_,_,_,_,_,_,_,_,_,_,_,_,_,_,_,_,_,_,_,_,_,_,_,_,_,_,_,_,_,_,_,_,_,_,_,_,_,HAT,rfl⟩)
 case pass =>
   rintro n act W ⟨F,st,at_,u10,u11,u12,u13,u14,u15,u16,u17,u18,u19,u20,u21,u22,u23,u24,u25,u26,u27,u28,u29,u30,u31,u32,u33,u34,u35,u36,u37,u38,u39,u40,u41,u42,u43,u44,u45,u46,u47,u48,u49,u50,u51,u52,u53,u54,u55,u56,u57,u58,u59,u60,u61,HA,rfl⟩
   obtain ⟨p,hp⟩:∃p,p=r+1:=⟨_,rfl⟩
   rw [←hp] at HA ⊢
   have HP:=Lib.hid hp
   clear hp HAT
   obtain ⟨gs,osl,hs⟩:=HA.out.stk
   have HS:=Lib.hid hs
   have HNX:=Lib.hid (pnext_any hs)
   have HFU:=Lib.hid HA.out.fuel
   have HRES:=Lib.hid HA.out.res
   have hrl:r<W.heap.size:=zag HA.out.res
   have hpr:p≠r:=hs.gp
   have HLEN:=Lib.hid HA.out.len
   have HSM:=Lib.hid HA.out.small
   have HRNG:=Lib.hid HA.out.rng
   have HHR:=Lib.hid (show w.heap.size≤r by rw [HRR.out];exact Nat.le_refl _)
   have hfu:=HFU.out
   cases n with
   | zero=>cases hfu
   | succ n =>
   unfold valO at hfu
   simp only at hfu
   obtain ⟨T,hT⟩:∃T,T=zae bs at_ last:=⟨_,rfl⟩
   rw [←hT] at hfu HNX
   have HT:=Lib.hid hT
   obtain ⟨x,tf,tt,er⟩:=T
   simp only at hfu HNX
   clear hs hT HFU HA
   by_cases her:er=0
   case neg =>
     have hv:=hfu
     rw [if_pos her] at hv
     have HV:=Lib.hid (Option.some.inj hv).symm
     have e1:(er==0)=false:=by rw [beq_eq_false_iff_ne];exact her
     have e2:(er != 0)=true:=by simp only [bne,e1,Bool.not_false]
     clear hfu hv her
     unfold tokN at HNX
     go_wp2_with fail
     refine HNX.out.mono ?_
     rintro e w1 ⟨rfl,hs1,hk1⟩
     have HR1:=Lib.hid ((hk1.alloc (.cells (tokN x tf tt) 112)).obj HRES.out (Ne.symm hpr))
     have HB1:=Lib.hid (hs1.bel.alloc hs1.bel.size (.cells (tokN x tf tt) 112))
     unfold tokN at HR1 HB1
     obtain ⟨⟨k0,k1,k2,k3⟩,m0,m1,m2,m3⟩:=zaf HR1.out
     clear hs1 hk1
     go_upto_region 3 with fail
     generalize w1.alloc _=W2 at *
     go_wp2
     try simp only [Exit.jump]
     refine bodyPost_ret (zaN rfl _ _ r 48 _ (0,0) _ rfl (by exact set4 HR1.out _ _ _ _) Tryz.underlying48 rfl (by exact zaB) _ _ rfl rfl) rfl ?_
     rw [HV.out]
     exact ⟨.slice none 0 0,rfl,IsV.leaf _ _ _ rfl,zai HB1.out HHR.out _ _ _ _⟩
   subst her
   have hv:=hfu
   rw [if_neg (by simp)] at hv
   have hrng:0≤at_∧at_≤bs.length:=by
     have h:=HT.out
     by_cases ho:at_<0∨(bs.length:Int)<at_
     · unfold zae at h
       rw [if_pos ho] at h
       have h2:=congrArg (fun z:Tk×Int×Int×Int=>z.2.2.2) h
       simp at h2
     · omega
   have hst:=fun w1 (h1:zam w w1 F (fun b=>b=r) p a cap bs last st tt gs osl)=>step_any h1 x tf tt HSM.out
   have HST:=Lib.hid hst
   have hat:=fun h=>zcR (bs:=bs) (k:=at_) (last:=last) hrng.1 hrng.2 (by rw [←HT.out]) h
   rw [←HT.out] at hat
   have hto:=zaR (bs:=bs) (k:=at_) last hrng.1 hrng.2
   rw [←HT.out] at hto
   simp only at hat hto
   have hsa:=zht (bs:=bs) (last:=last) (k:=tt) (by omega) hto.2 st x
   have hsk:=fun h=>zfa (bs:=bs) (last:=last) (k:=tt) (st:=st) (t:=x) h
   have hsl:=stepV_len (bs:=bs) (last:=last) (st:=st) (k:=tt) (t:=x) (N:=at_) hrng.1 HLEN.out
   obtain ⟨R,hRR⟩:∃R,R=zau bs last st tt x:=⟨_,rfl⟩
   rw [←hRR] at hsa hsk hsl hv
   have HST2:=Lib.hid (show ∀w1,zam w w1 F (fun b=>b=r) p a cap bs last st tt gs osl→Calls Tryz.prog 96 #[.pointer (some ⟨p,0,none⟩),.agg (tokN x tf tt)] w1 (PStep w w1 F (fun b=>b=r) p a cap bs last R) from fun w1 h1=>by rw [hRR];exact hst w1 h1)
   obtain ⟨o,st2,at2,er2⟩:=R
   simp only at hsa hsk hsl hv
   have HV:=Lib.hid hv
   have HSL:=Lib.hid hsl
   have HSA:=Lib.hid hsa
   have HSK:=Lib.hid (fun h=>hat (hsk h))
   have HTO:=Lib.hid hto
   have HR0:=Lib.hid hrng
   clear hst HST hat hto hsa hsk hsl hRR hv hfu hrng HT
   unfold tokN at HNX HST2
   go_wp2_with fail
   refine HNX.out.mono ?_
   rintro e w1 ⟨rfl,hs1,hk1⟩
   have HR1:=Lib.hid (hk1.obj HRES.out (Ne.symm hpr))
   have HS1:=Lib.hid hs1
   clear hs1 hk1 HNX
   go_wp2_with fail
   refine (HST2.out _ (HS1.out.alloc _)).mono ?_
   rintro e w3 ⟨F',sa,sn,sc,X,rfl,hX,hN⟩
   have HX:=Lib.hid hX
   have HN:=Lib.hid hN
   have HR3:=Lib.hid (zce hN.sg (zak (.cells #[.int .i64 x.kind,.int .i64 tf,.int .i64 tt,.int .i64 x.vk,.int .i64 x.vn,.string (mkB x.vs),.slice none 0 0,.string (mkB x.s)] 112) HR1.out) rfl)
   have HB3:=Lib.hid (show Below w.heap.size w w3 from (let ⟨_,_,h⟩:=hN.stk;h.bel))
   clear hX hN HST2 HS1 HR1
   unfold pvA
   by_cases her2:er2=0
   case neg =>
     have hv:=HV.out
     rw [if_pos her2] at hv
     have HVV:=Lib.hid (Option.some.inj hv).symm
     have e1:(er2==0)=false:=by rw [beq_eq_false_iff_ne];exact her2
     have e2:(er2 != 0)=true:=by simp only [bne,e1,Bool.not_false]
     clear hv her2
     simp only
     generalize o.isSome=io at *
     go_upto_region 6 with fail
     have HR4:=Lib.hid (zak (.cells #[.int .i64 X.kind,.int .i64 X.n,.string (mkB X.s),.slice sa sn sc] 48) HR3.out)
     have HB4:=Lib.hid (HB3.out.alloc HB3.out.size (.cells #[.int .i64 X.kind,.int .i64 X.n,.string (mkB X.s),.slice sa sn sc] 48))
     generalize w3.alloc _=W4 at *
     obtain ⟨⟨k0,k1,k2,k3⟩,m0,m1,m2,m3⟩:=zaf HR4.out
     go_wp2
     refine bodyPost_ret (zaN rfl _ _ r 48 _ (0,0) _ rfl (by exact set4 HR4.out _ _ _ _) Tryz.underlying48 rfl (by exact zaB) _ _ rfl rfl) rfl ?_
     rw [HVV.out]
     exact ⟨.slice none 0 0,rfl,IsV.leaf _ _ _ rfl,zai HB4.out HHR.out _ _ _ _⟩
   subst her2
   have hv:=HV.out
   rw [if_neg (by simp)] at hv
   have hlt:at_<tt:=HSK.out rfl
   have hrng:=HR0.out
   have hsa:=HSA.out
   have hsl:=HSL.out
   cases o with
   | none =>
     simp only at hv
     have HVA:=Lib.hid (show ∀o:Obj,VAt w (w3.alloc o) F' r p a cap bs last V n st2 at2 from fun o =>
       ⟨(let ⟨gs2,osl2,h⟩:=HN.out.stk;⟨gs2,osl2,h.alloc o⟩),zak o HR3.out,hv,fun v hv=>by have:=hsl v hv;omega,.inr ⟨by omega,hsa.2⟩⟩)
     clear hv hlt hsa hsl HN HX hrng
     simp only [Option.isSome_none]
     go_wp2
     go_step3
     exact ⟨rfl,n,Nat.lt_succ_self _,F',st2,at2,_,_,_,_,_,_,_,_,_,_,_,_,_,_,_,_,_,_,_,_,_,_,_,_,_,_,_,_,_,_,_,_,_,_,_,_,_,_,_,_,_,_,_,_,_,_,_,_,_,_,_,_,Lib.hid (HVA.out _),rfl⟩
   | some x0 =>
     simp only [Option.isSome_some]
     obtain ⟨rfl,hv0⟩:=HX.out x0 rfl
     have HV0:=Lib.hid hv0
     obtain ⟨gs2,osl2,hs2⟩:=HN.out.stk
     have HS2:=Lib.hid hs2
     simp only at hv
     go_upto_region 9 with fail
     obtain ⟨v4,hv4⟩:∃v4,v4=w3.heap.size:=⟨_,rfl⟩
     have hb4:=zah w3 (.cells #[.int .i64 X.kind,.int .i64 X.n,.string (mkB X.s),.slice sa sn sc] 48)
     have hk4:=zac (w:=w3) (b:=v4) (.cells #[.int .i64 X.kind,.int .i64 X.n,.string (mkB X.s),.slice sa sn sc] 48) hv4
     have HS4:=Lib.hid (hs2.mono hb4)
     have HG4:=Lib.hid (hs2.res (G':=fun b=>b=r∨b=v4) hb4 (fun b hb=>hb.imp id fun e=>by rw [e,hv4,zal];omega))
     have HV4:=Lib.hid (hv0.below hb4)
     have HR4:=Lib.hid (zab hb4 HR3.out)
     have HB4:=Lib.hid (HB3.out.trans (hb4.mono HB3.out.size))
     have HK4:=Lib.hid hk4
     have HV3:=Lib.hid hv4
     have hv4r:v4≠r:=by have:=zag HR3.out;omega
     have hv4p:v4≠p:=by have:=hs2.lt;omega
     rw [←hv4]
     clear hv0 hs2 HX HN HS2 HV0 HR3 HB3 hb4 hk4
     generalize w3.alloc _=W4 at *
     clear hv4
     have HTOP:=Lib.hid (zhY HS4.out)
     go_wp2_with fail
     refine HTOP.out.mono ?_
     rintro e w5 ⟨rfl,q,rfl⟩
     have HS5:=Lib.hid (HS4.out.drewN q)
     have HG5:=Lib.hid (HG4.out.drewN q)
     have HV5:=Lib.hid (HV4.out.below (zad (Below.refl _ _) q))
     have HR5:=Lib.hid (show (W4.drewN q).heap[r]?=_ from HR4.out)
     have HB5:=Lib.hid (zad HB4.out q)
     have HK5:=Lib.hid (show (W4.drewN q).heap[v4]?=_ from HK4.out)
     clear HS4 HG4 HV4 HR4 HB4 HK4 HTOP
     generalize W4.drewN q=W5 at *
     obtain ⟨⟨k0,k1,k2,k3⟩,m0,m1,m2,m3⟩:=zaf HR5.out
     obtain ⟨⟨d0,d1,d2,d3⟩,-⟩:=zaf HK5.out
     cases st2 with
     | nil =>
       have hg:gs2=[]:=List.eq_nil_of_length_eq_zero (by rw [HS5.out.lvs.len];rfl)
       subst hg
       have HVV:=Lib.hid (Option.some.inj hv).symm
       obtain ⟨⟨c0,c1,c2,c3⟩,-⟩:=HS5.out.cells
       clear hv hlt hsa hsl hrng
       unfold topP
       go_wp2
       go_region
       all_goals
         go_wp2
         refine bodyPost_ret (zaN rfl _ _ r 48 _ (0,0) _ rfl (by exact set4 HR5.out _ _ _ _) Tryz.underlying48 rfl (by exact zaB) _ _ rfl rfl) rfl ?_
         rw [HVV.out]
         exact ⟨_,rfl,(IsV.setr HV5.out HS5.out _ _ _ _).drew,(zai HB5.out HHR.out _ _ _ _).drew⟩
     | cons top rest =>
       obtain ⟨g,t,ta,tc,cs,rfl,ht1,ht2,hgB,hgG,hgl,hO,hVs,hown⟩:=HG5.out.lastL
       obtain ⟨tn,htn⟩:∃tn,tn=top.l.length:=⟨_,rfl⟩
       rw [←htn] at ht1 hO hgl hown
       have htn2:tn≤400000:=by
         have h1:=hsl top List.mem_cons_self
         have h2:=HS5.out.small
         omega
       have hgc:W5.cell? ⟨g,1,none⟩=some (.slice ta tn tc):=by rw [cell_of_row W5 g 1 _ _ _ hgl];rfl
       have hgf:W5.frozen? ⟨g,1,none⟩=false:=frozen_of_row W5 g 1 _ _ hgl
       have hv4l:v4<W5.heap.size:=zag HK5.out
       have hgll:g<W5.heap.size:=zag hgl
       have hgt:(Value.slice ta tn tc).ownBlock≠some g:=fun e=>by obtain ⟨ds,hc⟩:=zaz hO e;exact za2 hc hgl (by decide) rfl
       have hvt:(Value.slice ta tn tc).ownBlock≠some v4:=fun e=>(hown v4 e).2 (.inr rfl)
       have HC0:Hid (S5v W5 v4 (.int .i64 X.kind) (.int .i64 X.n) (.string (mkB X.s)) (.slice sa sn sc)):=Lib.hid ⟨d0,d1,d2,d3⟩
       have HO:=Lib.hid hO
       have HGL:=Lib.hid hgl
       have HVS:=Lib.hid hVs
       have HTN:=Lib.hid htn
       have HBA:=Lib.hid (HS5.out.bel.size)
       have HGT:=Lib.hid hgt
       have HVT:=Lib.hid hvt
       have HVG:=Lib.hid (show v4≠g from fun e=>hgG (.inr e.symm))
       clear k0 k1 k2 k3 m0 m1 m2 m3 hO hgl hVs htn hown
       unfold topP
       go_upto_region 11 with fail
       have i1:(0:Int)≤(tn:Int):=by omega
       have i2:(tn:Int)≤400000:=by omega
       have i3:(tn:Int)<(tn:Int)+1:=by omega
       have i4:(tn:Int)<((tn+1:Nat):Int):=by omega
       have i5:tn<tn+1:=by omega
       have i6:(tn:Int).toNat=tn:=by omega
       obtain ⟨iB,hiB,hzB,hsB,hbB⟩:=info_parts EPV.info
       go_region_law (first|(refine step_append_lies _ (by rfl) _ _ _ (by rfl) w.heap.size 48 iB _ 4 56 EPV.und hiB hzB hsB hbB rfl (by omega) (.slice ta tn tc) tn cs (by rfl) ((HO.out.alloc _).drew) ⟨W5.heap.size,0,none⟩ 1 1 [.int .i64 0,.int .i64 0,.string ⟨#[]⟩,.slice none 0 0] (by rfl) (by rfl) (World.news_of_block (cs:=#[.int .i64 0,.int .i64 0,.string ⟨#[]⟩,.slice none 0 0]) (t:=48) (fr:=(0,0)) (heap_alloc_new W5 _)) (by simp [Value.oneCell']) (by omega) (by unfold maxLen;omega) (by omega) (by simp;have:=HBA.out;omega) (W5.heap.size+1) (by simp) ?_;intro g7 cap7 w7 hO7 hgrow hat hlt7;have HGV:Hid (g≠g7∧v4≠g7):=(by rcases hat with e|e;exact Lib.hid ⟨fun e2=>hgt (e2▸e),fun e2=>hvt (e2▸e)⟩;exact Lib.hid ⟨by omega,by omega⟩);have hs7:=(HC0.out.alloc (.cells #[.int .i64 0,.int .i64 0,.string ⟨#[]⟩,.slice none 0 0] 48)).drew.grown hgrow hvt;obtain ⟨s0,s1,s2,s3⟩:=hs7;obtain ⟨⟨z0,z1,z2,z3⟩,zf⟩:=owns_lastC hO7;have hgl7:=Lib.hid ((hgrow.block g (show g<(W5.alloc _).heap.size by rw [zal];omega) (fun e=>hgt e.symm)).trans (zak (.cells #[.int .i64 0,.int .i64 0,.string ⟨#[]⟩,.slice none 0 0] 48) HGL.out));have hgf7:=frozen_of_row w7 g 1 _ _ hgl7.out;have hgne:g≠g7:=HGV.out.1;have zf0:=zf (tn * 4);have zf1:=zf (tn * 4+1);have zf2:=zf (tn * 4+2);have zf3:=zf (tn * 4+3);have hc7:w7.cell? ⟨g,1,none⟩=some (.slice ta tn tc):=(by rw [cell_of_row w7 g 1 _ _ _ hgl7.out];rfl);have HG7:=Lib.hid hgrow;have HO7:=Lib.hid hO7;have HAT:=Lib.hid hat;clear zf hgrow hO7 hat hlt7))
       all_goals
         first
           | rw [zhJ w7 hgne]
           | skip
         have HVA:=Lib.hid (VAt.put HG5.out HR5.out HGL.out HVS.out HV5.out HTN.out HG7.out HO7.out HAT.out hv (fun v hv=>by have:=hsl v hv;omega) ⟨by omega,hsa.2⟩)
         clear hv hlt hsa hsl hrng HG5 HR5 HGL HVS HV5 HTN HG7 HO7 HAT HO
         go_wp2
         go_step3
         exact ⟨rfl,n,Nat.lt_succ_self _,F',_,at2,_,_,_,_,_,_,_,_,_,_,_,_,_,_,_,_,_,_,_,_,_,_,_,_,_,_,_,_,_,_,_,_,_,_,_,_,_,_,_,_,_,_,_,_,_,_,_,_,_,_,_,_,HVA,rfl⟩
def zhG (w:World) (V:Tk×Int×Int×Int) (e:Ending) (w':World):Prop:=e=.returned (.tuple #[.int .i64 V.1.vn,.int .i64 V.2.2.1,.int .i64 V.2.2.2])∧Below w.heap.size w w'
def zfJ (w:World) (V:Tk×Int×Int×Int) (e:Ending) (w':World):Prop:=e=.returned (.tuple #[.int .i64 V.2.2.1,.int .i64 V.2.2.2])∧Below w.heap.size w w'
def OneEnd (w:World) (V:Tk×Int×Int×Int) (e:Ending) (w':World):Prop:=e=.returned (.tuple #[.agg (tokN V.1 V.2.1 V.2.2.1),.int .i64 V.2.2.2])∧Below w.heap.size w w'
theorem one_any {w:World} {a:Option Addr} {cap:Nat} {bs:List UInt8} (hr:Row w 1 a bs.length cap (bs.map u8C)) (hn:bs.length≤400000) (k:Int) (last:Bool) (g:FuncId) (cb:Array Value) (p:Tk→Bool)
   (henter:∀args w,(callFunc g args).run Tryz.prog w=.ok (.enter g args) w)
   (hp:∀W,Below w.heap.size w W→∀x f t,Calls Tryz.prog g (#[.agg (tokN x f t)]++cb) W fun e w'=>e=.returned (.bool (p x))∧Below W.heap.size W w') :
   Calls Tryz.prog 92 #[.slice a bs.length cap,.int .i64 k,.bool last,.func (.func g) #[] cb] w (OneEnd w (oneW p (zae bs k last))):=by
 have HN:=Lib.hid (fun (W:World) (h:Below w.heap.size w W)=>zel (hr.mono h) hn k last)
 obtain ⟨R,hR⟩:∃R,R=oneW p (zae bs k last):=⟨_,rfl⟩
 rw [←hR]
 unfold oneW at hR
 generalize zae bs k last=V at *
 obtain ⟨x,f,t,er⟩:=V
 have HP:=Lib.hid (fun W h=>hp W h x f t)
 simp only at hR
 unfold zeT tokN at HN
 unfold tokN at HP
 simp only at HN
 have HR:=Lib.hid hR
 clear hr hR hn hp
 generalize p x=px at *
 obtain ⟨xk,xvk,xvn,xvs,xs⟩:=x
 simp only at HN HP HR
 generalize bs.length=L at *
 go_enter Tryz.func92,Tryz.ntmps92
 obtain ⟨B,hB⟩:∃B,B=w.heap.size:=⟨_,rfl⟩
 have HZ:=Lib.hid (zac (w:=w) (b:=B) (.cells #[.int .i64 0,.int .i64 0,.int .i64 0,.int .i64 0,.int .i64 0,.string ⟨#[]⟩,.slice none 0 0,.string ⟨#[]⟩] 112) hB)
 have HBW:=Lib.hid (zah w (.cells #[.int .i64 0,.int .i64 0,.int .i64 0,.int .i64 0,.int .i64 0,.string ⟨#[]⟩,.slice none 0 0,.string ⟨#[]⟩] 112))
 have HBB:=Lib.hid (Nat.le_of_eq hB.symm)
 go_upto_region 1 with fail
 rw [←hB]
 clear hB
 generalize w.alloc _=W1 at *
 go_wp2_with fail
 refine (HN.out _ HBW.out).mono ?_
 rintro e w2 ⟨rfl,hb2⟩
 have hb2a:=hb2.alloc hb2.size (.cells #[.int .i64 xk,.int .i64 f,.int .i64 t,.int .i64 xvk,.int .i64 xvn,.string (mkB xvs),.slice none 0 0,.string (mkB xs)] 112)
 have HB2:=Lib.hid (HBW.out.trans (hb2a.mono HBW.out.size))
 have HT2:=Lib.hid (zac (w:=w2) (b:=w2.heap.size) (.cells #[.int .i64 xk,.int .i64 f,.int .i64 t,.int .i64 xvk,.int .i64 xvn,.string (mkB xvs),.slice none 0 0,.string (mkB xs)] 112) rfl)
 have HZ2:=Lib.hid (zab hb2a HZ.out)
 clear hb2 hb2a HN HZ
 go_upto_region 2 with fail
 obtain ⟨r2,hr2⟩:∃r2,r2=w2.heap.size:=⟨_,rfl⟩
 rw [←hr2] at HT2 ⊢
 clear hr2
 generalize w2.alloc _=W2 at *
 obtain ⟨⟨t0,t1,t2,t3,t4,t5,t6,t7⟩,-⟩:=zap HT2.out
 obtain ⟨⟨z0,z1,z2,z3,z4,z5,z6,z7⟩,zf0,zf1,zf2,zf3,zf4,zf5,zf6,zf7⟩:=zap HZ2.out
 have hR:=HR.out
 by_cases her:er=0
 case neg =>
   have e0:(er==0)=false:=by rw [beq_eq_false_iff_ne];exact her
   have e1:(er != 0)=true:=by simp only [bne,e0,Bool.not_false]
   rw [if_pos her] at hR
   subst hR
   clear HR her HP henter
   go_wp2
   refine bodyPost_ret (zaa rfl _ _ B 112 _ (0,0) _ rfl (by exact set8 HZ2.out _ _ _ _ _ _ _ _) Tryz.underlying112 rfl (by exact zat) _ rfl) rfl ?_
   exact ⟨rfl,zbj HB2.out HBB.out _ _ _ _ _ _ _ _⟩
 subst her
 rw [if_neg (by simp)] at hR
 by_cases hk:xk=0
 · have e0 : (xk == 0) = true := by rw [hk]; rfl
   rw [if_pos hk] at hR
   subst hR
   clear HR hk HP henter
   go_wp2
   refine bodyPost_ret (zaa rfl _ _ B 112 _ (0,0) _ rfl (by exact set8 HZ2.out _ _ _ _ _ _ _ _) Tryz.underlying112 rfl (by exact zat) _ rfl) rfl ?_
   exact ⟨rfl,zbj HB2.out HBB.out _ _ _ _ _ _ _ _⟩
 have e0:(xk==0)=false:=by rw [beq_eq_false_iff_ne];exact hk
 rw [if_neg hk] at hR
 clear HR
 have HR:=Lib.hid hR
 clear hR hk
 go_wp2_with fail
 refine (HP.out _ HB2.out).mono ?_
 rintro e w3 ⟨rfl,hb3⟩
 have HB3:=Lib.hid (HB2.out.trans (hb3.mono HB2.out.size))
 have HT3:=Lib.hid (zab hb3 HT2.out)
 have HZ3:=Lib.hid (zab hb3 HZ2.out)
 clear hb3 HP henter t0 t1 t2 t3 t4 t5 t6 t7 z0 z1 z2 z3 z4 z5 z6 z7 zf0 zf1 zf2 zf3 zf4 zf5 zf6 zf7
 obtain ⟨⟨t0,t1,t2,t3,t4,t5,t6,t7⟩,-⟩:=zap HT3.out
 obtain ⟨⟨z0,z1,z2,z3,z4,z5,z6,z7⟩,zf0,zf1,zf2,zf3,zf4,zf5,zf6,zf7⟩:=zap HZ3.out
 have hR:=HR.out
 cases px with
 | false =>
   rw [if_pos rfl] at hR
   subst hR
   clear HR
   go_wp2
   refine bodyPost_ret (zaa rfl _ _ B 112 _ (0,0) _ rfl (by exact set8 HZ3.out _ _ _ _ _ _ _ _) Tryz.underlying112 rfl (by exact zat) _ rfl) rfl ?_
   exact ⟨rfl,zbj HB3.out HBB.out _ _ _ _ _ _ _ _⟩
 | true =>
   rw [if_neg (by decide)] at hR
   subst hR
   clear HR
   go_wp2
   refine bodyPost_ret (zaa rfl _ _ B 112 _ (0,0) _ rfl (by exact set8 HZ3.out _ _ _ _ _ _ _ _) Tryz.underlying112 rfl (by exact zat) _ rfl) rfl ?_
   exact ⟨rfl,zbj HB3.out HBB.out _ _ _ _ _ _ _ _⟩
theorem pnumber_any {w:World} {a:Option Addr} {cap:Nat} {bs:List UInt8} (hr:Row w 1 a bs.length cap (bs.map u8C)) (hn:bs.length≤400000) (k:Int) (last:Bool) :
   Calls Tryz.prog 53 #[.slice a bs.length cap,.int .i64 k,.bool last] w (zhG w (oneW zaH (zae bs k last))):=by
 have HO:=Lib.hid (one_any hr hn k last 93 #[] zaH (enters_of Tryz.func93 (by kernel_rfl) rfl) (fun W _ x f t=>zhq x f t W))
 generalize oneW zaH (zae bs k last)=R at *
 obtain ⟨x,f,t,er⟩:=R
 unfold OneEnd tokN at HO
 unfold zhG
 simp only at HO ⊢
 clear hr hn
 generalize x.kind=xk at *
 generalize x.vk=xvk at *
 generalize x.vn=xvn at *
 generalize mkB x.vs=xvb at *
 generalize mkB x.s=xb at *
 generalize bs.length=L at *
 go_enter Tryz.func53,Tryz.ntmps53
 go_wp2_with fail
 refine HO.out.mono ?_
 rintro e w2 ⟨rfl,hb2⟩
 have HB2:=Lib.hid (hb2.alloc hb2.size (.cells #[.int .i64 xk,.int .i64 f,.int .i64 t,.int .i64 xvk,.int .i64 xvn,.string xvb,.slice none 0 0,.string xb] 112))
 have HT2:=Lib.hid (zac (w:=w2) (b:=w2.heap.size) (.cells #[.int .i64 xk,.int .i64 f,.int .i64 t,.int .i64 xvk,.int .i64 xvn,.string xvb,.slice none 0 0,.string xb] 112) rfl)
 clear hb2 HO
 go_upto_region 2 with fail
 obtain ⟨r2,hr2⟩:∃r2,r2=w2.heap.size:=⟨_,rfl⟩
 rw [←hr2] at HT2 ⊢
 clear hr2
 generalize w2.alloc _=W2 at *
 obtain ⟨⟨t0,t1,t2,t3,t4,t5,t6,t7⟩,-⟩:=zap HT2.out
 go_wp2
 go_quiet (fail)
 go_wp2
 go_ret3
 exact ⟨rfl,zad HB2.out _⟩
theorem pword1_any {w:World} {b:Nat} {s:List UInt8} (hb:w.cell? ⟨b,0,none⟩=some (.string (mkB s))) (x:Tk) (f t:Int) :
   Calls Tryz.prog 94 #[.agg (tokN x f t),.pointer (some ⟨b,0,none⟩)] w fun e w'=>e=.returned (.bool (zfY s x))∧Below w.heap.size w w':=by
 have hq:((mkB x.s).toList==(mkB s).toList)=decide (x.s=s):=by rw [zbB s];exact zd6 x.s s
 have hw:zfY s x=(x.kind==6&&decide (x.s=s)):=by unfold zfY;by_cases e:x.s=s<;>simp [e]
 rw [hw]
 unfold tokN
 have hb2:=cell?_keep (zah w (.cells #[.int .i64 x.kind,.int .i64 f,.int .i64 t,.int .i64 x.vk,.int .i64 x.vn,.string (mkB x.vs),.slice none 0 0,.string (mkB x.s)] 112)) hb
 generalize decide (x.s=s)=ds at *
 clear hw
 generalize x.kind=a0 at *
 generalize x.vk=a1 at *
 generalize x.vn=a2 at *
 generalize mkB x.vs=s1 at *
 generalize mkB x.s=s2 at *
 generalize mkB s=s3 at *
 have HK:=Lib.hid (zac (w:=w) (b:=w.heap.size) (.cells #[.int .i64 a0,.int .i64 f,.int .i64 t,.int .i64 a1,.int .i64 a2,.string s1,.slice none 0 0,.string s2] 112) rfl)
 have HB:=Lib.hid (zah w (.cells #[.int .i64 a0,.int .i64 f,.int .i64 t,.int .i64 a1,.int .i64 a2,.string s1,.slice none 0 0,.string s2] 112))
 cases h0:(a0==6)
 · go_enter Tryz.func94,Tryz.ntmps94
   go_upto_region 1 with fail
   obtain ⟨r,hr⟩:∃r,r=w.heap.size:=⟨_,rfl⟩
   rw [←hr] at HK ⊢
   clear hr
   generalize w.alloc _=W1 at *
   obtain ⟨⟨k0,k1,k2,k3,k4,k5,k6,k7⟩,-⟩:=zap HK.out
   go_wp2
   go_ret
   exact ⟨rfl,HB.out⟩
 · cases ds
   · go_enter Tryz.func94,Tryz.ntmps94
     go_upto_region 1 with fail
     obtain ⟨r,hr⟩:∃r,r=w.heap.size:=⟨_,rfl⟩
     rw [←hr] at HK ⊢
     clear hr
     generalize w.alloc _=W1 at *
     obtain ⟨⟨k0,k1,k2,k3,k4,k5,k6,k7⟩,-⟩:=zap HK.out
     go_wp2
     go_ret
     exact ⟨rfl,HB.out⟩
   · go_enter Tryz.func94,Tryz.ntmps94
     go_upto_region 1 with fail
     obtain ⟨r,hr⟩:∃r,r=w.heap.size:=⟨_,rfl⟩
     rw [←hr] at HK ⊢
     clear hr
     generalize w.alloc _=W1 at *
     obtain ⟨⟨k0,k1,k2,k3,k4,k5,k6,k7⟩,-⟩:=zap HK.out
     go_wp2
     go_ret
     exact ⟨rfl,HB.out⟩
theorem pword12_any {w:World} {a:Option Addr} {cap:Nat} {bs:List UInt8} (hr:Row w 1 a bs.length cap (bs.map u8C)) (hn:bs.length≤400000) (k:Int) (last:Bool) (s:List UInt8) :
   Calls Tryz.prog 54 #[.slice a bs.length cap,.int .i64 k,.bool last,.string (mkB s)] w (zfJ w (oneW (zfY s) (zae bs k last))):=by
 have hbw:=zah w (.cells #[.string (mkB s)] 9)
 have hkw:=zac (w:=w) (b:=w.heap.size) (.cells #[.string (mkB s)] 9) rfl
 have hcw:(w.alloc (.cells #[.string (mkB s)] 9)).cell? ⟨w.heap.size,0,none⟩=some (.string (mkB s)):=by rw [cell_of_row _ _ 0 _ _ _ hkw];rfl
 have HO:=Lib.hid (one_any (hr.mono hbw) hn k last 94 #[.pointer (some ⟨w.heap.size,0,none⟩)] (zfY s) (enters_of Tryz.func94 (by kernel_rfl) rfl) (fun W hW x f t=>pword1_any (cell?_keep hW hcw) x f t))
 have HBW:=Lib.hid hbw
 generalize oneW (zfY s) (zae bs k last)=R at *
 obtain ⟨x,f,t,er⟩:=R
 unfold OneEnd tokN at HO
 unfold zfJ
 simp only at HO ⊢
 clear hr hn hbw hkw hcw
 generalize x.kind=xk at *
 generalize x.vk=xvk at *
 generalize x.vn=xvn at *
 generalize mkB x.vs=xvb at *
 generalize mkB x.s=xb at *
 generalize bs.length=L at *
 generalize mkB s=sb at *
 go_enter Tryz.func54,Tryz.ntmps54
 go_upto_region 1 with fail
 obtain ⟨B,hB⟩:∃B,B=w.heap.size:=⟨_,rfl⟩
 rw [←hB] at HO ⊢
 have HBB:=Lib.hid (Nat.le_of_eq hB.symm)
 clear hB
 generalize w.alloc _=W1 at *
 go_wp2_with fail
 refine HO.out.mono ?_
 rintro e w2 ⟨rfl,hb2⟩
 have HB2:=Lib.hid (HBW.out.trans ((hb2.alloc hb2.size (.cells #[.int .i64 xk,.int .i64 f,.int .i64 t,.int .i64 xvk,.int .i64 xvn,.string xvb,.slice none 0 0,.string xb] 112)).mono HBW.out.size))
 have HT2:=Lib.hid (zac (w:=w2) (b:=w2.heap.size) (.cells #[.int .i64 xk,.int .i64 f,.int .i64 t,.int .i64 xvk,.int .i64 xvn,.string xvb,.slice none 0 0,.string xb] 112) rfl)
 clear hb2 HO
 go_upto_region 2 with fail
 obtain ⟨r2,hr2⟩:∃r2,r2=w2.heap.size:=⟨_,rfl⟩
 rw [←hr2] at HT2 ⊢
 clear hr2
 generalize w2.alloc _=W2 at *
 obtain ⟨⟨t0,t1,t2,t3,t4,t5,t6,t7⟩,-⟩:=zap HT2.out
 go_wp2
 go_ret2
 exact ⟨rfl,HB2.out⟩
theorem fN_step {key:List UInt8} {l:List PV} {k:Nat} {x:PV} (hx:l[k]?=some x):fN key (l.drop k)=if x.kind=5∧x.s=key then some 0 else (fN key (l.drop (k+2))).map (· + 2):=by
 have hk:k<l.length:=by
   rcases Nat.lt_or_ge k l.length with h|h
   · exact h
   · rw [List.getElem?_eq_none h] at hx;cases hx
 rw [List.getElem?_eq_getElem hk] at hx
 have hx:=Option.some.inj hx
 subst hx
 rw [List.drop_eq_getElem_cons hk]
 by_cases h2:k+1<l.length
 · rw [List.drop_eq_getElem_cons h2]
   rfl
 · rw [List.drop_eq_nil_of_le (show l.length ≤ k + 1 by omega), List.drop_eq_nil_of_le (show l.length ≤ k + 2 by omega)]
   unfold fN
   by_cases h:l[k].kind=5∧l[k].s=key
   · rw [if_pos h,if_pos h]
   · rw [if_neg h,if_neg h];rfl
theorem fN_end {key:List UInt8} {l:List PV} {k:Nat} (h:l.length≤k):fN key (l.drop k)=none:=by
 rw [List.drop_eq_nil_of_le h];rfl
theorem fN_lt {key:List UInt8}:∀ {l:List PV} {k:Nat},fN key l=some k→k<l.length
 | [],_,h=>by cases h
 | [x], k, h => by
   unfold fN at h
   split at h
   · cases h;simp
   · cases h
 | x :: y :: l, k, h => by
   unfold fN at h
   split at h
   · cases h;simp
   · obtain ⟨j,hj,rfl⟩:=Option.map_eq_some_iff.1 h
     have:=fN_lt hj
     simp;omega
def foundI (o:Option Nat):Int:=match o with|none=>-1|some k=>k
def FindEnd (w:World) (o:Option Nat) (e:Ending) (w':World):Prop:=e=.returned (.int .i64 (foundI o))∧Below w.heap.size w w'
theorem findN_no {v:PV} {key:List UInt8} (h:¬v.kind=7):zdi v key=none:=by unfold zdi;rw [if_neg h]
theorem findN_yes {v:PV} {key:List UInt8} (h:v.kind=7):zdi v key=fN key v.l:=by unfold zdi;rw [if_pos h]
theorem vfind_any {w:World} {F:Nat→Prop} {v:PV} {sl:Value} (h:IsV w F v sl) (hev:v.kind=7→v.l.length % 2=0) (key:List UInt8):Calls Tryz.prog 65 #[pvA v sl,.string (mkB key)] w (FindEnd w (zdi v key)):=by
 obtain ⟨a,cap,rfl,g1,g2,g3⟩:=h.len
 have hl63:(v.l.length:Int)≤9223372036854775807:=by unfold maxLen at g2;omega
 have HV:=Lib.hid h
 have HNO:=Lib.hid (fun h=>findN_no (v:=v) (key:=key) h)
 have HYE:=Lib.hid (fun h=>findN_yes (v:=v) (key:=key) h)
 obtain ⟨R,hR⟩:∃R,R=zdi v key:=⟨_,rfl⟩
 rw [←hR] at HNO HYE ⊢
 clear hR h g2 g3
 unfold pvA
 obtain ⟨l,hl⟩:∃l,l=v.l:=⟨_,rfl⟩
 rw [←hl] at HV HYE hl63 g1 hev ⊢
 have HL:=Lib.hid hl
 clear hl
 obtain ⟨B,hB⟩:∃B,B=w.heap.size:=⟨_,rfl⟩
 have HB1:=Lib.hid (zah w (.cells #[.int .i64 v.kind,.int .i64 v.n,.string (mkB v.s),.slice a l.length cap] 48))
 have HZ1:=Lib.hid (zac (w:=w) (b:=B) (.cells #[.int .i64 v.kind,.int .i64 v.n,.string (mkB v.s),.slice a l.length cap] 48) hB)
 have HV1:=Lib.hid (HV.out.below HB1.out)
 generalize v.kind=vk at *
 generalize v.n=vn at *
 generalize mkB v.s=vb at *
 go_enter Tryz.func65,Tryz.ntmps65
 go_upto_region 1 with fail
 rw [←hB]
 clear hB HV
 generalize w.alloc _=W1 at *
 obtain ⟨⟨z0,z1,z2,z3⟩,-⟩:=zaf HZ1.out
 by_cases h7:vk=7
 case neg =>
   have HR:=Lib.hid (HNO.out h7)
   have e0:(vk==7)=false:=by rw [beq_eq_false_iff_ne];exact h7
   have e1:(vk != 7)=true:=by simp only [bne,e0,Bool.not_false]
   clear h7 HYE HNO hev
   go_wp2
   go_ret
   exact ⟨by rw [HR.out];rfl,HB1.out⟩
 have HR:=Lib.hid (HYE.out h7)
 have hl2:=hev h7
 clear hev
 subst h7
 clear HNO HYE
 go_wp2_with fail
 go_loop [5] (fun v5=>∃k:Nat,v5=.int .i64 k∧k≤l.length∧k % 2=0∧Hid (R=(fN key (l.drop k)).map (· + k))) (fun v5=>l.length+2-(intOf v5).toNat)
 case atStart=>exact ⟨0,rfl,by omega,rfl,Lib.hid (by rw [HR.out,List.drop_zero];cases fN key l<;>rfl)⟩
 case round =>
   obtain ⟨k,rfl,hk,hk2,HQ⟩:=hrel
   by_cases hlt:k<l.length
   · have hcd : decide ((k : Int) < (l.length : Int)) = true := decide_eq_true (by omega)
     have hcd2:decide (k<l.length)=true:=decide_eq_true hlt
     have hkb:(k:Int)+2≤9223372036854775807:=by omega
     have hkc:k+2≤l.length:=by omega
     have hv1:=HV1.out
     obtain ⟨-,-,-,b,off,rfl,-,-,hc⟩:=hv1.at (by omega)
     obtain ⟨x,hx⟩:∃x,l[k]?=some x:=⟨_,List.getElem?_eq_getElem hlt⟩
     obtain ⟨slx,-,c0,-,c2,-⟩:=hc k x (by rw [←HL.out];exact hx)
     have HST:=Lib.hid (fN_step (key:=key) hx)
     have hq:((mkB x.s).toList==(mkB key).toList)=decide (x.s=key):=by rw [zbB key];exact zd6 x.s key
     clear hv1 hc hx
     by_cases h5:x.kind=5
     case neg =>
       have e0:(x.kind==5)=false:=by rw [beq_eq_false_iff_ne];exact h5
       have HQ2:=Lib.hid (show R=(fN key (l.drop (k+2))).map (· + (k+2)) by rw [HQ.out,HST.out,if_neg (fun h=>h5 h.1),Option.map_map];congr 1;funext q;show q+2+k=q+(k+2);omega)
       clear h5 HST HQ hq
       generalize x.kind=xk at *
       go_wp2_with fail
       go_round
       case rel=>exact ⟨k+2,by go_num,hkc,by omega,HQ2⟩
       case measure=>simp [intOf];omega
     have e0:(x.kind==5)=true:=by rw [beq_iff_eq];exact h5
     by_cases hs:x.s=key
     · have HQ2 := Lib.hid (show R = some k by rw [HQ.out, HST.out, if_pos ⟨h5, hs⟩]; show some (0 + k) = _; rw [Nat.zero_add])
       rw [decide_eq_true hs] at hq
       clear h5 HST HQ hs
       generalize x.kind=xk at *
       generalize mkB x.s=xb at *
       go_wp2_with fail
       go_ret
       exact ⟨by rw [HQ2.out];rfl,HB1.out⟩
     · have HQ2 := Lib.hid (show R = (fN key (l.drop (k + 2))).map (· + (k + 2)) by rw [HQ.out, HST.out, if_neg (fun h => hs h.2), Option.map_map]; congr 1; funext q; show q + 2 + k = q + (k + 2); omega)
       rw [decide_eq_false hs] at hq
       clear h5 HST HQ hs
       generalize x.kind=xk at *
       generalize mkB x.s=xb at *
       go_wp2_with fail
       go_round
       case rel=>exact ⟨k+2,by go_num,hkc,by omega,HQ2⟩
       case measure=>simp [intOf];omega
   · have hcd : decide ((k : Int) < (l.length : Int)) = false := decide_eq_false (by omega)
     have hcd2:decide (k<l.length)=false:=decide_eq_false hlt
     have HQ2:=Lib.hid (show R=none by rw [HQ.out,fN_end (by omega)];rfl)
     clear HQ
     go_wp2_with fail
     go_ret
     exact ⟨by rw [HQ2.out];rfl,HB1.out⟩
def zgS (w:World) (F:Nat→Prop) (V:PV×Bool) (e:Ending) (w':World):Prop:=∃sl,e=.returned (.tuple #[pvA V.1 sl,.bool V.2])∧IsV w' F V.1 sl∧Below w.heap.size w w'
theorem zea {w:World} {F:Nat→Prop} {v:PV} {sl:Value} (h:IsV w F v sl) (hev:v.kind=7→v.l.length % 2=0) (key:List UInt8):Calls Tryz.prog 40 #[pvA v sl,.string (mkB key)] w (zgS w F (getP (getV v key))):=by
 obtain ⟨a,cap,rfl,g1,g2,g3⟩:=h.len
 have hl63:(v.l.length:Int)≤9223372036854775807:=by unfold maxLen at g2;omega
 have HV:=Lib.hid (IsV.lt _ h)
 have HF:=Lib.hid (fun (W:World) (hb:Below w.heap.size w W)=>vfind_any (h.below hb) hev key)
 obtain ⟨R,hR⟩:∃R,R=zdi v key:=⟨_,rfl⟩
 have HLT := Lib.hid (show ∀ k, R = some k → k < v.l.length from fun k hk => by
   rw [hR] at hk
   unfold zdi at hk
   split at hk
   · exact fN_lt hk
   · cases hk)
 obtain ⟨V,hV⟩:∃V,V=getP (getV v key):=⟨_,rfl⟩
 have HVN:=Lib.hid (show R=none→V=(PV.none,false) from fun h=>by rw [hV];unfold getV;rw [←hR,h];rfl)
 have HVS:=Lib.hid (show ∀k,R=some k→V=(v.l.getD (k+1) PV.none,true) from fun k h=>by rw [hV];unfold getV;rw [←hR,h];rfl)
 rw [←hR] at HF
 rw [←hV]
 clear hR hV h g2 g3
 unfold FindEnd pvA at HF
 unfold pvA
 obtain ⟨l,hl⟩:∃l,l=v.l:=⟨_,rfl⟩
 clear hev
 rw [←hl] at HV HF HLT HVS hl63 g1 ⊢
 have HL:=Lib.hid hl
 clear hl
 obtain ⟨B,hB⟩:∃B,B=w.heap.size:=⟨_,rfl⟩
 have HB1:=Lib.hid (zcg w (.cells #[.int .i64 v.kind,.int .i64 v.n,.string (mkB v.s),.slice a l.length cap] 48) (.cells #[.int .i64 0,.int .i64 0,.string ⟨#[]⟩,.slice none 0 0] 48))
 have HZ1:=Lib.hid (zak (w:=w.alloc (.cells #[.int .i64 v.kind,.int .i64 v.n,.string (mkB v.s),.slice a l.length cap] 48)) (.cells #[.int .i64 0,.int .i64 0,.string ⟨#[]⟩,.slice none 0 0] 48) (zac (w:=w) (b:=B) (.cells #[.int .i64 v.kind,.int .i64 v.n,.string (mkB v.s),.slice a l.length cap] 48) hB))
 have HY1:=Lib.hid (zac (w:=w.alloc (.cells #[.int .i64 v.kind,.int .i64 v.n,.string (mkB v.s),.slice a l.length cap] 48)) (b:=B+1) (.cells #[.int .i64 0,.int .i64 0,.string ⟨#[]⟩,.slice none 0 0] 48) (by rw [zal,hB]))
 have HW:=Lib.hid (show w.heap.size≤B+1 by omega)
 generalize v.kind=vk at *
 generalize v.n=vn at *
 generalize mkB v.s=vb at *
 go_enter Tryz.func40,Tryz.ntmps40
 go_upto_region 1 with fail
 try rw [←hB]
 generalize World.alloc _ _=W1 at *
 clear hB
 generalize B+1=r at *
 obtain ⟨⟨z0,z1,z2,z3⟩,-⟩:=zaf HZ1.out
 go_wp2_with fail
 refine (HF.out _ HB1.out).mono ?_
 rintro e w2 ⟨rfl,hb2⟩
 have HZ2:=Lib.hid (zab hb2 HZ1.out)
 have HY2:=Lib.hid (zab hb2 HY1.out)
 have HB2:=Lib.hid (HB1.out.trans (hb2.mono HB1.out.size))
 have HV2:=Lib.hid (HV.out.below HB2.out)
 clear hb2 HZ1 HY1 HB1 HV HF z0 z1 z2 z3
 obtain ⟨⟨z0,z1,z2,z3⟩,-⟩:=zaf HZ2.out
 obtain ⟨⟨y0,y1,y2,y3⟩,f0,f1,f2,f3⟩:=zaf HY2.out
 cases R with
 | none =>
   have HE:=Lib.hid (HVN.out rfl)
   clear HVN HVS HLT
   unfold foundI
   go_wp2
   refine bodyPost_ret (zaa rfl _ _ r 48 _ (0,0) _ rfl (by exact set4 HY2.out _ _ _ _) Tryz.underlying48 rfl (by exact zaB) _ rfl) rfl ?_
   rw [HE.out]
   exact ⟨_,rfl,IsV.leaf _ _ _ rfl,zai HB2.out HW.out _ _ _ _⟩
 | some k =>
   have hkl:=HLT.out k rfl
   have HE:=Lib.hid (HVS.out k rfl)
   have hd0:decide ((k:Int)<0)=false:=decide_eq_false (by omega)
   clear HVN HVS HLT
   unfold foundI
   simp only
   by_cases hle:k+1=l.length
   · have hq : ((k : Int) + 1 == (l.length : Int)) = true := by rw [beq_iff_eq]; omega
     have hq2:((k:Int)==(l.length:Int)-1)=true:=by rw [beq_iff_eq];omega
     have hg:l.getD (k+1) PV.none=PV.none:=by rw [List.getD_eq_getElem?_getD,List.getElem?_eq_none (by omega)];rfl
     have HE2:=Lib.hid (HE.out.trans (by rw [hg]))
     clear hg HE hle
     go_wp2
     refine bodyPost_ret (zaa rfl _ _ r 48 _ (0,0) _ rfl (by exact set4 HY2.out _ _ _ _) Tryz.underlying48 rfl (by exact zaB) _ rfl) rfl ?_
     rw [HE2.out]
     exact ⟨_,rfl,IsV.leaf _ _ _ rfl,zai HB2.out HW.out _ _ _ _⟩
   · have hq : ((k : Int) + 1 == (l.length : Int)) = false := by rw [beq_eq_false_iff_ne]; omega
     have hq2:((k:Int)==(l.length:Int)-1)=false:=by rw [beq_eq_false_iff_ne];omega
     have hk1:k+1<l.length:=by omega
     have hv2:=HV2.out
     obtain ⟨-,-,-,b,off,rfl,-,-,hc⟩:=hv2.at (by omega)
     obtain ⟨x,hx⟩:∃x,l[k+1]?=some x:=⟨_,List.getElem?_eq_getElem hk1⟩
     obtain ⟨slx,hsx,c0,c1,c2,c3⟩:=hc (k+1) x (by rw [←HL.out];exact hx)
     have hg:l.getD (k+1) PV.none=x:=by rw [List.getD_eq_getElem?_getD,hx];rfl
     have HE2:=Lib.hid (HE.out.trans (by rw [hg]))
     obtain ⟨xa,xc,rfl,-,-,-⟩:=hsx.len
     have HSX:=Lib.hid hsx
     have HPA:=Lib.hid (show pvA x (.slice xa x.l.length xc)=.agg #[.int .i64 x.kind,.int .i64 x.n,.string (mkB x.s),.slice xa x.l.length xc] from rfl)
     have HRW:=Lib.hid (zag HY2.out)
     obtain ⟨j,hj⟩:∃j,j=k+1:=⟨_,rfl⟩
     have hji:(k:Int)+1=(j:Int):=by omega
     rw [←hj] at c0 c1 c2 c3 hk1
     have HJ:=Lib.hid hj
     clear hj hv2 hc hx hg HE hle hsx
     generalize x.kind=xk at *
     generalize x.n=xn at *
     generalize mkB x.s=xb at *
     go_wp2
     refine bodyPost_ret (zaa rfl _ _ r 48 _ (0,0) _ rfl (by exact set4 HY2.out _ _ _ _) Tryz.underlying48 rfl (by exact zaB) _ rfl) rfl ?_
     rw [HE2.out]
     refine ⟨.slice xa x.l.length xc,by rw [HPA.out];rfl,?_,zai HB2.out HW.out _ _ _ _⟩
     exact IsV.keep ⟨by rw [zaT];exact Nat.le_refl _,fun b _ hb=>za7 (by have:=HW.out;have:=hb.2;omega) _ _ _ _⟩ (fun b hb=>hb.1) _ HSX.out
theorem hint_cases (h:PV):(¬h.kind=6)∨(h.kind=6∧h.l.length<2)∨(∃x y t,h.kind=6∧h.l=x::y::t∧¬x.kind=2)∨(∃x y t,h.kind=6∧h.l=x::y::t∧x.kind=2∧¬y.kind=2)∨(∃x y t,h.kind=6∧h.l=x::y::t∧x.kind=2∧y.kind=2):=by
 by_cases h6:h.kind=6
 · match hl:h.l with
   | []=>exact .inr (.inl ⟨h6,by simp⟩)
   | [x]=>exact .inr (.inl ⟨h6,by simp⟩)
   | x::y::t =>
     by_cases hx:x.kind=2
     · by_cases hy:y.kind=2
       · exact .inr (.inr (.inr (.inr ⟨x,y,t,h6,rfl,hx,hy⟩)))
       · exact .inr (.inr (.inr (.inl ⟨x,y,t,h6,rfl,hx,hy⟩)))
     · exact .inr (.inr (.inl ⟨x,y,t,h6,rfl,hx⟩))
 · exact .inl h6
def hintO (h:PV):Int×Int×Bool :=
 if h.kind=6∧2≤h.l.length∧(h.l.getD 0 PV.none).kind=2∧(h.l.getD 1 PV.none).kind=2 then ((h.l.getD 0 PV.none).n,(h.l.getD 1 PV.none).n,true) else (0,0,false)
theorem hintV_is (v:PV):zdG v=hintO (getP (getV v kH)).1:=rfl
def HintEnd (w:World) (R:Int×Int×Bool) (e:Ending) (w':World):Prop:=e=.returned (.tuple #[.int .i64 R.1,.int .i64 R.2.1,.bool R.2.2])∧Below w.heap.size w w'
theorem hint_any {w:World} {F:Nat→Prop} {v:PV} {sl:Value} (h:IsV w F v sl) (hev:v.kind=7→v.l.length % 2=0):Calls Tryz.prog 39 #[pvA v sl] w (HintEnd w (zdG v)):=by
 rw [hintV_is]
 obtain ⟨a,c,rfl,-,-,-⟩:=h.len
 have HG:=Lib.hid (fun W (hb:Below w.heap.size w W)=>zea (h.below hb) hev kH)
 have HB1:=Lib.hid (zah w (.cells #[.int .i64 v.kind,.int .i64 v.n,.string (mkB v.s),.slice a v.l.length c] 48))
 have HK1:=Lib.hid (zac (w:=w) (b:=w.heap.size) (.cells #[.int .i64 v.kind,.int .i64 v.n,.string (mkB v.s),.slice a v.l.length c] 48) rfl)
 generalize getP (getV v kH)=G at *
 obtain ⟨g,is⟩:=G
 unfold zgS at HG
 unfold HintEnd
 unfold pvA at HG ⊢
 dsimp only at HG ⊢
 have hcs:=hint_cases g
 clear h hev
 generalize v.kind=k at *
 generalize v.n=n at *
 generalize mkB v.s=s at *
 generalize v.l.length=l at *
 go_enter Tryz.func39,Tryz.ntmps39
 go_upto_region 1 with fail
 generalize w.heap.size=r at HK1 ⊢
 generalize w.alloc _=W1 at *
 obtain ⟨⟨t0,t1,t2,t3⟩,-⟩:=zaf HK1.out
 go_wp2_with fail
 refine (HG.out _ HB1.out).mono ?_
 rintro e w2 ⟨sl2,rfl,hx,hb2⟩
 obtain ⟨ta,tc,rfl,hcp1,hcp2,-⟩:=hx.len
 have HB3:=Lib.hid (HB1.out.trans ((hb2.alloc hb2.size (.cells #[.int .i64 g.kind,.int .i64 g.n,.string (mkB g.s),.slice ta g.l.length tc] 48)).mono HB1.out.size))
 have HK3:=Lib.hid (zac (w:=w2) (b:=w2.heap.size) (.cells #[.int .i64 g.kind,.int .i64 g.n,.string (mkB g.s),.slice ta g.l.length tc] 48) rfl)
 have HX3:=Lib.hid (hx.below (zah w2 (.cells #[.int .i64 g.kind,.int .i64 g.n,.string (mkB g.s),.slice ta g.l.length tc] 48)))
 clear hb2 hx t0 t1 t2 t3 HK1 HB1 HG
 go_upto_region 2 with fail
 obtain ⟨o,ho⟩:∃o,o=w2.heap.size:=⟨_,rfl⟩
 rw [←ho] at HK3 ⊢
 clear ho
 generalize w2.alloc _=W3 at *
 obtain ⟨⟨t0,t1,t2,t3⟩,-⟩:=zaf HK3.out
 unfold maxLen at hcp2
 rcases hcs with h6|⟨h6,hl⟩|⟨x,y,t,h6,hl,hk⟩|⟨x,y,t,h6,hl,hk,hk2⟩|⟨x,y,t,h6,hl,hk,hk2⟩
 · have e1 : (g.kind == 6) = false := by rw [beq_eq_false_iff_ne]; exact h6
   have e2:(g.kind != 6)=true:=by simp only [bne,e1,Bool.not_false]
   have HR:=Lib.hid (show hintO g=(0,0,false) from if_neg fun h=>h6 h.1)
   clear h6 HX3
   generalize g.kind=gk at *
   go_wp2_with fail
   go_ret3
   rw [HR.out]
   exact ⟨rfl,HB3.out⟩
 · have e1 : (g.kind == 6) = true := by rw [h6]; rfl
   have e2:(g.kind != 6)=false:=by simp only [bne,e1,Bool.not_true]
   have e3:decide ((g.l.length:Int)<2)=true:=decide_eq_true (by omega)
   have HR:=Lib.hid (show hintO g=(0,0,false) from if_neg fun h=>by have:=h.2.1;omega)
   clear h6 hl HX3
   generalize g.kind=gk at *
   generalize g.l.length=gl at *
   go_wp2_with fail
   go_ret3
   rw [HR.out]
   exact ⟨rfl,HB3.out⟩
 all_goals
   have e1:(g.kind==6)=true:=by rw [h6];rfl
   have e2:(g.kind != 6)=false:=by simp only [bne,e1,Bool.not_true]
   have hlen:g.l.length=t.length+2:=by rw [hl];simp
   have e3:decide ((g.l.length:Int)<2)=false:=decide_eq_false (by omega)
   obtain ⟨-,-,-,b,off,rfl,hbW,-,hat⟩:=HX3.out.at (by omega)
   obtain ⟨s0,-,x0,x1,-,-⟩:=hat 0 x (by rw [hl];rfl)
   obtain ⟨s1,-,y0,y1,-,-⟩:=hat 1 y (by rw [hl];rfl)
   rw [Nat.zero_mul,Nat.add_zero] at x0 x1
   rw [Nat.one_mul] at y0 y1
   have hn0:(0:Int)<(g.l.length:Int):=by omega
   have hn1:(1:Int)<(g.l.length:Int):=by omega
   clear hat
 · have HR := Lib.hid (show hintO g = (0, 0, false) from if_neg fun h => hk (by have := h.2.2.1; rw [hl] at this; exact this))
   have e4:(x.kind==2)=false:=by rw [beq_eq_false_iff_ne];exact hk
   have e5:(x.kind != 2)=true:=by simp only [bne,e4,Bool.not_false]
   clear h6 hl HX3 hk hlen
   generalize g.kind=gk at *
   generalize g.l.length=gl at *
   generalize x.kind=xk at *
   go_wp2_with fail
   go_ret3
   rw [HR.out]
   exact ⟨rfl,HB3.out⟩
 · have HR := Lib.hid (show hintO g = (0, 0, false) from if_neg fun h => hk2 (by have := h.2.2.2; rw [hl] at this; exact this))
   have e4:(x.kind==2)=true:=by rw [hk];rfl
   have e5:(x.kind != 2)=false:=by simp only [bne,e4,Bool.not_true]
   have e6:(y.kind==2)=false:=by rw [beq_eq_false_iff_ne];exact hk2
   have e7:(y.kind != 2)=true:=by simp only [bne,e6,Bool.not_false]
   clear h6 hl HX3 hk hk2 hlen
   generalize g.kind=gk at *
   generalize g.l.length=gl at *
   generalize x.kind=xk at *
   generalize y.kind=yk at *
   go_wp2_with fail
   go_ret3
   rw [HR.out]
   exact ⟨rfl,HB3.out⟩
 · have HR := Lib.hid (show hintO g = (x.n, y.n, true) from by unfold hintO; rw [hl]; exact if_pos ⟨h6, by simp, hk, hk2⟩)
   have e4:(x.kind==2)=true:=by rw [hk];rfl
   have e5:(x.kind != 2)=false:=by simp only [bne,e4,Bool.not_true]
   have e6:(y.kind==2)=true:=by rw [hk2];rfl
   have e7:(y.kind != 2)=false:=by simp only [bne,e6,Bool.not_true]
   clear h6 hl HX3 hk hk2 hlen
   generalize g.kind=gk at *
   generalize g.l.length=gl at *
   generalize x.kind=xk at *
   generalize y.kind=yk at *
   generalize x.n=xn at *
   generalize y.n=yn at *
   go_wp2_with fail
   go_quiet (fail)
   go_wp2_with fail
   go_ret3
   rw [HR.out]
   exact ⟨rfl,zad HB3.out _⟩
end Go.Proofs.YtkhcjoomijkfbaaGreatDoor
