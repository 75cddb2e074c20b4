/-
  Our texts SecAM to Xf2, in one.
-/
import Derived.Test.YtfafdeemfeaedaaGreatPkQ12
set_option maxRecDepth 8000
set_option maxHeartbeats 8000000
namespace Go.Proofs.YtfafdeemfeaedaaGreat
open Go.ChangeShapes Go.WideShapes Go.Joins Go.RowKit Go.Deep
section
variable {P : Program} {H : Type} {enc : TypeId × Value -> H} {w : World} {base : Nat} {spare : Nat -> Bool} {held : Bool}
theorem slice_cellsM {α:Type} [Inhabited α] {T E:TypeId} {sz:Nat} (und:P.underlying T=some (.slice E)) (hE:P.cellsOf E=sz) {C:α->List Value} (hC:∀a,(C a).length=sz) {p:α->DataW H->Prop} {N fuel:Nat} (hf:fuel<=N+1)
  (elem:∀(m:Nat) (cs:List Value) (x:DataW H×List MemPlace),m<=N->DataW.trod enc P w base spare held m E cs=some x->∃a,cs=C a/\p a x.1)
  {cs:List Value} {x:DataW H×List MemPlace} (h:DataW.trod enc P w base spare held fuel T cs=some x) :
  ∃(l:List α) (ad:Option Addr) (cap:Nat),cs=[.slice ad l.length cap]/\(∀a∈l,∃d,p a d/\∀n∈d.weights P E,n∈x.1.weights P T)/\(0<sz->Row w sz ad l.length cap (l.flatMap C)):=by
 rcases DataW.trod_slice und h with ⟨rfl,_⟩|⟨a,len,cap,elems,rest,m,hm,rfl,rfl,_,hl,hc,hel,helem,_⟩
 ·exact ⟨[],none,0,rfl,fun _ h=>(by cases h),fun _=>Row.nil w sz⟩
 ·subst hm
  have each:∀i,i<len->∃q:α,(∃d,p q d/\∀n∈d.weights P E,n∈(DataW.slice (elems.map (·.1)) (rest.map (·.1))).weights P T)/\∀k,k<sz->w.cell? (a.add (i*sz+k))=(C q)[k]?:=fun i hi=>by
   have h1:=helem i hi
   have hei:elems[i]?=some (elems[i]'(by omega)):=List.getElem?_eq_getElem (by omega)
   rw [hei,hE] at h1
   obtain ⟨cs',h2,h3⟩:=Option.bind_eq_some_iff.1 h1
   obtain ⟨q,rfl,hq⟩:=elem m cs' _ (by omega) h3
   have hq2:=zfS und (elems:=elems.map (·.1)) (rest:=rest.map (·.1)) (i:=i) (d:=(elems[i]'(by omega)).1) (by rw [List.getElem?_map,hei];rfl)
   obtain ⟨_,_,hcell⟩:=World.cells?_some h2
   refine ⟨q,⟨_,hq,hq2⟩,fun k hk=>?_⟩
   have:=hcell k hk
   rw [add_add] at this
   exact this
  obtain ⟨f,hf⟩:=choose_lt each
  let L:=(List.range len).map f
  have hL:L.length=len:=by simp [L]
  refine ⟨L,some a,cap,by rw [hL],fun q hq=>?_,fun hsz=>⟨?_,?_,hc,fun h=>(by cases h),fun hn=>?_⟩⟩
  ·obtain ⟨i,hi,rfl⟩:=List.mem_map.1 hq
   exact (hf i (List.mem_range.1 hi)).1
  ·rw [zfb hC]
  ·rw [hL];exact hl
  ·rw [hL] at hn
   have h0:=(hf 0 hn).2 0 hsz
   obtain ⟨u0,h00⟩:∃u0,(C (f 0))[0]?=some u0:=⟨_,List.getElem?_eq_getElem (by rw [hC];exact hsz)⟩
   rw [h00] at h0
   have hb:=World.block_lt_of_cell? w _ h0
   obtain ⟨b,off,spot⟩:=a
   have hspot:spot=none:=by simpa [Addr.add] using World.cell?_spot h0
   subst hspot
   refine ⟨b,off,rfl,by simpa [Addr.add] using hb,fun j u hj=>?_⟩
   obtain ⟨i,k,q,rfl,hk,hq,hu⟩:=zgj hC _ _ _ hj
   have hi:i<len:=by
    have:=(List.getElem?_eq_some_iff.1 hq).1
    rwa [hL] at this
   have hq2:f i=q:=by simpa [L,hi] using hq
   have:=(hf i hi).2 k hk
   rw [hq2,hu,Addr.add_lit] at this
   exact this
end
section
variable {H : Type} {enc : TypeId × Value -> H} {w : World} {base : Nat} {spare : Nat -> Bool} {held : Bool}
set_option maxRecDepth 100000 in
theorem zfM (m:Nat) (cs:List Value) (x:DataW H×List MemPlace) (h:DataW.trod enc Tryz.prog w base spare held m 33 cs=some x):∃(s:Sec) (gv sl:Value),cs=secC s gv sl/\zbe w anyF s gv sl/\(∀M,(∀n∈DataW.weights Tryz.prog 33 x.1,n<=M)->txM M s.tr):=by
 have hC:Tryz.prog.cellsOf 33=5:=by kernel_rfl
 obtain ⟨xs,n,rfl,rfl,hlen,hxl,hf⟩:=DataW.trod_struct Tryz.underlying33 h
 rw [hC] at hlen
 match xs,hxl,cs,hlen with
 | [y0,y1],_,[c0,c1,c2,c3,c4],_ =>
 have k3:Tryz.prog.cellsOf 24=1:=by kernel_rfl
 have k1:Tryz.prog.cellsOf 27=4:=by kernel_rfl
 have g0:DataW.trod enc Tryz.prog w base spare held n 24 ((([c0,c1,c2,c3,c4]:List Value).drop 0).take (Tryz.prog.cellsOf 24))=some y0:=hf 0 _ rfl
 have g1:DataW.trod enc Tryz.prog w base spare held n 27 ((([c0,c1,c2,c3,c4]:List Value).drop 1).take (Tryz.prog.cellsOf 27))=some y1:=hf 1 _ rfl
 rw [k3] at g0
 rw [k1] at g1
 obtain ⟨l,ad,cap,e0,hp,hr⟩:=zeu (α:=Grp×Value) (C:=grpC) (p:=fun q=>IsE w anyF q.1.es q.2) Tryz.underlying24 (show Tryz.prog.cellsOf 42=2 by kernel_rfl) (fun _=>rfl) (Nat.le_succ n) (fun m cs x _ hx=>grp_cells m cs x hx) g0
 obtain ⟨v,sl,e1,hv,hvM⟩:=val_cellsM n n _ _ (ym _) g1
 have e0:c0=.slice ad l.length cap:=by simpa using e0
 have e1:[c1,c2,c3,c4]=pvC v sl:=by simpa using e1
 refine ⟨⟨l.map (·.1),v⟩,c0,sl,by rw [secC,<-e1],⟨⟨ad,cap,l.flatMap grpC,by rw [e0];simp,?_,fun _ _ _=>trivial,isGs_of l hp⟩,hv⟩,fun M h=>hvM M fun n hn=>h n ?_⟩
 ·have:=hr (by decide)
  simpa using this
 ·simp only [DataW.weights,Tryz.underlying33]
  exact DataW.weights_mem_each (j:=1) rfl rfl n hn
set_option maxRecDepth 100000 in
theorem sec_treeM {r:Reach} {b0:Nat} {v:Value} {d:DataW H} {p:List MemPlace} (hv:Value.okWide Tryz.prog w r b0 33 v) (h:DataW.Trod enc Tryz.prog w base spare held 33 v d p) :
  ∃(s:Sec) (gv sl:Value),v=secA s gv sl/\zbe w anyF s gv sl/\(∀M,(∀n∈DataW.weights Tryz.prog 33 d,n<=M)->txM M s.tr):=by
 obtain ⟨cs,rfl,hsz⟩:=okWide_struct Tryz.underlying33 hv
 obtain ⟨fuel,hf⟩:=h
 obtain ⟨s,gv,sl,e,hu,hM⟩:=zfM fuel _ _ hf
 have e2:cs=(secC s gv sl).toArray:=by rw [<-e];simp [Value.cells]
 exact ⟨s,gv,sl,by rw [e2];rfl,hu,hM⟩
end
def secQ (q:Sec×Value×Value):List Value:=secC q.1 q.2.1 q.2.2
theorem isSs_of {w:World}:∀l:List (Sec×Value×Value),(∀q∈l,zbe w anyF q.1 q.2.1 q.2.2)->IsSs w anyF (l.map (·.1)) (l.flatMap secQ)
 | [],_=>rfl
 | q::l,h=>⟨q.2.1,q.2.2,l.flatMap secQ,rfl,h q (List.mem_cons_self ..),isSs_of l fun r hr=>h r (List.mem_cons_of_mem _ hr)⟩
section
variable {H : Type} {enc : TypeId × Value -> H} {w : World} {base : Nat} {spare : Nat -> Bool} {held : Bool}
set_option maxRecDepth 100000 in
theorem secs_treeM {r:Reach} {b0:Nat} {v:Value} {d:DataW H} {p:List MemPlace} (hv:Value.okWide Tryz.prog w r b0 65 v) (h:DataW.Trod enc Tryz.prog w base spare held 65 v d p) :
  ∃l:List Sec,IsL w anyF l v/\(∀M,(∀n∈DataW.weights Tryz.prog 65 d,n<=M)->∀s∈l,txM M s.tr):=by
 obtain ⟨a,n,c,rfl⟩:=okWide_slice Tryz.underlying65 hv
 obtain ⟨fuel,hf⟩:=h
 have:Inhabited (Sec×Value×Value):=⟨(Sec.none,.slice none 0 0,.slice none 0 0)⟩
 obtain ⟨l,ad,cap,e0,hp,hr⟩:=slice_cellsM (α:=Sec×Value×Value) (C:=secQ) (N:=fuel) (p:=fun q d=>zbe w anyF q.1 q.2.1 q.2.2/\∀M,(∀n∈DataW.weights Tryz.prog 33 d,n<=M)->txM M q.1.tr)
  Tryz.underlying65 (show Tryz.prog.cellsOf 33=5 by kernel_rfl) (fun _=>rfl) (Nat.le_succ fuel)
  (fun m cs x _ hx=>by
   obtain ⟨s,gv,sl,e,h1,h2⟩:=zfM m cs x hx
   exact ⟨(s,gv,sl),e,h1,h2⟩) hf
 simp [Value.cells] at e0
 obtain ⟨rfl,rfl,rfl⟩:=e0
 refine ⟨l.map (·.1),⟨a,c,l.flatMap secQ,by simp,?_,fun _ _ _=>trivial,isSs_of l fun q hq=>?_⟩,fun M h s hs=>?_⟩
 ·have:=hr (by decide)
  simpa using this
 ·obtain ⟨d',h1,-⟩:=hp q hq
  exact h1.1
 ·obtain ⟨q,hq,rfl⟩:=List.mem_map.1 hs
  obtain ⟨d',h1,h2⟩:=hp q hq
  exact h1.2 M fun n hn=>h n (h2 n hn)
end
end Go.Proofs.YtfafdeemfeaedaaGreat
namespace Go.Proofs.YtfafdeemfeaedaaGreat
open Go.RowKit
theorem infoXSec:(Tryz.prog.info? 29).map (·.size)=some 5:=by kernel_rfl
theorem to15_any (ga sa:Option Addr) (gl gc sl sc:Nat) (k n:Int) (s:ByteArray) (w:World):Calls Tryz.prog 17 #[.agg #[.slice ga gl gc,.int .i64 k,.int .i64 n,.string s,.slice sa sl sc]] w fun e w'=>e=.returned (.agg #[.slice ga gl gc,.int .i64 k,.int .i64 n,.string s,.slice sa sl sc])/\Below w.heap.size w w':=by
 obtain ⟨B,hB⟩:∃B,B=w.heap.size:=⟨_,rfl⟩
 have HB1:=ya (zaT w (.cells #[.slice ga gl gc,.int .i64 k,.int .i64 n,.string s,.slice sa sl sc] 33) (.cells #[.slice none 0 0,.int .i64 0,.int .i64 0,.string ⟨#[]⟩,.slice none 0 0] 29))
 have HX1:=ya (zai (w:=w.alloc (.cells #[.slice ga gl gc,.int .i64 k,.int .i64 n,.string s,.slice sa sl sc] 33)) (.cells #[.slice none 0 0,.int .i64 0,.int .i64 0,.string ⟨#[]⟩,.slice none 0 0] 29) (zac (w:=w) (b:=B) (.cells #[.slice ga gl gc,.int .i64 k,.int .i64 n,.string s,.slice sa sl sc] 33) hB))
 have HY1:=ya (zac (w:=w.alloc (.cells #[.slice ga gl gc,.int .i64 k,.int .i64 n,.string s,.slice sa sl sc] 33)) (b:=B+1) (.cells #[.slice none 0 0,.int .i64 0,.int .i64 0,.string ⟨#[]⟩,.slice none 0 0] 29) (by rw [zan,hB]))
 have HW:=ya (show w.heap.size<=B+1 by omega)
 go_enter Tryz.func17,Tryz.ntmps17
 go_upto_region 1 with fail
 try rw [<-hB]
 generalize World.alloc _ _=W1 at *
 clear hB
 generalize B+1=B2 at *
 obtain ⟨⟨p0,p1,p2,p3,p4⟩,-⟩:=za1 HX1.out
 obtain ⟨⟨q0,q1,q2,q3,q4⟩,f0,f1,f2,f3,f4⟩:=za1 HY1.out
 go_wp2_with fail
 refine yh (results_cell_row rfl _ _ B2 29 _ (0,0) _ rfl (by exact set5 HY1.out _ _ _ _ _) Tryz.underlying29 rfl (by exact infoXSec)) rfl ?_
 exact ⟨rfl,zbD HB1.out HW.out _ _ _ _ _⟩
theorem first_upto {gs:List Grp} {c:Nat} {g:Grp} (hg:gs[c]?=some g) (h:∀x∈gs.take c,-1000000<=x.first/\x.first<=1000000) (hx:-1000000<=g.first/\g.first<=1000000):∀x∈gs.take (c+1),-1000000<=x.first/\x.first<=1000000:=by
 intro x hm
 rw [List.take_add_one,hg] at hm
 rcases List.mem_append.1 hm with h1|h1
 ·exact h x h1
 ·simp at h1;subst h1;exact hx
theorem law_xfinds {s:Sec} {gv sl:Value} (n:Int) (w:World) (h:zbe w anyF s gv sl) (ht:txM 140737488355328 s.tr) :
  Calls Tryz.prog 4 #[secA s gv sl,.int .i64 n] w (PlEndX w):=by
 have HW:=ya (fun W=>works15 W)
 have HFW:=ya (fun (W:World) (hb:Below w.heap.size w W)=>zfz (h.below hb) ht)
 have HXF:=ya (fun (hs:zcR s.gs) (h0:-2000000000000000000<=n) (h1:n<=2000000000000000000) (W:World) (hb:Below w.heap.size w W)=>zeC (h.below hb) n hs h0 h1)
 have HDF:=ya (fun (hs:zcR s.gs) (h0:-2000000000000000000<=n) (h1:n<=2000000000000000000) (W:World) (hb:Below w.heap.size w W)=>dfind_any (h.below hb) n hs h0 h1)
 obtain ⟨gs,x⟩:=s
 have HSM:=ya (fun (ho:zfg ⟨gs,x⟩) (hf:∀y∈gs.take gs.length,-1000000<=y.first/\y.first<=1000000)=>show zcR gs from fun g hg=>by
  rw [List.take_length] at hf
  have h1:=hf g hg
  have h2:=ho.2.2 g hg
  exact ⟨by omega,by omega,by omega⟩)
 have HL80:=ya (fun (ho:zfg ⟨gs,x⟩)=>ho.1)
 simp only at HXF HDF HL80
 obtain ⟨ga,gc,rfl,hgc,hgm,-⟩:=h.1.len
 simp only at hgc
 have HGA:=ya (fun (W:World) (hb:Below w.heap.size w W)=>(h.1.below hb))
 simp only at HGA
 unfold secA at HFW HXF HDF |-
 simp only at HFW HXF HDF |-
 obtain ⟨sa,sc,rfl,-,-,-⟩:=h.2.len
 simp only at HFW HXF HDF |-
 clear h ht
 have hg63:(gs.length:Int)<=9223372036854775807:=by unfold maxLen at hgm;omega
 obtain ⟨V,hV⟩:∃V,V=zfe (zbx gs n):=⟨_,rfl⟩
 rw [<-hV] at HXF HDF
 clear hV hgm hgc
 obtain ⟨⟨vat,vgen,vus⟩,vis⟩:=V
 unfold entA at HXF HDF
 simp only at HXF HDF
 generalize zfg ⟨gs,x⟩=OK at *
 generalize x.kind=xk at *
 generalize x.n=xn at *
 generalize mkB x.s=xb at *
 generalize x.l.length=xl at *
 obtain ⟨B,hB⟩:∃B,B=w.heap.size:=⟨_,rfl⟩
 have HB1:=ya (zag w (.cells #[.slice ga gs.length gc,.int .i64 xk,.int .i64 xn,.string xb,.slice sa xl sc] 33))
 have HX1:=ya (zac (w:=w) (b:=B) (.cells #[.slice ga gs.length gc,.int .i64 xk,.int .i64 xn,.string xb,.slice sa xl sc] 33) hB)
 go_enter Tryz.func4,Tryz.ntmps4
 go_upto_region 1 with fail
 try rw [<-hB]
 clear hB
 generalize World.alloc _ _=W1 at *
 obtain ⟨⟨x0,x1,x2,x3,x4⟩,-⟩:=za1 HX1.out
 have HF1:=ya (HFW.out W1 HB1.out)
 go_wp2_with fail
 refine HF1.out.mono ?_
 rintro e w2 ⟨⟨b,rfl,hb2⟩,hb⟩
 have HB2:=yl HB1 hb
 have HX2:=ya (zaa hb HX1.out)
 have HOK:=ya hb2
 clear hb hb2 HFW HF1 x0 x1 x2 x3 x4 HX1 HB1
 cases b
 ·clear HXF HDF HSM HGA HOK HX2
  go_wp2_with (go_at_call 10;refine (HW.out _).mono ?_;rintro e w' ⟨rfl,hb⟩)
  go_ret
  exact ⟨rfl,HB2.out.trans (hb.mono HB2.out.size)⟩
 have HSM2:=ya (HSM.out (HOK.out rfl))
 clear HSM HOK HL80
 go_wp2_with fail
 go_loopw [5] (fun v wr=>∃c:Nat,v=.int .i64 c/\c<=gs.length/\Hid (Below w2.heap.size w2 wr)/\Hid (∀y∈gs.take c,-1000000<=y.first/\y.first<=1000000)) (fun v _=>gs.length-(intOf v).toNat)
 case atStart=>exact ⟨0,rfl,Nat.zero_le _,ya (Below.refl _ _),ya (fun x hx=>by simp at hx)⟩
 case round =>
  obtain ⟨c,rfl,hc,HWR,HA⟩:=hrel
  have HB:=ya (HB2.out.trans (HWR.out.mono HB2.out.size))
  have HX:=ya (zaa HWR.out HX2.out)
  obtain ⟨⟨x0,x1,x2,x3,x4⟩,-⟩:=za1 HX.out
  by_cases hlt:c<gs.length
  case pos =>
   have hcd:decide ((c:Int)<(gs.length:Int))=true:=yb (by omega)
   have hcd2:decide (c<gs.length)=true:=yb (by omega)
   have hlj:(c:Int)<(gs.length:Int):=by omega
   obtain ⟨-,-,-,b,off,ha,-,-,hat⟩:=(HGA.out wr HB.out).at (by omega)
   subst ha
   obtain ⟨g,hg⟩:∃g,gs[c]?=some g:=⟨_,List.getElem?_eq_getElem hlt⟩
   obtain ⟨v,hv,g0,g1⟩:=hat c g hg
   have HA2:=ya (first_upto hg HA.out)
   clear hat hv hg HA HXF HDF HSM2
   generalize g.first=gf at *
   by_cases h1:gf < -1000000
   ·have hd1:decide (gf < -1000000)=true:=yb h1
    clear HA2
    go_wp2_with (go_at_call 10;refine (HW.out _).mono ?_;rintro e w' ⟨rfl,hb⟩)
    go_ret
    exact ⟨rfl,HB.out.trans (hb.mono HB.out.size)⟩
   have hd1:decide (gf < -1000000)=false:=yd h1
   by_cases h2:1000000<gf
   ·have hd2:decide (1000000<gf)=true:=yb h2
    clear HA2
    go_wp2_with (go_at_call 10;refine (HW.out _).mono ?_;rintro e w' ⟨rfl,hb⟩)
    go_ret
    exact ⟨rfl,HB.out.trans (hb.mono HB.out.size)⟩
   have hd2:decide (1000000<gf)=false:=yd h2
   have HA3:=ya (HA2.out ⟨by omega,by omega⟩)
   clear HA2
   go_wp2
   go_roundw
   case rel=>exact ⟨c+1,by go_num,by omega,HWR,HA3⟩
   case measure=>simp [intOf];omega
  have hce:c=gs.length:=by omega
  subst hce
  have hcd:decide ((gs.length:Int)<(gs.length:Int))=false:=yd (by omega)
  have hcd2:decide (gs.length<gs.length)=false:=yd (by omega)
  by_cases h1:n < -1000000
  ·have hd1:decide (n < -1000000)=true:=yb h1
   clear HXF HDF HSM2 HA
   go_wp2_with (go_at_call 10;refine (HW.out _).mono ?_;rintro e w' ⟨rfl,hb⟩)
   go_ret
   exact ⟨rfl,HB.out.trans (hb.mono HB.out.size)⟩
  have hd1:decide (n < -1000000)=false:=yd h1
  by_cases h2:1000000<n
  ·have hd2:decide (1000000<n)=true:=yb h2
   clear HXF HDF HSM2 HA
   go_wp2_with (go_at_call 10;refine (HW.out _).mono ?_;rintro e w' ⟨rfl,hb⟩)
   go_ret
   exact ⟨rfl,HB.out.trans (hb.mono HB.out.size)⟩
  have hd2:decide (1000000<n)=false:=yd h2
  have HXF2:=ya (HXF.out (HSM2.out HA.out) (by omega) (by omega))
  have HDF2:=ya (HDF.out (HSM2.out HA.out) (by omega) (by omega))
  have HT:=ya (fun W=>to15_any ga sa gs.length gc xl sc xk xn xb W)
  clear HXF HDF HSM2 HA
  go_wp2_with fail
  refine (HT.out _).mono ?_
  rintro e w3 ⟨rfl,hb⟩
  have HB3:=yl HB hb
  have HX3:=ya (zaa hb HX.out)
  have HF3:=ya (HXF2.out w3 HB3.out)
  clear hb HT HXF2 x0 x1 x2 x3 x4 HX HB
  go_wp2_with fail
  refine HF3.out.mono ?_
  rintro e w4 ⟨rfl,hb⟩
  have hb4:=hb.alloc hb.size (.cells #[.int .i64 vat,.int .i64 vgen,.bool vus] 44)
  have HB4:=yl HB3 hb4
  have HX4:=ya (zaa hb4 HX3.out)
  have HY4:=ya (zac (w:=w4) (.cells #[.int .i64 vat,.int .i64 vgen,.bool vus] 44) rfl)
  have HF4:=ya (HDF2.out _ HB4.out)
  clear hb hb4 HF3 HDF2 HX3 HB3
  go_upto_region 11 with fail
  generalize w4.heap.size=T4 at *
  generalize World.alloc _ _=W4 at *
  obtain ⟨⟨x0,x1,x2,x3,x4⟩,-⟩:=za1 HX4.out
  go_wp2_with fail
  refine HF4.out.mono ?_
  rintro e w5 ⟨rfl,hb⟩
  have hb5:=hb.alloc hb.size (.cells #[.int .i64 vat,.int .i64 vgen,.bool vus] 44)
  have HB5:=yl HB4 hb5
  have HY5:=ya (zaa hb5 HY4.out)
  have HZ5:=ya (zac (w:=w5) (.cells #[.int .i64 vat,.int .i64 vgen,.bool vus] 44) rfl)
  clear hb hb5 HF4 HX4 HB4 HY4 x0 x1 x2 x3 x4
  go_upto_region 12 with fail
  generalize w5.heap.size=T5 at *
  generalize World.alloc _ _=W5 at *
  obtain ⟨⟨y0,y1,y2⟩,-⟩:=zbu HY5.out
  obtain ⟨⟨z0,z1,z2⟩,-⟩:=zbu HZ5.out
  have e1:(vat==vat)=true:=by simp
  have e2:(vgen==vgen)=true:=by simp
  have e3:(vus==vus)=true:=by simp
  have e4:(vis==vis)=true:=by simp
  go_wp2_with (go_at_call 10;refine (HW.out _).mono ?_;rintro e w6 ⟨rfl,hb6⟩)
  go_ret
  exact ⟨rfl,HB5.out.trans (hb6.mono HB5.out.size)⟩
end Go.Proofs.YtfafdeemfeaedaaGreat
