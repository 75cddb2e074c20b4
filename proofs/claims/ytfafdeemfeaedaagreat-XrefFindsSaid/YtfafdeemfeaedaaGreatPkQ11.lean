/-
  Our texts KnS to Sr1, in one.
-/
import Derived.Test.YtfafdeemfeaedaaGreatPkQ10
import Derived.Deep.RegionHeld3
import Derived.Great.BuildSlice
import Derived.BigQuiet
import Derived.Deep.Cut
set_option maxRecDepth 8000
set_option maxHeartbeats 8000000
namespace Go.Proofs.YtfafdeemfeaedaaGreat
open Go.RowKit Go.Maps Go.Sort
theorem SrcQ.form {w:World} {U:Nat->Prop} {p tot N:Nat} {T:List (Int×Int)} {C:Nat->UInt8} (h:SrcQ w U p tot N T C):Form T/\(∀x∈T,x.2<=(tot:Int))/\tot<=2147483647:=by
 obtain ⟨S,v,mb,n,f,h,-,hU⟩:=h
 exact ⟨h.form,h.in_,h.totb⟩
theorem SrcQ.keeps {w w':World} {U V:Nat->Prop} {p tot N:Nat} {T:List (Int×Int)} {C:Nat->UInt8} (h:SrcQ w U p tot N T C) (hk:zae V w w') (hV:∀b,U b->¬V b):SrcQ w' U p tot N T C:=by
 obtain ⟨S,v,mb,n,f,h,hn,hU⟩:=h
 exact ⟨S,v,mb,n,f,⟨h.set.keeps hk (fun b hb=>hV b ((hU b).2 (.inl hb))),h.mem.keeps hk (fun b hb=>hV b ((hU b).2 (.inr hb))),h.ap,h.form,h.in_,h.known,h.totb⟩,hn,hU⟩
def okS (n:Nat) (z:Int×Int):Prop:=0<=z.1/\z.1<=z.2/\z.2<=(n:Int)
def cvS (n:Nat) (L:List (Int×Int)) (i:Int):Prop:=∃z∈L,okS n z/\z.1<=i/\i<z.2
theorem cvS_snoc (n:Nat) (L:List (Int×Int)) (z:Int×Int) (i:Int):cvS n (L++[z]) i↔cvS n L i\/(okS n z/\z.1<=i/\i<z.2):=by
 constructor
 ·rintro ⟨x,hx,h⟩
  rcases List.mem_append.1 hx with hx|hx
  ·exact .inl ⟨x,hx,h⟩
  ·simp only [List.mem_singleton] at hx
   subst hx
   exact .inr h
 ·rintro (⟨x,hx,h⟩|h)
  ·exact ⟨x,List.mem_append.2 (.inl hx),h⟩
  ·exact ⟨z,List.mem_append.2 (.inr (by simp)),h⟩
structure OrdS (w0 w:World) (U:Nat->Prop) (p:Nat) (bs:List UInt8) (k:Nat) (L:List (Int×Int)):Prop where
 src:∃N T C,SrcQ w U p bs.length N T C/\(∀i:Nat,cov T i↔cvS bs.length L i)/\(∀i:Nat,cov T i->C i=bs.getD i 0)/\T.length<=k/\N<=24800*k
 lo:∀b,U b->w0.heap.size<=b
theorem OrdS.mono {w0 w w':World} {U:Nat->Prop} {p k:Nat} {bs:List UInt8} {L:List (Int×Int)} (h:OrdS w0 w U p bs k L) (hb:Below w.heap.size w w'):OrdS w0 w' U p bs k L:=by
 obtain ⟨⟨N,T,C,h1,h2⟩,h3⟩:=h
 exact ⟨⟨N,T,C,h1.mono hb,h2⟩,h3⟩
theorem OrdS.keeps {w0 w w':World} {U V:Nat->Prop} {p k:Nat} {bs:List UInt8} {L:List (Int×Int)} (h:OrdS w0 w U p bs k L) (hk:zae V w w') (hV:∀b,U b->¬V b):OrdS w0 w' U p bs k L:=by
 obtain ⟨⟨N,T,C,h1,h2⟩,h3⟩:=h
 exact ⟨⟨N,T,C,h1.keeps hk hV,h2⟩,h3⟩
theorem OrdS.lt {w0 w:World} {U:Nat->Prop} {p k:Nat} {bs:List UInt8} {L:List (Int×Int)} (h:OrdS w0 w U p bs k L):∀b,U b->b<w.heap.size:=by
 obtain ⟨⟨N,T,C,h1,h2⟩,h3⟩:=h
 exact h1.lt
theorem OrdS.skip {w0 w:World} {U:Nat->Prop} {p k:Nat} {bs:List UInt8} {L:List (Int×Int)} {z:Int×Int} (h:OrdS w0 w U p bs k L) (hz:¬okS bs.length z):OrdS w0 w U p bs (k+1) (L++[z]):=by
 obtain ⟨⟨N,T,C,h1,h2,h3,h4,h5⟩,h6⟩:=h
 refine ⟨⟨N,T,C,h1,fun i=>?_,h3,by omega,by omega⟩,h6⟩
 rw [h2 i,cvS_snoc]
 exact ⟨.inl,fun h=>h.elim id fun h=>absurd h.1 hz⟩
def knL (n:Nat) (L:List (Int×Int)):List Bool:=(List.range n).map fun (i:Nat)=>L.any fun z=>decide (0<=z.1)&&decide (z.1<=z.2)&&decide (z.2<=(n:Int))&&decide (z.1<=(i:Int))&&decide ((i:Int)<z.2)
theorem knL_len (n:Nat) (L:List (Int×Int)):(knL n L).length=n:=by simp [knL]
theorem knL_get {n:Nat} {L:List (Int×Int)} {i:Nat} (hi:i<n):(knL n L).getD i false=true↔cvS n L i:=by
 have:(knL n L).getD i false=L.any fun z=>decide (0<=z.1)&&decide (z.1<=z.2)&&decide (z.2<=(n:Int))&&decide (z.1<=(i:Int))&&decide ((i:Int)<z.2):=by
  simp [knL,List.getD_eq_getElem?_getD,hi]
 rw [this,List.any_eq_true]
 constructor
 ·rintro ⟨z,hz,h⟩
  simp only [Bool.and_eq_true,decide_eq_true_eq] at h
  exact ⟨z,hz,⟨h.1.1.1.1,h.1.1.1.2,h.1.1.2⟩,h.1.2,h.2⟩
 ·rintro ⟨z,hz,⟨h1,h2,h3⟩,h4,h5⟩
  refine ⟨z,hz,?_⟩
  simp only [Bool.and_eq_true,decide_eq_true_eq]
  exact ⟨⟨⟨⟨h1,h2⟩,h3⟩,h4⟩,h5⟩
structure KnS (w:World) (U:Nat->Prop) (p:Nat) (bs:List UInt8) (kn:List Bool):Prop where
 src:∃N T C,SrcQ w U p bs.length N T C/\(∀i:Nat,i<bs.length->(cov T i↔kn.getD i false=true))/\(∀i:Nat,cov T i->C i=bs.getD i 0)/\T.length<=100
 len:kn.length=bs.length
theorem KnS.mono {w w':World} {U:Nat->Prop} {p:Nat} {bs:List UInt8} {kn:List Bool} (h:KnS w U p bs kn) (hb:Below w.heap.size w w'):KnS w' U p bs kn:=by
 obtain ⟨⟨N,T,C,h1,h2⟩,h3⟩:=h
 exact ⟨⟨N,T,C,h1.mono hb,h2⟩,h3⟩
theorem OrdS.kn {w0 w:World} {U:Nat->Prop} {p:Nat} {bs:List UInt8} {k:Nat} {L:List (Int×Int)} (h:OrdS w0 w U p bs k L) (hk:k<=100):KnS w U p bs (knL bs.length L):=by
 obtain ⟨⟨N,T,C,h1,h2,h3,h4,h5⟩,h6⟩:=h
 exact ⟨⟨N,T,C,h1,fun i hi=>by rw [h2 i,knL_get hi],h3,by omega⟩,knL_len _ _⟩
theorem whole_kn {w w':World} {bs:List UInt8} {e:Ending} (h:zgt bs w e w'):∃p U,e=.returned (.pointer (some ⟨p,0,none⟩))/\KnS w' U p bs (List.replicate bs.length true)/\Below w.heap.size w w':=by
 obtain ⟨p,U,T,C,rfl,h1,h2,h3,h4,h5,h6⟩:=h
 refine ⟨p,U,rfl,⟨⟨_,T,C,h1,fun i hi=>?_,fun i hi=>h5 i ((h4 i).1 hi),by omega⟩,by simp⟩,h6⟩
 rw [h4 i]
 simp [List.getD_eq_getElem?_getD,hi]
theorem upto_is2 {T:List (Int×Int)} {n a b:Nat} (hF:Form T) (hin:∀x∈T,x.2<=(n:Int)) (h1:a<=b) (h2:b<=n) (h3:∀i:Nat,a<=i->i<b->cov T i) (h4:b<n->¬cov T b):zbs T a=b:=by
 obtain ⟨g1,g2,g3⟩:=zek n T a (fun x hx=>(hF.full x hx).1)
 have g4:=g3 hin (by omega)
 obtain ⟨u,hu⟩:∃u:Nat,zbs T a=(u:Int):=⟨(zbs T a).toNat,by omega⟩
 have hn:¬cov T (zbs T a):=by
  obtain ⟨h1,h2⟩:=zgn hF (a:Int)
  by_cases h0:cov T a
  ·exact (h1 h0).2.2
  ·rw [h2 h0];exact h0
 rw [hu] at g1 g2 g4 hn |-
 have e1:¬u<b:=fun e=>hn (h3 u (by omega) e)
 have e2:¬b<u:=fun e=>h4 (by omega) (g2 (b:Int) (by omega) (by omega))
 omega
theorem upto_next {T:List (Int×Int)} {n:Nat} {kn:List Bool} (hF:Form T) (hin:∀x∈T,x.2<=(n:Int)) (hl:kn.length=n) (hc:∀i:Nat,i<n->(cov T i↔kn.getD i false=true)) {a:Nat} (ha:a<=n):zbs T a=(zaQ kn a:Nat):=by
 obtain ⟨b1,b2⟩:=zeq (kn:=kn) (a:=a) (by omega)
 have hw:∀(l:List Bool) (i:Nat),i<(l.takeWhile id).length->l.getD i false=true:=by
  intro l
  induction l with
  | nil=>intro i hi;simp at hi
  | cons x l ih =>
   intro i hi
   cases x
   ·simp at hi
   ·cases i with
    | zero=>rfl
    | succ i=>simp at hi;simpa using ih i (by omega)
 have hs:∀(l:List Bool),(l.takeWhile id).length<l.length->l.getD (l.takeWhile id).length false=false:=by
  intro l
  induction l with
  | nil=>intro h;simp at h
  | cons x l ih =>
   intro h
   cases x
   ·rfl
   ·simp at h;simpa using ih (by omega)
 refine upto_is2 hF hin b1 (by omega) (fun i h1 h2=>?_) (fun h=>?_)
 ·refine (hc i (by omega)).2 ?_
  have:=hw (kn.drop a) (i-a) (by unfold zaQ at h2;omega)
  rw [List.getD_eq_getElem?_getD,List.getElem?_drop,show a+(i-a)=i by omega] at this
  rwa [List.getD_eq_getElem?_getD]
 ·intro hcv
  have h4:=(hc (zaQ kn a) h).1 hcv
  have h5:=hs (kn.drop a) (by rw [yj];unfold zaQ at h;omega)
  rw [List.getD_eq_getElem?_getD,List.getElem?_drop] at h5
  rw [List.getD_eq_getElem?_getD] at h4
  unfold zaQ at h4
  rw [h4] at h5
  cases h5
theorem ktotal {w:World} {U:Nat->Prop} {p:Nat} {bs:List UInt8} {kn:List Bool} (h:KnS w U p bs kn):Calls Tryz.prog 54 #[.pointer (some ⟨p,0,none⟩)] w fun e w'=>e=.returned (.int .i64 (bs.length:Nat))/\w=w':=by
 obtain ⟨⟨N,T,C,h1,-⟩,-⟩:=h
 exact total_any h1
theorem kfirst {w:World} {U:Nat->Prop} {p:Nat} {bs:List UInt8} {kn:List Bool} (h:KnS w U p bs kn) {a:Nat} (ha:a<=bs.length) :
  Calls Tryz.prog 38 #[.pointer (some ⟨p,0,none⟩),.int .i64 a] w fun e w'=>e=.returned (.int .i64 (zaQ kn a:Nat))/\Below w.heap.size w w':=by
 obtain ⟨⟨N,T,C,h1,h2,h3,h4⟩,h5⟩:=h
 obtain ⟨hF,hin,htb⟩:=h1.form
 have hu:=upto_next hF hin h5 h2 ha
 obtain ⟨b1,b2⟩:=zeq (kn:=kn) (a:=a) (by omega)
 have:=first_any h1 (by omega) (a:Int)
 rw [show max (0:Int) (a:Int)=(a:Int) by omega,hu,show min (bs.length:Int) (zaQ kn a:Nat)=(zaQ kn a:Nat) by omega] at this
 exact this
theorem kread {w:World} {U:Nat->Prop} {p:Nat} {bs:List UInt8} {kn:List Bool} (h:KnS w U p bs kn) {a:Nat} (ha:a<=bs.length) {most:Int} (hm:(bs.length:Int)-a<=most) (h64:most<=9223372036854775807) :
  Calls Tryz.prog 55 #[.pointer (some ⟨p,0,none⟩),.int .i64 a,.int .i64 most] w fun e w'=>∃v,e=.returned (.tuple #[v,.bool (zaQ kn a==bs.length)]) /\
   w'.ownsRow w.heap.size 5 1 v ((bs.drop a).take (zaQ kn a-a)).length (((bs.drop a).take (zaQ kn a-a)).map u8C)/\Below w.heap.size w w':=by
 obtain ⟨⟨N,T,C,h1,h2,h3,h4⟩,h5⟩:=h
 obtain ⟨hF,hin,htb⟩:=h1.form
 have hu:=upto_next hF hin h5 h2 ha
 obtain ⟨b1,b2⟩:=zeq (kn:=kn) (a:=a) (by omega)
 obtain ⟨m,hm2⟩:∃m,m=zaQ kn a-a:=⟨_,rfl⟩
 have hlen:((bs.drop a).take m).length=m:=by rw [List.length_take,yj];omega
 have hcv:∀j:Nat,a<=j->j<a+m->cov T j:=by
  obtain ⟨g1,g2,g3⟩:=zek bs.length T a (fun x hx=>(hF.full x hx).1)
  intro j hj hj2
  exact g2 j (by omega) (by rw [hu];omega)
 have hby:zbA C a m=(bs.drop a).take m:=by
  unfold zbA
  apply List.ext_getElem?
  intro j
  by_cases hj:j<m
  ·have e1:((List.range m).map fun i=>C (a+i))[j]?=some (C (a+j)):=by simp [hj]
   have hjl:a+j<bs.length:=by omega
   rw [e1,h3 _ (hcv _ (by omega) (by omega))]
   simp [hj,hjl,List.getD]
  ·rw [List.getElem?_eq_none (by simp;omega),List.getElem?_eq_none (by rw [hlen];omega)]
 rw [<-hm2,hlen,<-hby]
 refine (read_any h1 (by omega) a (by omega) most (by omega) h64 (n:=m) (by rw [hu];omega)).mono ?_
 rintro e w' ⟨v,rfl,hO,hB⟩
 refine ⟨v,?_,hO,hB⟩
 rw [show decide (a+m=bs.length)=(zaQ kn a==bs.length) by rw [show a+m=zaQ kn a by omega];by_cases h:zaQ kn a=bs.length<;>simp [h]]
end Go.Proofs.YtfafdeemfeaedaaGreat
namespace Go.Proofs.YtfafdeemfeaedaaGreat
open Go.RowKit Go.Sort
theorem KnS.srcI {w:World} {U:Nat->Prop} {p:Nat} {bs:List UInt8} {kn:List Bool} (h:KnS w U p bs kn):SrcI w p bs kn :=
 ⟨h.len,fun W hW=>ktotal (h.mono hW),fun W hW a ha=>kfirst (h.mono hW) ha,fun W hW a most ha hm h64=>(kread (h.mono hW) ha hm h64).mono fun e w' ⟨v,he,hO,hB⟩=>by
  obtain ⟨x,c,rfl,-,-⟩:=zas hO
  exact ⟨x,c,he,(Row.of_own hO).2,hB⟩⟩
end Go.Proofs.YtfafdeemfeaedaaGreat
namespace Go.Proofs.YtfafdeemfeaedaaGreat
open Go.RowKit
theorem tabF_neg {t:Tab} {n:Int} (h:n<1\/(t.ps.length:Int)<n\/t.ps.getD (n-1).toNat 0<0):tabF t n=(0,false):=by unfold tabF;rw [yf h]
theorem tabF_pos {t:Tab} {n:Int} (h:¬(n<1\/(t.ps.length:Int)<n\/t.ps.getD (n-1).toNat 0<0)):tabF t n=(t.ps.getD (n-1).toNat 0,true):=by unfold tabF;rw [yg h]
def FndEnd (w:World) (V:Int×Bool) (e:Ending) (w':World):Prop:=e=.returned (.tuple #[.int .i64 V.1,.bool V.2])/\Below w.heap.size w w'
theorem tfind_any {w:World} {a:Option Addr} {c:Nat} {ps:List Int} (h:Row w 1 a ps.length c (ps.map (Value.int .i64))) (r0 n:Int) (hn:n<=9223372036854775807) :
  Calls Tryz.prog 32 #[.agg #[.slice a ps.length c,.int .i64 r0],.int .i64 n] w (FndEnd w (tabF ⟨ps,r0⟩ n)):=by
 have hi:=h.i64
 have HB1:=ya (zag w (.cells #[.slice a ps.length c,.int .i64 r0] 74))
 have HA:=ya (h.mono HB1.out)
 obtain ⟨B,hB⟩:∃B,B=w.heap.size:=⟨_,rfl⟩
 have HX1:=ya (zac (w:=w) (b:=B) (.cells #[.slice a ps.length c,.int .i64 r0] 74) hB)
 have HN:=ya (fun h=>tabF_neg (t:=⟨ps,r0⟩) (n:=n) h)
 have HP:=ya (fun h=>tabF_pos (t:=⟨ps,r0⟩) (n:=n) h)
 generalize tabF ⟨ps,r0⟩ n=V at *
 simp only at HN HP
 clear h
 go_enter Tryz.func32,Tryz.ntmps32
 go_upto_region 1 with fail
 try rw [<-hB]
 generalize World.alloc _ _=W1 at *
 clear hB
 obtain ⟨⟨p0,p1⟩,-⟩:=zax HX1.out
 by_cases h1:n<1
 ·have d1:decide (n<1)=true:=yb h1
  have HE:=ya (HN.out (.inl h1))
  clear HN HP h1
  go_wp2_with fail
  go_ret2
  rw [HE.out]
  exact ⟨rfl,HB1.out⟩
 have d1:decide (n<1)=false:=yd h1
 by_cases h2:(ps.length:Int)<n
 ·have d2:decide ((ps.length:Int)<n)=true:=yb h2
  have HE:=ya (HN.out (.inr (.inl h2)))
  clear HN HP h1 h2
  go_wp2_with fail
  go_ret2
  rw [HE.out]
  exact ⟨rfl,HB1.out⟩
 have d2:decide ((ps.length:Int)<n)=false:=yd h2
 obtain ⟨k,rfl⟩:∃k:Nat,n=(k:Int)+1:=⟨(n-1).toNat,by omega⟩
 have hk:k<ps.length:=by omega
 rw [show ((k:Int)+1-1).toNat=k by omega] at HN HP
 have hkk:(k:Int)+1-1=(k:Int):=by omega
 obtain ⟨b,o,rfl,-,hc⟩:=HA.out.at 0 k hk
 have c0:=hc k hk
 have hki:(k:Int)<(ps.length:Int):=by omega
 clear hc
 generalize ps.getD k 0=x at *
 by_cases h3:x<0
 ·have d3:decide (x<0)=true:=yb h3
  have HE:=ya (HN.out (.inr (.inr h3)))
  clear HN HP h1 h2 h3
  go_wp2_with fail
  go_ret2
  rw [HE.out]
  exact ⟨rfl,HB1.out⟩
 ·have d3:decide (x<0)=false:=yd h3
  have HE:=ya (HP.out (by rintro (h|h|h);exact h1 h;exact h2 h;exact h3 h))
  clear HN HP h1 h2 h3
  go_wp2_with fail
  go_ret2
  rw [HE.out]
  exact ⟨rfl,HB1.out⟩
def wk17:List UInt8:=[120,114,101,102,10,48,32,50,10,48,48,48,48,48,48,48,48,48,48,32,54,53,53,51,53,32,102,32,10,48,48,48,48,48,48,48,48,48,55,32,48,48,48,48,48,32,110,32,10,
 116,114,97,105,108,101,114,60,60,47,82,111,111,116,32,49,32,48,32,82,47,83,105,122,101,32,50,62,62,10,115,116,97,114,116,120,114,101,102,10,48,10,37,37,69,79,70,10]
def kn17:List Bool:=List.replicate wk17.length true
theorem wk17_load:loadV wk17 kn17=(⟨[7],1⟩,0,0):=by kernel_rfl
theorem wk17_start:za3 wk17 kn17=(0,0,0):=by kernel_rfl
theorem wk17_secs:(zcp wk17 kn17 33 [] [] 0).1.length=1/\(zcp wk17 kn17 33 [] [] 0).2=(0,0):=⟨by kernel_rfl,by kernel_rfl⟩
theorem wk17_find:tabF ⟨[7],1⟩ 1=(7,true):=by kernel_rfl
theorem works17 (w:World):Calls Tryz.prog 19 #[] w fun e w'=>e=.returned (.bool true)/\Below w.heap.size w w':=by
 have HWH:=ya (whole_any (row_bsX (w:=w) wk17 5 (by decide)) (by decide))
 have hcv:=fun (W:World) (C:Array Value) (n c:Nat)=>Lib.run_convert_bytes_const (P:=Tryz.prog) W 22 5 C n c Tryz.underlying22 Tryz.underlying5
 obtain ⟨zs,hzs⟩:∃zs,zs=wk17.map fun c=>(c.toNat:Int):=⟨_,rfl⟩
 have HZ:=ya hzs
 have HL97:=ya (show 97=zs.length by rw [hzs];rfl)
 have HZM:=ya (show zs.map (Value.int .u8)=wk17.map u8C by rw [hzs,List.map_map];rfl)
 clear hzs
 rw [show wk17.length=97 from rfl] at HWH
 go_enter Tryz.func19,Tryz.ntmps19
 go_upto_region 2 with (refine Go.wpList_buildFlat rfl 22 5 97 _ rfl .u8 zs Tryz.underlying22 (by kernel_rfl) (by kernel_rfl) HL97.out (by decide) (by decide) (by rw [HZ.out];kernel_rfl) ?_)
 rw [HZM.out,<-HL97.out]
 clear HZ HL97 HZM
 go_wp2_with fail
 refine HWH.out.mono ?_
 rintro e w1 h1
 obtain ⟨p,U,rfl,hK,hb1⟩:=whole_kn h1
 have HI:=ya hK.srcI
 have HB1:=ya ((zag w _).trans (hb1.mono (by rw [zan];omega)))
 have HL:=ya (load_any HI.out (by decide))
 rw [show List.replicate wk17.length true=kn17 from rfl] at HI HL
 rw [wk17_load] at HL
 clear h1 hK hb1 hcv HWH
 go_wp2_with fail
 refine HL.out.mono ?_
 rintro e w2 ⟨pa,pc,rfl,hrow,-,hb2⟩
 have hb2a:=hb2.alloc hb2.size (.cells #[.slice pa 1 pc,.int .i64 1] 74)
 have HX2:=ya hb2a
 have HT2:=ya (zac (w:=w2) (b:=w2.heap.size) (.cells #[.slice pa 1 pc,.int .i64 1] 74) rfl)
 have HB2:=yl HB1 hb2a
 have HF:=ya (tfind_any (ps:=[7]) (hrow.mono (zag w2 (.cells #[.slice pa 1 pc,.int .i64 1] 74))) 1 1 (by omega))
 rw [wk17_find] at HF
 unfold FndEnd at HF
 simp only [List.length_singleton] at HF |-
 clear hb2 hb2a hrow HL HB1
 go_upto_region 4 with fail
 generalize w2.heap.size=T at *
 generalize World.alloc _ _=W2 at *
 obtain ⟨⟨t0,t1⟩,-⟩:=zax HT2.out
 go_wp2_with fail
 refine HF.out.mono ?_
 rintro e w3 ⟨rfl,hb3⟩
 have HX3:=yl HX2 hb3
 have HT3:=ya (zaa hb3 HT2.out)
 have HB3:=yl HB2 hb3
 have HS:=ya (zd7 (HI.out.mono HX3.out) (by decide) 0)
 clear hb3 HX2 HT2 HB2 HF t0 t1
 go_wp2_with fail
 refine HS.out.mono ?_
 rintro e w4 ⟨lv,rfl,hlv,hb4⟩
 obtain ⟨la,lc,rfl,-,-,-⟩:=hlv.len
 rw [wk17_secs.1,wk17_secs.2]
 have HX4:=yl HX3 hb4
 have HT4:=ya (zaa hb4 HT3.out)
 have HB4:=yl HB3 hb4
 have HST:=ya (start_any (HI.out.mono HX4.out) (by decide))
 rw [wk17_start] at HST
 clear hb4 HX3 HT3 HB3 HS hlv
 go_wp2_with fail
 refine HST.out.mono ?_
 rintro e w5 ⟨rfl,hb5⟩
 have HT5:=ya (zaa hb5 HT4.out)
 have HB5:=yl HB4 hb5
 clear hb5 HX4 HT4 HB4 HST
 obtain ⟨⟨t0,t1⟩,-⟩:=zax HT5.out
 go_wp2_with fail
 go_ret
 exact ⟨rfl,HB5.out⟩
theorem secsTo_any {w:World} {F:Nat->Prop} {l:List Sec} {v:Value} (h:IsL w F l v) (hl:l.length<=1000) :
  Calls Tryz.prog 30 #[v] w fun e w'=>∃v',e=.returned v'/\IsL w' anyF l v'/\Below w.heap.size w w':=by
 obtain ⟨a,cap,rfl,g1,g2,g3⟩:=h.len
 have hl63:(l.length:Int)<=9223372036854775807:=by omega
 have HL:=ya h
 clear h g2 g3
 go_enter Tryz.func30,Tryz.ntmps30
 go_wp2_with fail
 go_loopw [3,4] (fun v3 v4 wr=>∃(j:Nat) (ds:List Value),v4=.int .i64 j/\j<=l.length/\Hid (IsSs w F (l.take j) ds)/\Hid (wr.ownsRow w.heap.size 29 5 v3 j ds)/\Hid (Below w.heap.size w wr)) (fun _ v _=>l.length-(intOf v).toNat)
 case atStart=>exact ⟨0,[],rfl,Nat.zero_le _,ya rfl,ya (World.ownsRow_nil _ _ _ _),ya (Below.refl _ _)⟩
 case round =>
  obtain ⟨j,ds,rfl,hj,HI,HO,HB⟩:=hrel
  obtain ⟨oa,oc,rfl,-,-⟩:=zas HO.out
  by_cases hlt:j<l.length
  case neg =>
   have hcd:decide ((j:Int)<(l.length:Int))=false:=yd (by omega)
   have hcd2:decide (j<l.length)=false:=yd hlt
   obtain rfl:j=l.length:=by omega
   have HF:=ya (show IsL wr anyF l (.slice oa l.length oc) from ⟨oa,oc,ds,rfl,(Row.of_own HO.out).2,fun _ _ _=>trivial,by
    have:=HI.out;rw [List.take_length] at this;exact this.keep (zay.of_below HB.out) (fun _ _=>trivial)⟩)
   go_wp2_with fail
   go_ret
   exact ⟨_,rfl,HF.out,HB.out⟩
  have hcd:decide ((j:Int)<(l.length:Int))=true:=yb (by omega)
  have hcd2:decide (j<l.length)=true:=yb hlt
  have hL2:=HL.out
  obtain ⟨-,-,-,b,off,rfl,-,-,hc⟩:=hL2.at (by omega)
  obtain ⟨s,hx⟩:∃s,l[j]?=some s:=⟨_,List.getElem?_eq_getElem hlt⟩
  obtain ⟨gv,sl,hsec,d0,d1,d2,d3,d4⟩:=hc j s hx
  obtain ⟨ga,gc,rfl,-,-,-⟩:=hsec.1.len
  obtain ⟨la,lc,rfl,-,-,-⟩:=hsec.2.len
  have HI2:=ya (HI.out.take1 hx hsec)
  have hone:∀u∈secC s (.slice ga s.gs.length gc) (.slice la s.tr.l.length lc),u.oneCell'=true:=by
   intro u hu
   simp [secC,pvC] at hu
   rcases hu with rfl|rfl|rfl|rfl|rfl<;>rfl
  have HSC:=ya (show secC s (.slice ga s.gs.length gc) (.slice la s.tr.l.length lc)=[.slice ga s.gs.length gc,.int .i64 s.tr.kind,.int .i64 s.tr.n,.string (mkB s.tr.s),.slice la s.tr.l.length lc] from rfl)
  rw [HSC.out] at hone HI2
  have HONE:=ya hone
  have hBd:=HB.out.drew
  have c0:=cell?_keep hBd d0
  have c1:=cell?_keep hBd d1
  have c2:=cell?_keep hBd d2
  have c3:=cell?_keep hBd d3
  have c4:=cell?_keep hBd d4
  have hlj:(j:Int)<(l.length:Int):=by omega
  obtain ⟨iB,hiB,hzB,hsB,hbB⟩:=info_parts ESec.info
  clear hL2 hc hx hsec hone hBd d0 d1 d2 d3 d4 HI HSC
  generalize s.gs.length=gn at *
  generalize s.tr.kind=xk at *
  generalize s.tr.n=xn at *
  generalize mkB s.tr.s=xb at *
  generalize s.tr.l.length=xl at *
  go_wp2_with fail
  go_region_law (first|(refine step_append_lies _ (by rfl) _ _ _ (by rfl) w.heap.size 29 iB _ 5 80 ESec.und hiB hzB hsB hbB ESec.cells ESec.pos (.slice oa j oc) j ds (by rfl) ((HO.out.alloc _).drew) ⟨wr.heap.size,0,none⟩ 1 1 [.slice ga gn gc,.int .i64 xk,.int .i64 xn,.string xb,.slice la xl lc] (by rfl) (by rfl) (World.news_of_block (cs:=#[.slice ga gn gc,.int .i64 xk,.int .i64 xn,.string xb,.slice la xl lc]) (t:=29) (fr:=(0,0)) (heap_alloc_new wr _)) (by simp [Value.oneCell']) (by omega) (by unfold maxLen;omega) (by omega) (by simp;have:=HB.out.size;omega) (wr.heap.size+1) (by simp) ?_;intro g cap7 w7 hO7 hgrow hat hlt7;have HO8:=ya hO7;have HB8:=ya ((HB.out.alloc HB.out.size _).grown (zgg hgrow) (by rw [zan];have:=HB.out.size;omega) (fun b hb=>(HO.out.lt b hb).1));clear hO7 hgrow hat hlt7))
  all_goals (try go_wp2_with fail)
  all_goals clear c0 c1 c2 c3 c4
  all_goals go_roundw
  all_goals first
   | exact ⟨j+1,_,by first|rfl|go_num,by omega,HI2,HO8,HB8⟩
   |(simp [intOf];omega)
theorem rtfind_any {w:World} {a:Option Addr} {c:Nat} {ps:List Int} (h:Row w 1 a ps.length c (ps.map (Value.int .i64))) (r0 n:Int) (hn:n<=9223372036854775807) :
  Calls Tryz.prog 33 #[.agg #[.slice a ps.length c,.int .i64 r0],.int .i64 n] w (FndEnd w (tabF ⟨ps,r0⟩ n)):=by
 have hi:=h.i64
 have HB1:=ya (zag w (.cells #[.slice a ps.length c,.int .i64 r0] 78))
 have HA:=ya (h.mono HB1.out)
 obtain ⟨B,hB⟩:∃B,B=w.heap.size:=⟨_,rfl⟩
 have HX1:=ya (zac (w:=w) (b:=B) (.cells #[.slice a ps.length c,.int .i64 r0] 78) hB)
 have HN:=ya (fun h=>tabF_neg (t:=⟨ps,r0⟩) (n:=n) h)
 have HP:=ya (fun h=>tabF_pos (t:=⟨ps,r0⟩) (n:=n) h)
 generalize tabF ⟨ps,r0⟩ n=V at *
 simp only at HN HP
 clear h
 go_enter Tryz.func33,Tryz.ntmps33
 go_upto_region 1 with fail
 try rw [<-hB]
 generalize World.alloc _ _=W1 at *
 clear hB
 by_cases h1:n<1
 ·have d1:decide (1<=n)=false:=yd (by omega)
  have HE:=ya (HN.out (.inl h1))
  clear HN HP h1
  obtain ⟨q,hq⟩:∃q,IntKind.i64.wrap (n-1)=q:=⟨_,rfl⟩
  go_wp2_with fail
  go_loopw [6] (fun v wr=>∃k:Nat,v=.int .i64 k/\k<=ps.length/\Hid (Below W1.heap.size W1 wr)) (fun v _=>ps.length-(intOf v).toNat)
  case atStart=>exact ⟨0,rfl,Nat.zero_le _,ya (Below.refl _ _)⟩
  case round =>
   obtain ⟨k,rfl,hk,HW⟩:=hrel
   obtain ⟨⟨p0,p1⟩,-⟩:=zax (zaa HW.out HX1.out)
   by_cases hlt:k<ps.length
   case neg =>
    have hcd:decide ((k:Int)<(ps.length:Int))=false:=yd (by omega)
    have hcd2:decide (k<ps.length)=false:=yd (by omega)
    go_wp2
    go_ret2
    rw [HE.out]
    exact ⟨rfl,HB1.out.trans (HW.out.mono HB1.out.size)⟩
   have hcd:decide ((k:Int)<(ps.length:Int))=true:=yb (by omega)
   have hcd2:decide (k<ps.length)=true:=yb hlt
   by_cases hkq:(k:Int)=q
   ·have e1:((k:Int)==q)=true:=by rw [beq_iff_eq];exact hkq
    clear hkq
    go_wp2
    go_roundw
    case rel=>exact ⟨k+1,by go_num,by omega,HW⟩
    case measure=>simp [intOf];omega
   ·have e1:((k:Int)==q)=false:=by rw [ye];exact hkq
    clear hkq
    go_wp2
    go_roundw
    case rel=>exact ⟨k+1,by go_num,by omega,HW⟩
    case measure=>simp [intOf];omega
 have d1:decide (1<=n)=true:=yb (by omega)
 obtain ⟨K,hK⟩:∃K:Nat,n=(K:Int)+1:=⟨(n-1).toNat,by omega⟩
 have hKn:(n-1).toNat=K:=by omega
 rw [hKn] at HN HP
 have hw:IntKind.i64.wrap (n-1)=(K:Int):=by rw [hK,show (K:Int)+1-1=K by omega];exact IntWalk.i64_in _ (by omega)
 have HK:=ya hK
 clear hK hKn h1
 go_wp2_with fail
 go_loopw [6] (fun v wr=>∃k:Nat,v=.int .i64 k/\k<=ps.length/\Hid (Below W1.heap.size W1 wr)/\Hid (K<k->ps.getD K 0<0)) (fun v _=>ps.length-(intOf v).toNat)
 case atStart=>exact ⟨0,rfl,Nat.zero_le _,ya (Below.refl _ _),ya (fun h=>absurd h (Nat.not_lt_zero _))⟩
 case round =>
  obtain ⟨k,rfl,hk,HW,HQ⟩:=hrel
  have HB:=ya (HB1.out.trans (HW.out.mono HB1.out.size))
  obtain ⟨⟨p0,p1⟩,-⟩:=zax (zaa HW.out HX1.out)
  by_cases hlt:k<ps.length
  case neg =>
   have hcd:decide ((k:Int)<(ps.length:Int))=false:=yd (by omega)
   have hcd2:decide (k<ps.length)=false:=yd (by omega)
   have HE:=ya (HN.out (by
    by_cases hKk:K<k
    ·exact .inr (.inr (HQ.out hKk))
    ·exact .inr (.inl (by have:=HK.out;omega))))
   clear HN HP HQ HK
   go_wp2
   go_ret2
   rw [HE.out]
   exact ⟨rfl,HB.out⟩
  have hcd:decide ((k:Int)<(ps.length:Int))=true:=yb (by omega)
  have hcd2:decide (k<ps.length)=true:=yb hlt
  by_cases hkq:k=K
  case neg =>
   have e1:((k:Int)==(K:Int))=false:=by rw [ye];omega
   have e2:(k==K)=false:=by rw [ye];exact hkq
   have HQ2:=ya (show K<k+1->ps.getD K 0<0 from fun h=>HQ.out (by omega))
   clear hkq HQ HN HP HK
   go_wp2
   go_roundw
   case rel=>exact ⟨k+1,by go_num,by omega,HW,HQ2⟩
   case measure=>simp [intOf];omega
  subst hkq
  have e1:((k:Int)==(k:Int))=true:=by simp
  obtain ⟨b,o,rfl,-,hc⟩:=(HA.out.mono HW.out).at 0 k hlt
  have c0:=hc k hlt
  have hki:(k:Int)<(ps.length:Int):=by omega
  clear hc HQ
  obtain ⟨x,hx⟩:∃x,x=ps.getD k 0:=⟨_,rfl⟩
  rw [<-hx] at c0 HN HP
  by_cases h3:x<0
  ·have d3:decide (0<=x)=false:=yd (by omega)
   have HQ2:=ya (show k<k+1->ps.getD k 0<0 from fun _=>by rw [<-hx];exact h3)
   clear HN HP hx h3 HK
   go_wp2
   go_roundw
   case rel=>exact ⟨k+1,by go_num,by omega,HW,HQ2⟩
   case measure=>simp [intOf];omega
  ·have d3:decide (0<=x)=true:=yb (by omega)
   have HE:=ya (HP.out (by have:=HK.out;rintro (h|h|h)<;>omega))
   clear HN HP hx h3 HK
   go_wp2
   go_ret2
   rw [HE.out]
   exact ⟨rfl,HB.out⟩
theorem dfind_any {w:World} {F:Nat->Prop} {s:Sec} {gv sl:Value} (h:zbe w F s gv sl) (n:Int) (hs:zcR s.gs) (hn0:-2000000000000000000<=n) (hn1:n<=2000000000000000000) :
  Calls Tryz.prog 18 #[secA s gv sl,.int .i64 n] w fun e w'=>e=.returned (.tuple #[entA (zfe (zbx s.gs n)).1,.bool (zfe (zbx s.gs n)).2])/\Below w.heap.size w w':=by
 obtain ⟨gs,x⟩:=s
 simp only at hs |-
 obtain ⟨ga,gc,rfl,hgc,hgm,-⟩:=h.1.len
 simp only at hgc
 obtain ⟨V,hV⟩:∃V,V=zbx gs n:=⟨_,rfl⟩
 rw [<-hV]
 have HV:=ya hV
 have HS:=ya hs
 have HGA:=ya (fun (W:World) (hb:Below w.heap.size w W)=>(h.1.below hb))
 simp only at HGA
 clear hV hs
 unfold secA
 simp only
 obtain ⟨sa,sc,rfl,-,-,-⟩:=h.2.len
 simp only at h |-
 clear h
 have hg63:(gs.length:Int)<=9223372036854775807:=by unfold maxLen at hgm;omega
 generalize x.kind=xk at *
 generalize x.n=xn at *
 generalize mkB x.s=xb at *
 generalize x.l.length=xl at *
 obtain ⟨B,hB⟩:∃B,B=w.heap.size:=⟨_,rfl⟩
 have HB1:=ya (zaT w (.cells #[.slice ga gs.length gc,.int .i64 xk,.int .i64 xn,.string xb,.slice sa xl sc] 33) (.cells #[.int .i64 0,.int .i64 0,.bool false] 44))
 have HX1:=ya (zai (w:=w.alloc (.cells #[.slice ga gs.length gc,.int .i64 xk,.int .i64 xn,.string xb,.slice sa xl sc] 33)) (.cells #[.int .i64 0,.int .i64 0,.bool false] 44) (zac (w:=w) (b:=B) (.cells #[.slice ga gs.length gc,.int .i64 xk,.int .i64 xn,.string xb,.slice sa xl sc] 33) hB))
 have HZ1:=ya (zac (w:=w.alloc (.cells #[.slice ga gs.length gc,.int .i64 xk,.int .i64 xn,.string xb,.slice sa xl sc] 33)) (b:=B+1) (.cells #[.int .i64 0,.int .i64 0,.bool false] 44) (by rw [zan,hB]))
 have HRW:=ya (show w.heap.size<=B+1 by omega)
 go_enter Tryz.func18,Tryz.ntmps18
 go_upto_region 1 with fail
 try rw [<-hB]
 generalize World.alloc _ _=W1 at *
 clear hB
 generalize B+1=r at *
 obtain ⟨⟨x0,x1,x2,x3,x4⟩,-⟩:=za1 HX1.out
 obtain ⟨⟨z0,z1,z2⟩,y0,y1,y2⟩:=zbu HZ1.out
 go_wp2_with fail
 go_loop [6] (fun v=>∃c:Nat,v=.int .i64 c/\c<=gs.length/\Hid (V=zbx (gs.drop c) n)) (fun v=>gs.length-(intOf v).toNat)
 case atStart=>exact ⟨0,rfl,Nat.zero_le _,HV⟩
 case round =>
  obtain ⟨c,rfl,hc,HQ⟩:=hrel
  by_cases hlt:c<gs.length
  case neg =>
   have hce:c=gs.length:=by omega
   have hcd:decide ((c:Int)<(gs.length:Int))=false:=yd (by omega)
   have hcd2:decide (c<gs.length)=false:=yd (by omega)
   have HQ2:=ya (HQ.out.trans (show zbx (gs.drop c) n=none by rw [hce,List.drop_length];rfl))
   clear hce
   go_wp2
   refine yh (zab rfl _ _ r 44 _ (0,0) _ rfl (by exact set3a HZ1.out _ _ _) Tryz.underlying44 rfl (by exact zcW) _ rfl) rfl ?_
   rw [HQ2.out]
   exact ⟨rfl,((HB1.out.setCell HRW.out _).setCell HRW.out _).setCell HRW.out _⟩
  have hcd:decide ((c:Int)<(gs.length:Int))=true:=by simp;omega
  have hcd2:decide (c<gs.length)=true:=by simp;omega
  have hci:(c:Int)<(gs.length:Int):=by omega
  obtain ⟨-,-,-,b,off,ha,-,-,hat⟩:=(HGA.out W1 HB1.out).at (by omega)
  subst ha
  obtain ⟨g,hg⟩:∃g,gs[c]?=some g:=⟨_,List.getElem?_eq_getElem hlt⟩
  obtain ⟨v,hv,g0,g1⟩:=hat c g hg
  obtain ⟨ea,ec,rfl,hel,hec,-⟩:=hv.len
  have HIE:=ya hv
  have HGO:=ya (fun h=>HQ.out.trans (find_go hg h))
  have HHT:=ya (fun h=>HQ.out.trans (find_hit hg h))
  have hem:g.es.length<=100000:=(HS.out g (List.mem_of_getElem? hg)).2.2
  have he63:(g.es.length:Int)<=9223372036854775807:=by omega
  clear hat hv hg HQ
  obtain ⟨gf,ge⟩:=g
  simp only at *
  go_wp2_with fail
  go_loop [7] (fun v=>∃d:Nat,v=.int .i64 d/\d<=ge.length/\Hid (∀i:Nat,i<d->gf≠n-(i:Int))) (fun v=>ge.length-(intOf v).toNat)
  case atStart=>exact ⟨0,rfl,Nat.zero_le _,ya (fun i hi=>by omega)⟩
  case round =>
   obtain ⟨d,rfl,hd,HNO⟩:=hrel
   by_cases hle:d<ge.length
   case neg =>
    have hdd:decide ((d:Int)<(ge.length:Int))=false:=yd (by omega)
    have hdd2:decide (d<ge.length)=false:=yd (by omega)
    have HQ2:=ya (HGO.out (fun h=>by
     refine HNO.out (n-gf).toNat ?_ ?_<;>omega))
    go_wp2
    go_round
    case rel=>exact ⟨c+1,by go_num,by omega,HQ2⟩
    case measure=>simp [intOf];omega
   have hdd:decide ((d:Int)<(ge.length:Int))=true:=by simp;omega
   have hdd2:decide (d<ge.length)=true:=by simp;omega
   have hdi:(d:Int)<(ge.length:Int):=by omega
   have hs0:-9223372036854775808<=n-(d:Int):=by omega
   have hs1:n-(d:Int)<=9223372036854775807:=by omega
   by_cases hh:gf=n-(d:Int)
   case neg =>
    have e0:(gf==n-(d:Int))=false:=by rw [ye];exact hh
    have HNO2:=ya (show ∀i:Nat,i<d+1->gf≠n-(i:Int) from fun i hi=>by
     rcases Nat.lt_or_ge i d with h|h
     ·exact HNO.out i h
     ·obtain rfl:i=d:=by omega
      exact hh)
    clear hh HNO
    go_wp2
    go_round
    case rel=>exact ⟨d+1,by go_num,by omega,HNO2⟩
    case measure=>simp [intOf];omega
   have e0:(gf==n-(d:Int))=true:=by rw [beq_iff_eq];exact hh
   have e1:decide (gf<=n)=true:=yb (by omega)
   have e2:gf<=n:=by omega
   have HQ2:=ya (HHT.out ⟨by omega,by omega⟩)
   rw [show (n-gf).toNat=d by omega] at HQ2
   obtain ⟨-,-,-,be,oe,hae,hbe,-,hae2⟩:=HIE.out.at (by omega)
   subst hae
   obtain ⟨ee,hee⟩:∃ee,ge[d]?=some ee:=⟨_,List.getElem?_eq_getElem hle⟩
   obtain ⟨k0,k1,k2⟩:=hae2 d ee hee
   have HEE:=ya (show ge.getD d {}=ee by rw [List.getD_eq_getElem?_getD,hee];rfl)
   rw [HEE.out] at HQ2
   clear hae2 hee HEE HIE HGO HHT hh HNO
   go_wp2
   refine yh (zab rfl _ _ r 44 _ (0,0) _ rfl (by exact set3a HZ1.out _ _ _) Tryz.underlying44 rfl (by exact zcW) _ rfl) rfl ?_
   rw [HQ2.out]
   exact ⟨rfl,((HB1.out.setCell HRW.out _).setCell HRW.out _).setCell HRW.out _⟩
theorem rplace_any {w:World} {F:Nat->Prop} {l:List Sec} {v:Value} (h:IsL w F l v) (hs:zd0 l) (n:Int) (hn0:-2000000000000000000<=n) (hn1:n<=2000000000000000000) :
  Calls Tryz.prog 69 #[v,.int .i64 n] w (PlcEnd w (zbl l n)):=by
 obtain ⟨a,cap,rfl,g1,g2,g3⟩:=h.len
 have hl63:(l.length:Int)<=9223372036854775807:=by unfold maxLen at g2;omega
 have HL:=ya h
 obtain ⟨R,hR⟩:∃R,R=zbl l n:=⟨_,rfl⟩
 have HR:=ya hR
 have HSM:=ya hs
 rw [<-hR]
 clear h hR g2 g3 hs
 go_enter Tryz.func69,Tryz.ntmps69
 go_wp2_with fail
 go_loopw [5] (fun v wr=>∃k:Nat,v=.int .i64 k/\k<=l.length/\Hid (R=zbl (l.drop k) n)/\Hid (Below w.heap.size w wr)) (fun v _=>l.length-(intOf v).toNat)
 case atStart=>exact ⟨0,rfl,Nat.zero_le _,HR,ya (Below.refl _ _)⟩
 case round =>
  obtain ⟨k,rfl,hk,HQ,HB⟩:=hrel
  by_cases hlt:k<l.length
  ·have hcd:decide ((k:Int)<(l.length:Int))=true:=yb (by omega)
   have hcd2:decide (k<l.length)=true:=yb hlt
   have hci:(k:Int)<(l.length:Int):=by omega
   have HL2:=ya (HL.out.below HB.out)
   have hL2:=HL2.out
   obtain ⟨-,-,-,b,off,rfl,-,-,hc⟩:=hL2.at (by omega)
   obtain ⟨s,hx⟩:∃s,l[k]?=some s:=⟨_,List.getElem?_eq_getElem hlt⟩
   obtain ⟨gv,sl,hsec,c0,c1,c2,c3,c4⟩:=hc k s hx
   obtain ⟨ga,gc,rfl,-,-,-⟩:=hsec.1.len
   obtain ⟨la,lc,rfl,-,-,-⟩:=hsec.2.len
   have HF1:=ya (dfind_any hsec n (HSM.out s (List.mem_of_getElem? hx)) hn0 hn1)
   have hdrop:l.drop k=s::l.drop (k+1):=by
    rw [List.drop_eq_getElem_cons hlt]
    rw [List.getElem?_eq_getElem hlt] at hx
    rw [Option.some.inj hx]
   have HD:=ya (HQ.out.trans (by rw [hdrop]))
   unfold secA at HF1
   clear hL2 hc hx hdrop HQ
   have HN:=ya (fun h=>HD.out.trans (ze5 (n:=n) h))
   have HY:=ya (fun e h=>HD.out.trans (zeD (n:=n) (e:=e) h))
   clear HD
   generalize zbx s.gs n=o at *
   clear hsec HL2
   generalize s.gs.length=gl at *
   generalize s.tr.kind=xk at *
   generalize s.tr.n=xn at *
   generalize mkB s.tr.s=xb at *
   generalize s.tr.l.length=xl at *
   go_wp2_with fail
   refine HF1.out.mono ?_
   rintro e w2 ⟨rfl,hb2⟩
   cases o with
   | none =>
    have HE:=ya (HN.out rfl)
    have HB2:=yl HB hb2
    have HZ:=ya (zac (w:=w2) (b:=w2.heap.size) (.cells #[.int .i64 0,.int .i64 0,.bool false] 44) rfl)
    have HB3:=ya (HB2.out.alloc HB2.out.size (.cells #[.int .i64 0,.int .i64 0,.bool false] 44))
    simp only [zfe,entA]
    clear hb2 HB HB2 HF1 c0 c1 c2 c3 c4 HN HY
    go_upto_region 5 with fail
    generalize w2.heap.size=Z at *
    generalize World.alloc _ _=W3 at *
    obtain ⟨⟨z0,z1,z2⟩,-⟩:=zbu HZ.out
    go_wp2_with fail
    go_roundw
    case rel=>exact ⟨k+1,by go_num,hlt,HE,HB3⟩
    case measure=>simp [intOf];omega
   | some x =>
    have HE:=ya (HY.out x rfl)
    obtain ⟨xa,xg,xu⟩:=x
    have HB2:=yl HB hb2
    have HZ:=ya (zac (w:=w2) (b:=w2.heap.size) (.cells #[.int .i64 xa,.int .i64 xg,.bool xu] 44) rfl)
    have HB3:=ya (HB2.out.alloc HB2.out.size (.cells #[.int .i64 xa,.int .i64 xg,.bool xu] 44))
    simp only [zfe,entA] at HE |-
    clear hb2 HB HB2 HF1 c0 c1 c2 c3 c4 HN HY
    go_upto_region 5 with fail
    generalize w2.heap.size=Z at *
    generalize World.alloc _ _=W3 at *
    obtain ⟨⟨z0,z1,z2⟩,-⟩:=zbu HZ.out
    cases xu
    ·have HE2:=ya (HE.out.trans (yg (by simp)))
     go_wp2_with fail
     go_ret
     exact ⟨by rw [HE2.out];rfl,HB3.out⟩
    ·by_cases hg:xg=0
     ·subst hg
      have HE2:=ya (HE.out.trans (yf ⟨rfl,rfl⟩))
      go_wp2_with fail
      go_ret
      exact ⟨by rw [HE2.out];rfl,HB3.out⟩
     ·have e0:(xg==0)=false:=by rw [ye];exact hg
      have HE2:=ya (HE.out.trans (yg (fun h=>hg h.2)))
      clear hg
      go_wp2_with fail
      go_ret
      exact ⟨by rw [HE2.out];rfl,HB3.out⟩
  ·have hcd:decide ((k:Int)<(l.length:Int))=false:=yd (by omega)
   have hcd2:decide (k<l.length)=false:=yd hlt
   obtain rfl:k=l.length:=by omega
   have HE:=ya (HQ.out.trans (by rw [List.drop_length,placeV_nil]))
   go_wp2_with fail
   go_ret
   exact ⟨by rw [HE.out];rfl,HB.out⟩
theorem rof_any {w:World} {F:Nat->Prop} {l:List Sec} {v:Value} (h:IsL w F l v) (hs:zd0 l) (hev:evenL l):Calls Tryz.prog 31 #[v] w (OfEnd w (tabV l)):=by
 obtain ⟨a,cap,rfl,g1,g2,g3⟩:=h.len
 have hl63:(l.length:Int)<=9223372036854775807:=by unfold maxLen at g2;omega
 have HL:=ya h
 obtain ⟨V,hV⟩:∃V,V=tabV l:=⟨_,rfl⟩
 have HV:=ya hV
 have HSM:=ya hs
 have HEV:=ya hev
 rw [<-hV]
 clear h hV g2 g3 hs hev
 obtain ⟨r,hr⟩:∃r,r=w.heap.size:=⟨_,rfl⟩
 have HZ1:=ya (zac (w:=w) (b:=r) (.cells #[.slice none 0 0,.int .i64 0] 78) hr)
 have HB1:=ya (zag w (.cells #[.slice none 0 0,.int .i64 0] 78))
 have HRW:=ya (Nat.le_of_eq hr.symm)
 go_enter Tryz.func31,Tryz.ntmps31
 go_upto_region 1 with fail
 try rw [<-hr]
 clear hr
 generalize w.alloc _=W1 at *
 cases l with
 | nil =>
  have HE:=ya (HV.out.trans tabV_nil)
  obtain ⟨⟨z0,z1⟩,y0,y1⟩:=zax HZ1.out
  go_wp2_with fail
  refine yh (zab rfl _ _ r 78 _ (0,0) _ rfl (by exact zbM HZ1.out _ _) Tryz.underlying78 rfl (by exact zck) _ rfl) rfl ?_
  exact zfn HE.out HB1.out HRW.out _ _
 | cons s0 l0 =>
  have HL1:=ya (HL.out.below HB1.out)
  have hL1:=HL1.out
  obtain ⟨-,-,-,b,off,rfl,-,-,hc⟩:=hL1.at (by simp)
  obtain ⟨gv,sl,hsec,c0,c1,c2,c3,c4⟩:=hc 0 s0 rfl
  obtain ⟨la,lc,rfl,-,-,-⟩:=hsec.2.len
  have hlen:(s0::l0).length=l0.length+1:=rfl
  have HG:=ya (fun (W:World) (hb:Below W1.heap.size W1 W) (key:List UInt8)=>rget_any (IsV.below hsec.2 hb) (HEV.out s0 (List.mem_cons_self ..)) key)
  have HPL:=ya (fun (W:World) (hb:Below w.heap.size w W) (n:Int) (h0:-2000000000000000000<=n) (h1:n<=2000000000000000000)=>rplace_any (HL.out.below hb) HSM.out n h0 h1)
  have HV1:=ya (fun h=>HV.out.trans (tabV_size h))
  have HV2:=ya (fun h h2=>HV.out.trans (tabV_root h h2))
  have HV3:=ya (fun h h2=>HV.out.trans (tabV_ok h h2))
  have HGS:=ya (HG.out W1 (Below.refl _ _) zcU)
  have HGR:=ya (fun (W:World) (hb:Below W1.heap.size W1 W)=>HG.out W hb kRoot)
  obtain ⟨PV1,hP1⟩:∃P,P=fun n=>zbl (s0::l0) n:=⟨_,rfl⟩
  have HPP:=ya (show ∀n,zbl (s0::l0) n=PV1 n from fun n=>by rw [hP1])
  simp only [HPP.out] at HPL HV3
  clear hP1
  generalize getP (getV s0.tr zcU)=Z at *
  generalize getP (getV s0.tr kRoot)=Q at *
  obtain ⟨zv,zb⟩:=Z
  obtain ⟨qv,qb⟩:=Q
  simp only at HV1 HV2 HV3
  unfold pvA at HGS HGR
  have hN0:(((s0::l0).length:Int)==0)=false:=by rw [ye];simp only [List.length_cons];omega
  have hN1:((s0::l0).length==0)=false:=by rw [ye];simp
  have hNp:0<(s0::l0).length:=by simp
  simp only [Nat.zero_mul,Nat.add_zero] at c0 c1 c2 c3 c4
  clear HL HL1 hL1 hc hsec HG HV HPP hlen HEV HSM c0
  generalize (s0::l0).length=N at *
  generalize s0.tr.kind=xk at *
  generalize s0.tr.n=xn at *
  generalize mkB s0.tr.s=xb at *
  generalize s0.tr.l.length=xl at *
  go_wp2_with fail
  refine HGS.out.mono ?_
  rintro e w2 ⟨zl,rfl,hzv,hb2⟩
  obtain ⟨za,zc,rfl,-,-,-⟩:=hzv.len
  simp only [pvA]
  have hb2a:=hb2.alloc hb2.size (.cells #[.int .i64 zv.kind,.int .i64 zv.n,.string (mkB zv.s),.slice za zv.l.length zc] 27)
  have HS2:=ya (zac (w:=w2) (b:=w2.heap.size) (.cells #[.int .i64 zv.kind,.int .i64 zv.n,.string (mkB zv.s),.slice za zv.l.length zc] 27) rfl)
  have HZ2:=ya (zaa hb2a HZ1.out)
  have HX2:=ya hb2a
  have HWS:=ya (show w.heap.size<=w2.heap.size/\r<w2.heap.size from ⟨Nat.le_trans HB1.out.size hb2.size,Nat.lt_of_lt_of_le (zaf HZ1.out) hb2.size⟩)
  have e1:=cell?_keep hb2a c1
  have e2:=cell?_keep hb2a c2
  have e3:=cell?_keep hb2a c3
  have e4:=cell?_keep hb2a c4
  clear hb2 hb2a hzv HGS HZ1 c1 c2 c3 c4
  generalize zv.kind=zk at *
  generalize zv.n=zn at *
  generalize mkB zv.s=zs at *
  generalize zv.l.length=zl2 at *
  go_upto_region 4 with fail
  generalize w2.heap.size=S4 at *
  generalize World.alloc _ _=W2 at *
  have HBX:=ya (HB1.out.trans (HX2.out.mono HB1.out.size))
  obtain ⟨⟨s1,s2,s3,s4⟩,-⟩:=zaj HS2.out
  obtain ⟨⟨z0,z1⟩,y0,y1⟩:=zax HZ2.out
  by_cases h1:zk=2
  case neg =>
   have HE:=ya (HV1.out (.inl h1))
   have f0:(zk==2)=false:=by rw [ye];exact h1
   have f1:(zk != 2)=true:=by simp only [bne,f0,yi]
   clear h1 HV1 HV2 HV3 HPL HGR
   go_wp2_with fail
   refine yh (zab rfl _ _ r 78 _ (0,0) _ rfl (by exact zbM HZ2.out _ _) Tryz.underlying78 rfl (by exact zck) _ rfl) rfl ?_
   exact zfn HE.out HBX.out HRW.out _ _
  subst h1
  by_cases h2:zn<1
  ·have HE:=ya (HV1.out (.inr (.inl h2)))
   have f0:decide (zn<1)=true:=yb h2
   clear h2 HV1 HV2 HV3 HPL HGR
   go_wp2_with fail
   refine yh (zab rfl _ _ r 78 _ (0,0) _ rfl (by exact zbM HZ2.out _ _) Tryz.underlying78 rfl (by exact zck) _ rfl) rfl ?_
   exact zfn HE.out HBX.out HRW.out _ _
  have f2:decide (zn<1)=false:=yd h2
  by_cases h3:4097<zn
  ·have HE:=ya (HV1.out (.inr (.inr h3)))
   have f0:decide (4097<zn)=true:=yb h3
   clear h3 h2 HV1 HV2 HV3 HPL HGR
   go_wp2_with fail
   refine yh (zab rfl _ _ r 78 _ (0,0) _ rfl (by exact zbM HZ2.out _ _) Tryz.underlying78 rfl (by exact zck) _ rfl) rfl ?_
   exact zfn HE.out HBX.out HRW.out _ _
  have f3:decide (4097<zn)=false:=yd h3
  have hno:¬((2:Int)≠2\/zn<1\/4097<zn):=by rintro (h|h|h);exact h rfl;exact h2 h;exact h3 h
  have HG2:=ya (HGR.out _ HX2.out)
  clear HGR
  go_wp2_with fail
  refine HG2.out.mono ?_
  rintro e w3 ⟨ql,rfl,hqv,hb3⟩
  obtain ⟨qa,qc,rfl,-,-,-⟩:=hqv.len
  simp only [pvA]
  have hb3a:=hb3.alloc hb3.size (.cells #[.int .i64 qv.kind,.int .i64 qv.n,.string (mkB qv.s),.slice qa qv.l.length qc] 27)
  have HQ3:=ya (zac (w:=w3) (b:=w3.heap.size) (.cells #[.int .i64 qv.kind,.int .i64 qv.n,.string (mkB qv.s),.slice qa qv.l.length qc] 27) rfl)
  have HS3:=ya (zaa hb3a HS2.out)
  have HZ3:=ya (zaa hb3a HZ2.out)
  have HB3:=ya ((HB1.out.trans (HX2.out.mono HB1.out.size)).trans (hb3a.mono (HB1.out.trans (HX2.out.mono HB1.out.size)).size))
  have HSS:=ya (show S4<w3.heap.size/\r<w3.heap.size from ⟨Nat.lt_of_lt_of_le (zaf HS2.out) hb3.size,Nat.lt_of_lt_of_le (zaf HZ2.out) hb3.size⟩)
  clear hb3 hb3a hqv HG2 HS2 HZ2 HX2 HB1 e1 e2 e3 e4 HBX z0 z1 y0 y1 s1 s2 s3 s4
  generalize qv.kind=qk at *
  generalize qv.n=qn at *
  generalize mkB qv.s=qs at *
  generalize qv.l.length=ql2 at *
  go_upto_region 7 with fail
  generalize w3.heap.size=R4 at *
  generalize World.alloc _ _=W3 at *
  obtain ⟨⟨s1,s2,s3,s4⟩,-⟩:=zaj HS3.out
  obtain ⟨⟨q1,q2,q3,q4⟩,-⟩:=zaj HQ3.out
  obtain ⟨⟨z0,z1⟩,y0,y1⟩:=zax HZ3.out
  by_cases h8:qk=8
  case neg =>
   have HE:=ya (HV2.out hno h8)
   have f0:(qk==8)=false:=by rw [ye];exact h8
   have f1:(qk != 8)=true:=by simp only [bne,f0,yi]
   clear h8 h2 h3 hno HV1 HV2 HV3 HPL
   go_wp2_with fail
   refine yh (zab rfl _ _ r 78 _ (0,0) _ rfl (by exact zbM HZ3.out _ _) Tryz.underlying78 rfl (by exact zck) _ rfl) rfl ?_
   exact zfn HE.out HB3.out HRW.out _ _
  subst h8
  have HE:=ya (HV3.out hno (fun h=>h rfl))
  obtain ⟨M,hM⟩:∃M:Nat,zn=(M:Int)+1:=⟨(zn-1).toNat,by omega⟩
  subst hM
  have hM7:M<=4096:=by omega
  rw [show ((M:Int)+1).toNat-1=M by omega] at HE
  have HOM:=ya (show OfM 78 w (W3.alloc (.cells #[.slice none 0 0,.int .i64 qn] 78)) (W3.alloc (.cells #[.slice none 0 0,.int .i64 qn] 78)) r S4 W3.heap.size #[.int .i64 2,.int .i64 ((M:Int)+1),.string zs,.slice za zl2 zc] qn [] (.slice none 0 0) from
   ⟨zai _ HZ3.out,zai _ HS3.out,zac _ rfl,World.ownsRow_nil _ _ _ _,HB3.out.alloc HB3.out.size _,by
    have:=HSS.out;have:=HRW.out;have:=zaf HQ3.out;have:=HB3.out.size;rw [zan];omega⟩)
  clear h2 h3 hno HV1 HV2 HV3 f2 f3
  go_upto_region 11 with fail
  generalize W3.heap.size=Tb at *
  generalize World.alloc _ _=W4 at *
  clear s1 s2 s3 s4 q1 q2 q3 q4 z0 z1 y0 y1 HS3 HQ3 HZ3 HB3
  go_wp2_with fail
  go_loopw [9] (fun v9 wr=>∃(k:Nat) (v:Value),v9=.int .i64 ((k:Int)+1)/\k<=M/\Hid (OfM 78 w W4 wr r S4 Tb #[.int .i64 2,.int .i64 ((M:Int)+1),.string zs,.slice za zl2 zc] qn ((List.range k).map fun (i:Nat)=>PV1 ((i:Int)+1)) v)) (fun v _=>M+1-(intOf v).toNat)
  case atStart=>exact ⟨0,_,rfl,Nat.zero_le _,HOM⟩
  case round =>
   obtain ⟨k,v,rfl,hk,HM⟩:=hrel
   obtain ⟨sa,sc,rfl,-,-⟩:=zas HM.out.own
   simp only [List.length_map,List.length_range] at HM
   obtain ⟨⟨s1,s2,s3,s4⟩,-⟩:=zaj HM.out.siz
   obtain ⟨⟨t0,t1⟩,tf0,tf1⟩:=zax HM.out.tab
   by_cases hlt:k<M
   ·have hcd:decide ((k:Int)+1<(M:Int)+1)=true:=yb (by omega)
    have hcd2:decide ((k:Int)<(M:Int))=true:=yb (by omega)
    have hcd3:decide (k<M)=true:=yb hlt
    have HPD:=ya (HPL.out wr.drew (HM.out.bel.trans ((Below.refl _ wr).drew.mono HM.out.bel.size)) ((k:Int)+1) (by omega) (by omega))
    obtain ⟨iB,hiB,hzB,hsB,hbB⟩:=info_parts EIntT.info
    have HRG:=ya (show ((List.range (k+1)).map fun (i:Nat)=>PV1 ((i:Int)+1))=((List.range k).map fun (i:Nat)=>PV1 ((i:Int)+1))++[PV1 ((k:Int)+1)] by rw [List.range_succ,List.map_append];rfl)
    have HPN:=ya (show ((List.range k).map fun (i:Nat)=>PV1 ((i:Int)+1)).length=k by rw [List.length_map,List.length_range])
    generalize PV1 ((k:Int)+1)=pl at *
    go_wp2_with fail
    have t0d:=cell?_keep (Below.refl _ wr).drew t0
    go_region_law
     (first
      |(go_simp;go_at_call 69;refine HPD.out.mono ?_;rintro e w5 ⟨rfl,hb5⟩;have HM5:=ya (HM.out.on ((Below.refl _ wr).drew.trans hb5));have HO5:=ya (show w5.ownsRow W4.heap.size 3 1 (.slice sa k sc) k (((List.range k).map fun (i:Nat)=>PV1 ((i:Int)+1)).map (Value.int .i64)) by have h:=HM5.out.own;rwa [HPN.out] at h);obtain ⟨⟨m0,m1⟩,mf0,mf1⟩:=zax HM5.out.tab;obtain ⟨⟨n0,n1⟩,nf0,nf1⟩:=zax (zai (.cells #[.int .i64 pl] 3) HM5.out.tab))
      |(refine step_append_lies _ (by rfl) _ _ _ (by rfl) W4.heap.size 3 iB _ 1 8 EIntT.und hiB hzB hsB hbB rfl (by omega) (.slice sa k sc) k _ (by rfl) (HO5.out.alloc _) ⟨w5.heap.size,0,none⟩ 1 1 [.int .i64 pl] (by rfl) (by rfl) (World.news_of_block (cs:=#[.int .i64 pl]) (t:=3) (fr:=(0,0)) (heap_alloc_new w5 _)) (by simp [Value.oneCell']) (by omega) (by unfold maxLen;omega) (by omega) (by rw [zan];have:=HM5.out.lt;omega) (w5.heap.size+1) (by simp) ?_;intro g cap7 w7 hO7 hgrow hat hlt7;have HT7:=ya ((HM5.out.far hgrow HM5.out.lt.2.2.2.1).trans HM5.out.tab);have HM8:=ya (HM5.out.app hgrow (by rw [HPN.out];exact hO7));obtain ⟨⟨p0,p1⟩,pf0,pf1⟩:=zax HT7.out))
    all_goals (try go_wp2_with fail)
    all_goals go_roundw
    all_goals first
     | exact ⟨k+1,_,by first|rfl|(congr 1),hlt,ya (by rw [HRG.out];exact HM8.out)⟩
     |(simp [intOf];omega)
   ·obtain rfl:k=M:=by omega
    have hcd:decide ((k:Int)+1<(k:Int)+1)=false:=yd (by omega)
    have hcd2:decide ((k:Int)<(k:Int))=false:=yd (by omega)
    have hcd3:decide (k<k)=false:=yd (by omega)
    obtain ⟨⟨z0,z1⟩,y0,y1⟩:=zax HM.out.res
    have HLR:=ya HM.out.lt
    have HOW:=ya HM.out.own
    go_wp2_with fail
    refine yh (zab rfl _ _ r 78 _ (0,0) _ rfl (by exact zbM HM.out.res _ _) Tryz.underlying78 rfl (by exact zck) _ rfl) rfl ?_
    rw [HE.out]
    refine ⟨sa,sc,by simp only [List.length_map,List.length_range];rfl,?_,fun x hx=>by have h1:=(HOW.out.lt x.block (by rw [hx];rfl)).1;have h2:=HLR.out;omega,(HM.out.bel.setCell (p:=⟨r,0,none⟩) HLR.out.1 _).setCell (p:=⟨r,1,none⟩) HLR.out.1 _⟩
    have ho:=zaA (w':=(wr.setCell ⟨r,0,none⟩ (.slice sa k sc)).setCell ⟨r,1,none⟩ (.int .i64 qn)) HOW.out (fun b hb=>by
     have h1:=(HOW.out.lt b hb).1
     have h2:=HLR.out
     rw [heap_setCell_other _ _ _ _ (show b≠r by omega),heap_setCell_other _ _ _ _ (show b≠r by omega)])
    simp only [List.length_map,List.length_range] at ho |-
    exact (Row.of_own ho).2
end Go.Proofs.YtfafdeemfeaedaaGreat
namespace Go.Proofs.YtfafdeemfeaedaaGreat
def hexG (d:Nat):UInt8:=if d<10 then UInt8.ofNat (48+d) else UInt8.ofNat (87+d)
def hexB (c:UInt8):List UInt8:=[hexG (c.toNat / 16),hexG (c.toNat % 16)]
def hexF:List UInt8->List UInt8
 | []=>[]
 | c::s=>hexB c++hexF s
def zcP:List UInt8->List UInt8
 | []=>[]
 | c::s=>(if c.toNat<33\/126<c.toNat\/c=35\/isDl c=true then 35::hexB c else [c])++zcP s
def zdB (s:List UInt8):Bool:=s.all fun c=>decide (32<=c.toNat)&&decide (c.toNat<=126)
def zei:List UInt8->List UInt8
 | []=>[]
 | c::s=>(if c=40\/c=41\/c=92 then [92,c] else [c])++zei s
def textF (s:List UInt8):List UInt8:=if zdB s=true then 40::(zei s++[41]) else 60::(hexF s++[62])
mutual
def formV:PV->List UInt8
 | .mk k n s l =>
  if k=0 then [110,117,108,108]
  else if k=1 then (if n=0 then [102,97,108,115,101] else [116,114,117,101])
  else if k=2\/k=3 then (zbF k n true).1
  else if k=4 then textF s
  else if k=5 then 47::zcP s
  else if k=8 then (zbF 2 n true).1++[32,48,32,82]
  else if k=6 then 91::(rowF l++[93])
  else if k=7 then 60::60::(rowF l++[62,62])
  else []
def rowF:List PV->List UInt8
 | []=>[]
 | x::l=>formV x++moreF l
def moreF:List PV->List UInt8
 | []=>[]
 | x::l=>32::(formV x++moreF l)
end
def zfl (g:Grp):Bool:=decide (0<=g.first)&&decide (g.first<=4097)&&decide ((g.es.length:Int)<=4097-g.first)&&g.es.all zce
def zd5 (s:Sec):Int:=if 64<s.gs.length\/s.tr.kind≠7 then 2 else if s.gs.all zfl=false then 2 else zcl s.tr
end Go.Proofs.YtfafdeemfeaedaaGreat
namespace Go.Proofs.YtfafdeemfeaedaaGreat
open Go.RowKit
def chF (c:UInt8):List UInt8:=if c.toNat<33\/126<c.toNat\/c=35\/isDl c=true then 35::hexB c else [c]
theorem zfw:∀ {l:List UInt8} {k:Nat} {c:UInt8},l[k]?=some c->zcP (l.take (k+1))=zcP (l.take k)++chF c
 | [],_,_,h=>by cases h
 | x::l,0,c,h=>by
  have e:x=c:=by simpa using h
  subst e
  simp [zcP,chF]
 | x::l,k+1,c,h=>by
  have:=zfw (l:=l) (k:=k) (c:=c) (by simpa using h)
  simp only [List.take_succ_cons,zcP,this,List.append_assoc]
theorem zc5:∀l:List UInt8,(zcP l).length<=3*l.length
 | []=>ym _
 | c::l=>by
  have:=zc5 l
  simp only [zcP,List.length_append,List.length_cons]
  split
  ·simp [hexB];omega
  ·simp;omega
theorem hexF_take:∀ {l:List UInt8} {k:Nat} {c:UInt8},l[k]?=some c->hexF (l.take (k+1))=hexF (l.take k)++hexB c
 | [],_,_,h=>by cases h
 | x::l,0,c,h=>by
  have e:x=c:=by simpa using h
  subst e
  simp [hexF]
 | x::l,k+1,c,h=>by
  have:=hexF_take (l:=l) (k:=k) (c:=c) (by simpa using h)
  simp only [List.take_succ_cons,hexF,this,List.append_assoc]
theorem zgN:∀l:List UInt8,(hexF l).length=2*l.length
 | []=>rfl
 | c::l=>by have:=zgN l;simp [hexF,hexB,this];omega
def brF (c:UInt8):List UInt8:=if c=40\/c=41\/c=92 then [92,c] else [c]
theorem zfI:∀ {l:List UInt8} {k:Nat} {c:UInt8},l[k]?=some c->zei (l.take (k+1))=zei (l.take k)++brF c
 | [],_,_,h=>by cases h
 | x::l,0,c,h=>by
  have e:x=c:=by simpa using h
  subst e
  simp [zei,brF]
 | x::l,k+1,c,h=>by
  have:=zfI (l:=l) (k:=k) (c:=c) (by simpa using h)
  simp only [List.take_succ_cons,zei,this,List.append_assoc]
theorem zeM:∀l:List UInt8,(zei l).length<=2*l.length
 | []=>ym _
 | c::l=>by
  have:=zeM l
  simp only [zei,List.length_append,List.length_cons]
  split<;>(simp;omega)
theorem at_mkB {s:List UInt8} {k:Nat} (h:k<s.length) (h2:k<(mkB s).size):((mkB s)[k]'h2).toNat=(s[k]'h).toNat:=rfl
theorem eq35 {c:UInt8}:c=35↔c.toNat=35:=by constructor<;>intro h;(subst h;rfl);(exact UInt8.toNat_inj.1 h)
theorem eqn {c:UInt8} (d:UInt8):c=d↔c.toNat=d.toNat:=⟨fun h=>by rw [h],fun h=>UInt8.toNat_inj.1 h⟩
theorem readF_take {l:List UInt8} {k:Nat} {c:UInt8} (h:l[k]?=some c):zdB (l.take (k+1))=(zdB (l.take k)&&(decide (32<=c.toNat)&&decide (c.toNat<=126))):=by
 unfold zdB
 rw [List.take_add_one,h,List.all_append]
 simp
theorem zfa (v:PV):zaX v=if ownC v≠0 then ownC v else if v.kind=6\/v.kind=7 then zdd v.l else 0:=by obtain ⟨k,n,s,l⟩:=v;simp only [zaX];rfl
def showV (v:PV):List UInt8×Int:=if zcl v≠0 then ([],zcl v) else (formV v,0)
def zdn (k n:Int) (bare:Bool) (w:World) (e:Ending) (w':World):Prop:=e=.returned (.tuple #[.string (mkS (zbF k n bare).1),.int .i64 (zbF k n bare).2])/\Below w.heap.size w w'
theorem printV_bad {k n:Int} {b:Bool} (h:zaI k n b=2):zbF k n b=([],2):=by unfold zbF;rw [yg (by omega)]
theorem printV_ok {k n:Int} {b:Bool} (h:zaI k n b=0):zbF k n b=(zef n++absL k n.natAbs,0):=by unfold zbF;rw [yf h]
theorem checkV_is (k n:Int) (b:Bool):zaI k n b=0\/zaI k n b=2:=by unfold zaI;split<;>simp
theorem pad6_len (A:Nat):(padL (A % 1000000) 6).length=6:=zeo (zbd 5 (A % 1000000) (by omega))
theorem trimF_one (a:UInt8):zbk [a]=[a]:=by simp [zbk,zfk]
theorem trimF_snoc (a:UInt8) (g:List UInt8):zbk (a::(g++[48]))=zbk (a::g):=by unfold zbk;simp [zfH]
theorem trimF_stop (a c:UInt8) (g:List UInt8) (h:c≠48):zbk (a::(g++[c]))=a::(g++[c]):=by unfold zbk;simp [zfY _ _ h]
theorem zfF (t:List UInt8) (ht:1<=t.length):zbk (t++[48])=zbk t:=by
 cases t with
 | nil=>simp at ht
 | cons a g=>exact trimF_snoc a g
theorem zfv (t:List UInt8) (c:UInt8) (ht:1<=t.length) (hc:c≠48):zbk (t++[c])=t++[c]:=by
 cases t with
 | nil=>simp at ht
 | cons a g=>exact trimF_stop a c g hc
theorem zdJ (k n:Int) (s:ByteArray) (a:Option Addr) (m c:Nat) (w:World) (hm:(m:Int)<=9223372036854775807) :
  Calls Tryz.prog 89 #[.agg #[.int .i64 k,.int .i64 n,.string s,.slice a m c]] w (zdn k n (zbn s m) w):=by
 obtain ⟨V,hV⟩:∃V,V=zbF k n (zbn s m):=⟨_,rfl⟩
 unfold zdn
 rw [<-hV]
 have HV:=ya hV
 have HC:=ya (fun W=>zdz k n s a m c W hm)
 have HBX:=ya (show (w.alloc (.cells #[.int .i64 k,.int .i64 n,.string s,.slice a m c] 27)).heap[w.heap.size]?=some (.cells #[.int .i64 k,.int .i64 n,.string s,.slice a m c] 27 (0,0)) from zac _ rfl)
 have HB0:=ya (zag w (.cells #[.int .i64 k,.int .i64 n,.string s,.slice a m c] 27))
 clear hV hm
 rcases checkV_is k n (zbn s m) with hc|hc
 case inr =>
  have HE:=ya (show V=([],2) by rw [HV.out];exact printV_bad hc)
  rw [hc] at HC
  clear hc
  go_enter Tryz.func89,Tryz.ntmps89
  go_wp2_with (go_at_call 131;refine (HC.out _).mono ?_;rintro e w' ⟨rfl,hb⟩)
  go_ret2
  exact ⟨by rw [HE.out];rfl,HB0.out.trans (hb.mono HB0.out.size)⟩
 have HE:=ya (show V=(zef n++absL k n.natAbs,0) by rw [HV.out];exact printV_ok hc)
 obtain ⟨-,hkn⟩:=zd4 hc
 rw [hc] at HC
 clear hc
 obtain ⟨A,hA⟩:∃A:Nat,A=n.natAbs:=⟨_,rfl⟩
 rw [<-hA] at HE
 have hAb:A<=2147483647000000:=by omega
 have hT:=fun W=>zdt A 1 W (by omega) (by omega) (by omega)
 have hT2:=fun W=>zdt (A / 1000000) 1 W (by omega) (by omega) (by omega)
 have hT3:=fun W=>zdt (A % 1000000) 6 W (by omega) (by omega) (by omega)
 rw [show padL A (1:Int).toNat=decL A from zcG (zb7 A).2.2] at hT
 rw [show padL (A / 1000000) (1:Int).toNat=decL (A / 1000000) from zcG (zb7 _).2.2] at hT2
 rw [show (6:Int).toNat=6 from rfl] at hT3
 have HT:=ya hT
 have HT2:=ya hT2
 have HT3:=ya hT3
 clear hT hT2 hT3
 have hTs:(mkS (decL A)).size<=20:=by rw [zbr];exact zbd 19 A (by omega)
 have hTs2:(mkS (decL (A / 1000000))).size<=20:=by rw [zbr];exact zbd 19 _ (by omega)
 obtain ⟨sg,hsg⟩:∃sg:ByteArray,sg=if n<0 then ⟨#[45]⟩ else ⟨#[]⟩:=⟨_,rfl⟩
 have HSG:=ya (show bl sg=zef n by rw [hsg];unfold zef;split<;>rfl)
 rcases hkn with ⟨rfl,hn1,hn2⟩|⟨rfl,hn1,hn2⟩
 ·have HE2:=ya (show V=(zef n++decL A,0) by rw [HE.out];rfl)
  have HR:=ya (show sg++mkS (decL A)=mkS (zef n++decL A) by apply mkS_ext;rw [zfq,zft,zft,HSG.out])
  by_cases hn:n<0
  ·have hAn:-n=(A:Int):=by omega
   rw [yf hn] at hsg
   subst hsg
   clear hA
   generalize mkS (decL A)=T at *
   go_enter Tryz.func89,Tryz.ntmps89
   go_wp2_with fail
   refine (HC.out _).mono ?_
   rintro e w1 ⟨rfl,hb1⟩
   have HK1:=ya (zaa hb1 HBX.out)
   have HB1:=yl HB0 hb1
   obtain ⟨⟨k0,k1,k2,k3⟩,-⟩:=zaj HK1.out
   clear hb1
   go_wp2_with (go_at_call 132;refine (HT.out _).mono ?_;rintro e w' ⟨rfl,rfl⟩)
   go_ret2
   exact ⟨zcF (by rw [HE2.out];exact HR.out) (by rw [HE2.out]),HB1.out⟩
  ·obtain rfl:n=(A:Int):=by omega
   rw [yg hn] at hsg
   subst hsg
   clear hA hn
   generalize mkS (decL A)=T at *
   go_enter Tryz.func89,Tryz.ntmps89
   go_wp2_with fail
   refine (HC.out _).mono ?_
   rintro e w1 ⟨rfl,hb1⟩
   have HK1:=ya (zaa hb1 HBX.out)
   have HB1:=yl HB0 hb1
   obtain ⟨⟨k0,k1,k2,k3⟩,-⟩:=zaj HK1.out
   clear hb1
   go_wp2_with (go_at_call 132;refine (HT.out _).mono ?_;rintro e w' ⟨rfl,rfl⟩)
   go_ret2
   exact ⟨zcF (by rw [HE2.out];exact HR.out) (by rw [HE2.out]),HB1.out⟩
 ·have HE2:=ya (show V=(zef n++(decL (A / 1000000)++46::zbk (padL (A % 1000000) 6)),0) by rw [HE.out];rfl)
  have hFs:(mkS (padL (A % 1000000) 6)).size=6:=by rw [zbr];exact pad6_len A
  have HR:=ya (show ∀F:ByteArray,bl F=zbk (padL (A % 1000000) 6)->sg++mkS (decL (A / 1000000))++⟨#[46]⟩++F=mkS (zef n++(decL (A / 1000000)++46::zbk (padL (A % 1000000) 6))) from fun F hF=>by
    apply mkS_ext
    simp only [zfq,zft,HSG.out,hF]
    simp [bl])
  obtain ⟨f,hf⟩:∃f,f=zbk (padL (A % 1000000) 6):=⟨_,rfl⟩
  have HF:=ya (show f=zbk (bl (mkS (padL (A % 1000000) 6))) from hf)
  rw [<-hf] at HR HE2
  clear hf
  by_cases hn:n<0
  ·have hAn:-n=(A:Int):=by omega
   rw [yf hn] at hsg
   subst hsg
   clear hA
   generalize mkS (decL (A / 1000000))=T at *
   generalize mkS (padL (A % 1000000) 6)=F at *
   go_enter Tryz.func89,Tryz.ntmps89
   go_wp2_with fail
   refine (HC.out _).mono ?_
   rintro e w1 ⟨rfl,hb1⟩
   have HK1:=ya (zaa hb1 HBX.out)
   have HB1:=yl HB0 hb1
   obtain ⟨⟨k0,k1,k2,k3⟩,-⟩:=zaj HK1.out
   clear hb1
   go_wp2_with fail
   refine (HT3.out _).mono ?_
   rintro e w2 ⟨rfl,rfl⟩
   go_wp2
   go_loop [6,7] (fun v i=>∃(j:Nat) (G:ByteArray),j<=5/\v=.string G/\i=.int .i64 j/\G.size=6-j/\Hid (f=zbk (bl G))) (fun _ i=>5-(intOf i).toNat)
   case atStart=>exact ⟨0,F,by omega,rfl,rfl,hFs,HF⟩
   case round =>
    obtain ⟨j,G,hj,rfl,rfl,hGs,HG⟩:=hrel
    by_cases hj5:j<5
    ·have hj5d:decide ((j:Int)<5)=true:=by simp;omega
     obtain ⟨q,hq⟩:∃q,6-j=q+1:=⟨5-j,by omega⟩
     have hq1:1<=q:=by omega
     have hq5:q<=5:=by omega
     have hgb:=PlainAid.get_bt G
     rw [hq] at hGs
     have hlt:q<G.size:=by omega
     have hx:(G[q].toNat:Int)=PlainAid.bt G q:=hgb q hlt
     have hl:1<=((bl G).take q).length:=by rw [List.length_take,zaM];omega
     have hsp:=zdQ G q hlt
     rw [List.take_of_length_le (by rw [zaM];omega)] at hsp
     have HL:=ya hl
     have HSP:=ya hsp
     have HX:=ya hx
     have HQ:=ya hq
     clear hl hsp hx hq
     by_cases h48:PlainAid.bt G q=48
     ·have h48d:(PlainAid.bt G q==48)=true:=by rw [beq_iff_eq];exact h48
      have HN:=ya (show f=zbk (bl (G.extract 0 q)) by
       have hc:G[q]=48:=UInt8.toNat_inj.1 (Int.ofNat_inj.1 (HX.out.trans h48))
       have h1:=HSP.out
       rw [hc] at h1
       have h2:=zfF _ HL.out
       rw [<-h1] at h2
       rw [HG.out,bl_to,h2])
      clear h48
      go_wp2
      go_round
      case rel=>exact ⟨j+1,_,by omega,rfl,by go_num,by have:=HQ.out;rw [ByteArray.size_extract];omega,HN⟩
      case measure=>simp [intOf];omega
     ·have h48d:(PlainAid.bt G q==48)=false:=by rw [ye];exact h48
      have HN:=ya (show bl G=f by
       have hc:G[q]≠48:=fun e=>h48 (by rw [<-HX.out,e];rfl)
       have h2:=zfv _ _ HL.out hc
       rw [<-HSP.out] at h2
       rw [HG.out,h2])
      have HRF:=ya (HR.out G HN.out)
      clear h48
      go_wp2_with (go_at_call 132;refine (HT2.out _).mono ?_;rintro e w' ⟨rfl,rfl⟩)
      go_ret2
      exact ⟨zcF (by rw [HE2.out];exact HRF.out) (by rw [HE2.out]),HB1.out⟩
    ·obtain rfl:j=5:=by omega
     have HN:=ya (show bl G=f by
      rw [HG.out]
      have hl1:(bl G).length=1:=by rw [zaM,hGs]
      obtain ⟨a,ha⟩:=List.length_eq_one_iff.1 hl1
      rw [ha,trimF_one])
     have HRF:=ya (HR.out G HN.out)
     go_wp2_with (go_at_call 132;refine (HT2.out _).mono ?_;rintro e w' ⟨rfl,rfl⟩)
     go_ret2
     exact ⟨zcF (by rw [HE2.out];exact HRF.out) (by rw [HE2.out]),HB1.out⟩
  ·obtain rfl:n=(A:Int):=by omega
   rw [yg hn] at hsg
   subst hsg
   clear hA hn
   generalize mkS (decL (A / 1000000))=T at *
   generalize mkS (padL (A % 1000000) 6)=F at *
   go_enter Tryz.func89,Tryz.ntmps89
   go_wp2_with fail
   refine (HC.out _).mono ?_
   rintro e w1 ⟨rfl,hb1⟩
   have HK1:=ya (zaa hb1 HBX.out)
   have HB1:=yl HB0 hb1
   obtain ⟨⟨k0,k1,k2,k3⟩,-⟩:=zaj HK1.out
   clear hb1
   go_wp2_with fail
   refine (HT3.out _).mono ?_
   rintro e w2 ⟨rfl,rfl⟩
   go_wp2
   go_loop [6,7] (fun v i=>∃(j:Nat) (G:ByteArray),j<=5/\v=.string G/\i=.int .i64 j/\G.size=6-j/\Hid (f=zbk (bl G))) (fun _ i=>5-(intOf i).toNat)
   case atStart=>exact ⟨0,F,by omega,rfl,rfl,hFs,HF⟩
   case round =>
    obtain ⟨j,G,hj,rfl,rfl,hGs,HG⟩:=hrel
    by_cases hj5:j<5
    ·have hj5d:decide ((j:Int)<5)=true:=by simp;omega
     obtain ⟨q,hq⟩:∃q,6-j=q+1:=⟨5-j,by omega⟩
     have hq1:1<=q:=by omega
     have hq5:q<=5:=by omega
     have hgb:=PlainAid.get_bt G
     rw [hq] at hGs
     have hlt:q<G.size:=by omega
     have hx:(G[q].toNat:Int)=PlainAid.bt G q:=hgb q hlt
     have hl:1<=((bl G).take q).length:=by rw [List.length_take,zaM];omega
     have hsp:=zdQ G q hlt
     rw [List.take_of_length_le (by rw [zaM];omega)] at hsp
     have HL:=ya hl
     have HSP:=ya hsp
     have HX:=ya hx
     have HQ:=ya hq
     clear hl hsp hx hq
     by_cases h48:PlainAid.bt G q=48
     ·have h48d:(PlainAid.bt G q==48)=true:=by rw [beq_iff_eq];exact h48
      have HN:=ya (show f=zbk (bl (G.extract 0 q)) by
       have hc:G[q]=48:=UInt8.toNat_inj.1 (Int.ofNat_inj.1 (HX.out.trans h48))
       have h1:=HSP.out
       rw [hc] at h1
       have h2:=zfF _ HL.out
       rw [<-h1] at h2
       rw [HG.out,bl_to,h2])
      clear h48
      go_wp2
      go_round
      case rel=>exact ⟨j+1,_,by omega,rfl,by go_num,by have:=HQ.out;rw [ByteArray.size_extract];omega,HN⟩
      case measure=>simp [intOf];omega
     ·have h48d:(PlainAid.bt G q==48)=false:=by rw [ye];exact h48
      have HN:=ya (show bl G=f by
       have hc:G[q]≠48:=fun e=>h48 (by rw [<-HX.out,e];rfl)
       have h2:=zfv _ _ HL.out hc
       rw [<-HSP.out] at h2
       rw [HG.out,h2])
      have HRF:=ya (HR.out G HN.out)
      clear h48
      go_wp2_with (go_at_call 132;refine (HT2.out _).mono ?_;rintro e w' ⟨rfl,rfl⟩)
      go_ret2
      exact ⟨zcF (by rw [HE2.out];exact HRF.out) (by rw [HE2.out]),HB1.out⟩
    ·obtain rfl:j=5:=by omega
     have HN:=ya (show bl G=f by
      rw [HG.out]
      have hl1:(bl G).length=1:=by rw [zaM,hGs]
      obtain ⟨a,ha⟩:=List.length_eq_one_iff.1 hl1
      rw [ha,trimF_one])
     have HRF:=ya (HR.out G HN.out)
     go_wp2_with (go_at_call 132;refine (HT2.out _).mono ?_;rintro e w' ⟨rfl,rfl⟩)
     go_ret2
     exact ⟨zcF (by rw [HE2.out];exact HRF.out) (by rw [HE2.out]),HB1.out⟩
theorem depthL_takeS {l:List PV} {k:Nat} {x:PV} (hx:l[k]?=some x):zbc (l.take (k+1))=max (zbc (l.take k)) (zaJ x):=by
 induction l generalizing k with
 | nil=>cases hx
 | cons y l ih =>
  cases k with
  | zero =>
   have:y=x:=by simpa using hx
   subst this
   simp [zbc]
  | succ k =>
   rw [List.take_succ_cons,List.take_succ_cons]
   simp only [zbc]
   rw [ih (by simpa using hx)];omega
theorem ze4 {x:PV}:∀(l:List PV) (k:Nat),l[k]?=some x->zaJ x<=zbc l
 | [],k,h=>by cases h
 | y::l,0,h=>by
  have:y=x:=by simpa using h
  subst this
  simp only [zbc];omega
 | y::l,k+1,h=>by
  have:=ze4 l k (by simpa using h)
  simp only [zbc];omega
theorem depthV_is (v:PV):zaJ v=if v.kind=6\/v.kind=7 then 1+zbc v.l else 1:=by obtain ⟨_,_,_,_⟩:=v;rfl
theorem eqBs (a b:List UInt8):((mkB a).toList==b)=decide (a=b):=by
 rw [zal];by_cases h:a=b<;>simp [h]
theorem evenN_getS {l:List PV} (h:zby l=true) {k:Nat} {x:PV} (hx:l[k*2]?=some x):x.kind=5:=by
 induction k generalizing l with
 | zero =>
  match l,h with
  | [a],h=>
   have e:a=x:=by simpa using hx
   subst e
   simpa [zby] using h
  | a::b::l,h=>
   have e:a=x:=by simpa using hx
   subst e
   simp [zby] at h
   exact h.1
  | [],_=>simp at hx
 | succ k ih =>
  match l,h with
  | [],_=>simp at hx
  | [a],_=>simp at hx
  | a::b::l,h=>exact ih (l:=l) (by simp [zby] at h;exact h.2) (by rw [show (k+1)*2=k*2+2 by omega] at hx;simpa using hx)
theorem evenN_of:∀(l:List PV),(∀k x,l[k*2]?=some x->x.kind=5)->zby l=true
 | [],_=>rfl
 | [a],h=>by have:=h 0 a rfl;simp [zby,this]
 | a::b::l,h=>by
  have h1:=h 0 a rfl
  have h2:=evenN_of l (fun k x hx=>h (k+1) x (by rw [show (k+1)*2=k*2+2 by omega];simpa using hx))
  simp [zby,h1,h2]
theorem asc_getS {l:List PV} (h:ascV (twoV l)=true) (he:l.length % 2=0) {k:Nat} {x y:PV} (hx:l[k*2]?=some x) (hy:l[k*2+2]?=some y):sLt x.s y.s=true:=by
 induction k generalizing l with
 | zero =>
  match l,h with
  | [],_=>cases hx
  | [a],_=>cases hy
  | [a,b],_=>cases hy
  | [a,b,c],_=>simp at he
  | a::b::c::d::l,h =>
   have e1:a=x:=by simpa using hx
   have e2:c=y:=by simpa using hy
   subst e1 e2
   simp [twoV,ascV] at h
   exact h.1
 | succ k ih =>
  match l,h with
  | [],_=>cases hx
  | [a],_=>simp at he
  | a::b::l,h =>
   refine ih (l:=l) ?_ (by simp at he;omega) (by rw [show (k+1)*2=k*2+2 by omega] at hx;simpa using hx) (by rw [show (k+1)*2+2=(k*2+2)+2 by omega] at hy;simpa using hy)
   match l,h with
   | [],_=>rfl
   | [c],_=>rfl
   | c::d::l,h=>simp [twoV,ascV] at h |-;exact h.2
theorem asc_ofS:∀(l:List PV),(∀k x y,l[k*2]?=some x->l[k*2+2]?=some y->sLt x.s y.s=true)->ascV (twoV l)=true
 | [],_=>rfl
 | [a],_=>rfl
 | [a,b],_=>rfl
 | [a,b,c],_=>rfl
 | a::b::c::d::l,h=>by
  have h1:=h 0 a c rfl rfl
  have h2:=asc_ofS (c::d::l) (fun k x y hx hy=>h (k+1) x y (by rw [show (k+1)*2=k*2+2 by omega];simpa using hx) (by rw [show (k+1)*2+2=(k*2+2)+2 by omega];simpa using hy))
  simp [twoV,ascV] at h2 |-
  exact ⟨h1,h2⟩
def dictC (l:List PV):Int:=if l.length % 2≠0 then 2 else if zby l=false then 2 else if ascV (twoV l)=true then 0 else 16
theorem bare_mkB (s:List UInt8) (l:List PV):zbn (mkB s) l.length=decide (s=[]/\l=[]):=by
 show (decide (s=[])&&decide (l.length=0))=_
 cases s<;>cases l<;>simp
theorem own_numS {k n:Int} {s:List UInt8} {l:List PV}:zaI k n (zbn (mkB s) l.length)=if s=[]/\l=[] then zaI k n true else 2:=by
 rw [bare_mkB]
 by_cases h:s=[]/\l=[]
 ·rw [yf h,yb h]
 ·rw [yg h,yd h];unfold zaI;rw [yg (by simp)]
theorem ext_sg:∀(k:Nat),k<16->(⟨#[48,49,50,51,52,53,54,55,56,57,97,98,99,100,101,102]⟩:ByteArray).extract k (k+1)=mkB [hexG k]:=by
 have:∀d:Fin 16,(⟨#[48,49,50,51,52,53,54,55,56,57,97,98,99,100,101,102]⟩:ByteArray).extract d.1 (d.1+1)=mkB [hexG d.1]:=by decide
 exact fun k h=>this ⟨k,h⟩
theorem zbX (a b:List UInt8):mkB a++mkB b=mkB (a++b):=ByteArray.mk_append_mk a b
theorem rhex13 (c:UInt8) (w:World):Calls Tryz.prog 133 #[.int .u8 c.toNat] w fun e w'=>e=.returned (.string (mkB (hexB c)))/\∃q,w'=w.drewN q:=by
 have hx:mkB (hexB c)=(⟨#[48,49,50,51,52,53,54,55,56,57,97,98,99,100,101,102]⟩:ByteArray).extract (c.toNat / 16) (c.toNat / 16+1)++(⟨#[48,49,50,51,52,53,54,55,56,57,97,98,99,100,101,102]⟩:ByteArray).extract (c.toNat % 16) (c.toNat % 16+1):=by
  have h:=c.toNat_lt
  rw [ext_sg _ (by omega),ext_sg _ (by omega),zbX];rfl
 have hc:=c.toNat_lt
 generalize mkB (hexB c)=R at *
 have HX:=ya hx
 clear hx
 generalize c.toNat=n at *
 have h1:n / 16<16:=by omega
 have h2:n % 16<16:=by omega
 have h3:(n:Int) / 16<16:=by omega
 have h4:(n:Int) % 16<16:=by omega
 have h5:(0:Int)<=(n:Int) / 16:=by omega
 have h6:(0:Int)<=(n:Int) % 16:=by omega
 go_enter Tryz.func133,Tryz.ntmps133
 go_wp2
 go_quiet (fail)
 go_wp2
 go_ret
 exact ⟨by rw [HX.out];rfl,_,rfl⟩
def zeW (s:List UInt8):Bool:=!(decide (127<s.length)||decide ((0:UInt8)∈s))
theorem rtext11 (s:List UInt8) (w:World) (hl:s.length<=288230376151711744) :
  Calls Tryz.prog 134 #[.string (mkB s)] w fun e w'=>e=.returned (.bool (zeW s))/\w=w':=by
 have hsz:(mkB s).size=s.length:=zaE s
 have hszi:((mkB s).size:Int)=s.length:=by rw [hsz]
 obtain ⟨R,hR⟩:∃R,R=zeW s:=⟨_,rfl⟩
 rw [<-hR]
 unfold zeW at hR
 have HR:=ya hR
 clear hR
 go_enter Tryz.func134,Tryz.ntmps134
 go_wp2
 go_loopw [3] (fun vk wr=>∃k:Nat,vk=.int .i64 k/\k<=s.length/\wr=w/\Hid ((0:UInt8)∉s.take k)) (fun vk _=>s.length-(intOf vk).toNat)
 case atStart=>exact ⟨0,rfl,Nat.zero_le _,rfl,ya (by simp)⟩
 case round =>
  obtain ⟨k,rfl,hk,hwr,HG⟩:=hrel
  rw [hwr]
  clear hwr
  by_cases q1:k<s.length
  case neg =>
   have hd1:decide (k<s.length)=false:=yd q1
   have hd2:decide ((k:Int)<(s.length:Int))=false:=yd (by omega)
   have hq2:¬(k:Int)<(s.length:Int):=by omega
   have hg:=HG.out
   rw [List.take_of_length_le (by omega)] at hg
   have hr:=HR.out
   rw [yd hg,Bool.or_false] at hr
   by_cases h127:127<s.length
   ·have b1:decide (s.length<=127)=false:=yd (by omega)
    have b2:decide ((s.length:Int)<=127)=false:=yd (by omega)
    rw [yb h127] at hr
    obtain rfl:R=false:=hr
    clear HR HG hg
    go_wp2
    go_ret
    exact ⟨rfl,rfl⟩
   ·have b1:decide (s.length<=127)=true:=yb (by omega)
    have b2:decide ((s.length:Int)<=127)=true:=yb (by omega)
    rw [yd h127] at hr
    obtain rfl:R=true:=hr
    clear HR HG hg
    go_wp2
    go_ret
    exact ⟨rfl,rfl⟩
  have hd1:decide (k<s.length)=true:=yb q1
  have hd2:decide ((k:Int)<(s.length:Int))=true:=yb (by omega)
  have hk0:(0:Int)<=(k:Int):=by omega
  have hk1:(k:Int)<(s.length:Int):=by omega
  have hk2:k<(mkB s).size:=by omega
  obtain ⟨c,hc⟩:∃c,c=s[k]'q1:=⟨_,rfl⟩
  have hcs:s[k]?=some c:=by rw [hc];exact List.getElem?_eq_getElem q1
  obtain ⟨n,hn⟩:∃n,n=c.toNat:=⟨_,rfl⟩
  have hat:((mkB s)[k]'hk2).toNat=n:=by rw [hn,hc];exact at_mkB q1 hk2
  by_cases h0:n=0
  ·have b1:(n==0)=true:=by rw [h0];rfl
   have b2:((n:Int)==0)=true:=by rw [h0];rfl
   have hc0:c=0:=UInt8.toNat_inj.1 (by rw [<-hn,h0];rfl)
   have hr:=HR.out
   rw [yb (show (0:UInt8)∈s by rw [<-hc0];exact List.mem_of_getElem? hcs),Bool.or_true] at hr
   obtain rfl:R=false:=hr
   clear HR HG hc0 hcs hc hn h0
   go_wp2
   go_ret
   exact ⟨rfl,rfl⟩
  ·have b1:(n==0)=false:=by rw [ye];exact h0
   have b2:((n:Int)==0)=false:=by rw [ye];omega
   have HG2:=ya (show (0:UInt8)∉s.take (k+1) by
    rw [List.take_add_one,hcs]
    intro hm
    rcases List.mem_append.1 hm with hm|hm
    ·exact HG.out hm
    ·simp at hm
     exact h0 (by rw [hn,<-hm];rfl))
   clear HG hcs hc hn h0
   go_wp2
   go_roundw
   case rel=>exact ⟨k+1,by go_num,by omega,trivial,HG2⟩
   case measure=>simp [intOf];omega
theorem rdict_any {v:PV} {sl:Value} {w:World} (hv:IsV w anyF v sl) (hn:v.n=0) (hs:v.s=[]) :
  Calls Tryz.prog 169 #[pvA v sl] w fun e w'=>e=.returned (.int .i64 (dictC v.l))/\Below w.heap.size w w':=by
 obtain ⟨a1,cap1,e1,g1,g2,g3⟩:=hv.len
 subst e1
 have HA:=ya hv
 have m1:(v.l.length:Int)<=9223372036854775807:=by unfold maxLen at g2;omega
 unfold pvA
 clear hv g2 g3
 obtain ⟨la,hla⟩:∃la,la=v.l:=⟨_,rfl⟩
 have HLA:=ya hla
 rw [<-hla] at m1 g1 HA |-
 clear hla
 obtain ⟨R,hR⟩:∃R,R=dictC la:=⟨_,rfl⟩
 rw [<-hR]
 unfold dictC at hR
 have HR:=ya hR
 clear hR
 rw [hn,hs,show mkB []=⟨#[]⟩ from rfl]
 clear hn hs
 generalize v.kind=k0 at *
 go_enter Tryz.func169,Tryz.ntmps169
 obtain ⟨B,hB⟩:∃B,B=w.heap.size:=⟨_,rfl⟩
 have HX1:=ya (zac (w:=w) (b:=B) (.cells #[.int .i64 k0,.int .i64 0,.string ⟨#[]⟩,.slice a1 la.length cap1] 27) hB)
 have HW:=ya (zag w (.cells #[.int .i64 k0,.int .i64 0,.string ⟨#[]⟩,.slice a1 la.length cap1] 27))
 go_upto_region 1 with fail
 rw [<-hB]
 clear hB
 generalize w.alloc _=W1 at *
 obtain ⟨⟨c0,c1,c2,c3⟩,-⟩:=zaj HX1.out
 by_cases he:la.length % 2=0
 case neg =>
  have he1:((la.length:Int) % 2==1)=true:=by rw [beq_iff_eq];omega
  have he2:((la.length:Int) % 2==0)=false:=by rw [ye];omega
  have he3:((la.length:Int) % 2 != 0)=true:=by simp only [bne,he2,yi]
  have hr:=HR.out
  rw [yf he] at hr
  subst hr
  clear HR HA he
  go_wp2
  go_ret
  exact ⟨rfl,HW.out⟩
 have he1:((la.length:Int) % 2==1)=false:=by rw [ye];omega
 have he2:((la.length:Int) % 2==0)=true:=by rw [beq_iff_eq];omega
 have he3:((la.length:Int) % 2 != 0)=false:=by simp only [bne,he2,Bool.not_true]
 have HE:=ya he
 have hr:=HR.out
 rw [yg (by omega)] at hr
 clear HR
 have HR:=ya hr
 clear hr he
 go_wp2
 clear he1 he2 he3
 go_loopw [3] (fun vk wr=>∃j K:Nat,vk=.int .i64 (K:Int)/\Hid (K=j*2)/\K<=la.length/\wr=W1/\Hid (∀i x,i<j->la[i*2]?=some x->x.kind=5)) (fun vk _=>la.length+2-(intOf vk).toNat)
 case atStart=>exact ⟨0,0,rfl,rfl,by omega,rfl,ya fun i x h=>absurd h (Nat.not_lt_zero _)⟩
 case round =>
  obtain ⟨j,k,rfl,HK,hj,hwr,HG⟩:=hrel
  rw [hwr]
  clear hwr
  have hke:k<la.length->k+2<=la.length:=fun h=>by have h1:=HK.out;have h2:=HE.out;omega
  by_cases q1:k<la.length
  case pos =>
   obtain ⟨x,hx⟩:∃x,la[k]?=some x:=⟨_,List.getElem?_eq_getElem q1⟩
   obtain ⟨-,-,-,b1,o1,rfl,-,-,hax⟩:=(HA.out.below HW.out).at (by omega)
   rw [<-HLA.out] at hax
   obtain ⟨sx,-,x0,-⟩:=hax k x hx
   have hkl:(0:Int)<=(k:Int):=by omega
   have hki:(k:Int)<(la.length:Int):=by omega
   have hd1:decide (k<la.length)=true:=yb q1
   have hd2:decide ((k:Int)<(la.length:Int))=true:=yb hki
   have hk2:=hke q1
   clear hke
   by_cases h5:x.kind=5
   ·rw [h5] at x0
    have HG2:=ya (show ∀i y,i<j+1->la[i*2]?=some y->y.kind=5 from fun i y hi hy=>by
     by_cases e:i=j
     ·subst e
      have h1:=HK.out
      rw [<-h1,hx] at hy
      cases hy
      exact h5
     ·exact HG.out i y (by omega) hy)
    clear hax hx h5 HG
    go_wp2
    go_roundw
    case rel=>exact ⟨j+1,k+2,by go_num,by have:=HK.out;show k+2=(j+1)*2;omega,hk2,trivial,HG2⟩
    case measure=>simp [intOf];omega
   ·have h51:(x.kind==5)=false:=by rw [ye];exact h5
    have h52:(x.kind != 5)=true:=by simp only [bne,h51,yi]
    have hev:zby la=false:=by
     cases hq:zby la with
     | false=>rfl
     | true=>exact absurd (evenN_getS hq (k:=j) (by rw [<-HK.out];exact hx)) h5
    have hr:=HR.out
    rw [yf hev] at hr
    subst hr
    generalize x.kind=xk at *
    clear hax hx h5 HG HR HA hev HK HE
    go_wp2
    go_ret
    exact ⟨rfl,HW.out⟩
  have hd1:decide (k<la.length)=false:=yd q1
  have hd2:decide ((k:Int)<(la.length:Int))=false:=yd (by omega)
  have hq2:¬(k:Int)<(la.length:Int):=by omega
  have hev:zby la=true:=evenN_of la fun i x hx=>HG.out i x (by
   have h1:=HK.out
   have h2:=(List.getElem?_eq_some_iff.1 hx).1
   omega) hx
  have hr:=HR.out
  rw [yg (by rw [hev];decide)] at hr
  clear HR
  have HR:=ya hr
  clear hr HK hj hke HG hev
  go_wp2
  clear hd1 hd2 hq2 q1
  clear c0 c1 c2 c3
  go_loopw [4] (fun vk wr=>∃j m K:Nat,vk=.int .i64 (K:Int)/\Hid (m=j*2)/\m+2=K/\m<=la.length/\Hid (Below W1.heap.size W1 wr)/\Hid (∀i x y,i<j->la[i*2]?=some x->la[i*2+2]?=some y->sLt x.s y.s=true)) (fun vk _=>la.length+4-(intOf vk).toNat)
  case atStart=>exact ⟨0,0,2,by go_num,rfl,rfl,by omega,Below.refl _ _,ya fun i x y h=>absurd h (Nat.not_lt_zero _)⟩
  case round =>
   obtain ⟨j,m,K,rfl,HK,hmK,hm2,HWR,HG⟩:=hrel
   have HW2:=ya (HW.out.trans (HWR.out.mono HW.out.size))
   obtain ⟨⟨c0,c1,c2,c3⟩,-⟩:=zaj (zaa HWR.out HX1.out)
   by_cases q2:K<la.length
   case neg =>
    have hd0:decide (K<la.length)=false:=yd q2
    have hd1:decide ((K:Int)<(la.length:Int))=false:=yd (by omega)
    have hq2:¬(K:Int)<(la.length:Int):=by omega
    have has:ascV (twoV la)=true:=asc_ofS la fun i x y hx hy=>HG.out i x y (by
     have h1:=HK.out
     have h2:=(List.getElem?_eq_some_iff.1 hy).1
     omega) hx hy
    have hr:=HR.out
    rw [yf has] at hr
    subst hr
    clear HG HA HR has HK HE hmK
    go_wp2
    go_ret
    exact ⟨rfl,HW2.out⟩
   obtain ⟨x,hx⟩:∃x,la[m]?=some x:=⟨_,List.getElem?_eq_getElem (by omega)⟩
   obtain ⟨y,hy⟩:∃y,la[K]?=some y:=⟨_,List.getElem?_eq_getElem q2⟩
   have hK2:K+2<=la.length:=by have h1:=HK.out;have h2:=HE.out;omega
   obtain ⟨-,-,-,b1,o1,rfl,-,-,hax⟩:=(HA.out.below HW2.out).at (by omega)
   rw [<-HLA.out] at hax
   obtain ⟨sx,-,-,-,x2,-⟩:=hax m x hx
   obtain ⟨sy,-,-,-,y2,-⟩:=hax K y hy
   have l1:Op.bytesLess (mkB x.s).toList (mkB y.s).toList=sLt x.s y.s:=by rw [zal,zal,zc2]
   have l2:Op.bytesLess (mkB y.s).toList (mkB x.s).toList=sLt y.s x.s:=by rw [zal,zal,zc2]
   have l3:((mkB y.s).toList==(mkB x.s).toList)=decide (y.s=x.s):=by rw [zal x.s];exact eqBs _ _
   have l4:((mkB x.s).toList==(mkB y.s).toList)=decide (x.s=y.s):=by rw [zal y.s];exact eqBs _ _
   have u3:=zaU.cell c3
   have e2:=zaU.cell x2
   have r2:=zaU.cell y2
   have hd0:decide (K<la.length)=true:=yb q2
   have hd1:decide ((K:Int)<(la.length:Int))=true:=yb (by omega)
   have hkl:(0:Int)<=(m:Int):=by omega
   have hki:(m:Int)<(la.length:Int):=by omega
   have hkl2:(0:Int)<=(K:Int):=by omega
   have hki2:(K:Int)<(la.length:Int):=by omega
   have hkm:(K:Int)-2=(m:Int):=by omega
   have hkw:IntKind.i64.wrap ((K:Int)-2)=(m:Int):=by rw [IntWalk.i64_in _ (by omega)];omega
   have hkw2:IntKind.i64.wrap (m:Int)=(m:Int):=IntWalk.i64_in _ (by omega)
   by_cases hlt:sLt x.s y.s=true
   ·rw [hlt] at l1
    rw [sLt_as _ _ hlt] at l2
    have hne:x.s≠y.s:=fun e=>by rw [e,zfc] at hlt;cases hlt
    rw [yd (fun e=>hne e.symm)] at l3
    rw [yd hne] at l4
    have HG2:=ya (show ∀i u z,i<j+1->la[i*2]?=some u->la[i*2+2]?=some z->sLt u.s z.s=true from fun i u z hi hu hz=>by
     by_cases e:i=j
     ·subst e
      have h1:=HK.out
      rw [<-h1,hx] at hu
      rw [<-h1,hmK,hy] at hz
      cases hu
      cases hz
      exact hlt
     ·exact HG.out i u z (by omega) hu hz)
    clear hax hx hy HG HA hlt x2 y2 hne HR
    generalize mkB x.s=sX at *
    generalize mkB y.s=sY at *
    have HMK:=ya hmK
    clear hmK
    go_wp2
    refine zaW (by kernel_rfl) (by kernel_rfl) ?_
    repeat (go_big_quiet_step (fail))
    refine wpQuiet_nil ?_
    rintro _ ⟨⟨w4,hb4⟩,rfl⟩
    have HW4:=yl HWR hb4
    clear u3 e2 r2 c0 c1 c2 c3 hb4 l1 l2 l3 l4
    go_wp2
    exact ⟨⟨j+1,K,K+2,by go_num,by have h1:=HK.out;have h2:=HMK.out;show K=(j+1)*2;omega,rfl,by omega,HW4,HG2⟩,by simp [intOf];omega⟩
   ·have hge:sLt x.s y.s=false:=by simpa using hlt
    rw [hge] at l1
    have has:ascV (twoV la)=false:=by
     cases hq:ascV (twoV la) with
     | false=>rfl
     | true=>exact absurd (asc_getS hq HE.out (k:=j) (by rw [<-HK.out];exact hx) (by rw [<-HK.out,hmK];exact hy)) hlt
    have hr:=HR.out
    rw [yg (by rw [has];decide)] at hr
    subst hr
    by_cases hgt:sLt y.s x.s=true
    ·rw [hgt] at l2
     have hne:x.s≠y.s:=fun e=>by rw [e,zfc] at hgt;cases hgt
     rw [yd (fun e=>hne e.symm)] at l3
     rw [yd hne] at l4
     clear hax hx hy HG HA hlt x2 y2 hne HR has hge hgt HK HE
     generalize mkB x.s=sX at *
     generalize mkB y.s=sY at *
     clear hmK
     go_wp2
     refine zaW (by kernel_rfl) (by kernel_rfl) ?_
     repeat (go_big_quiet_step (fail))
     refine wpQuiet_nil ?_
     rintro _ ⟨⟨w4,hb4⟩,rfl⟩
     have HW4:=yl HW2 hb4
     clear u3 e2 r2 c0 c1 c2 c3 hb4 l1 l2 l3 l4
     go_wp2
     go_ret
     exact ⟨rfl,HW4.out⟩
    ·have hgf:sLt y.s x.s=false:=by simpa using hgt
     rw [hgf] at l2
     have heq:x.s=y.s:=by
      by_cases e:x.s=y.s
      ·exact e
      ·exact absurd (zci _ _ hge e) (by rw [hgf];decide)
     rw [yb heq.symm] at l3
     rw [yb heq] at l4
     clear hax hx hy HG HA hlt x2 y2 HR has hge hgt hgf HK HE heq
     generalize mkB x.s=sX at *
     generalize mkB y.s=sY at *
     clear hmK
     go_wp2
     refine zaW (by kernel_rfl) (by kernel_rfl) ?_
     repeat (go_big_quiet_step (fail))
     refine wpQuiet_nil ?_
     rintro _ ⟨⟨w4,hb4⟩,rfl⟩
     have HW4:=yl HW2 hb4
     clear u3 e2 r2 c0 c1 c2 c3 hb4 l1 l2 l3 l4
     go_wp2
     go_ret
     exact ⟨rfl,HW4.out⟩
mutual
def fewV:PV->Int->Int
 | .mk _ _ _ l,n=>fewL l (n-1)
def fewL:List PV->Int->Int
 | [],n=>n
 | x::l,n=>if n<0 then n else fewL l (fewV x n)
end
mutual
def nodeV:PV->Nat
 | .mk _ _ _ l=>1+zfj l
def zfj:List PV->Nat
 | []=>0
 | x::l=>nodeV x+zfj l
end
theorem zgq (l:List PV) {n:Int} (h:n<0):fewL l n=n:=by cases l with
 | nil=>rfl
 | cons x l=>simp only [fewL];rw [yf h]
mutual
theorem zeJ:∀(v:PV) (n:Int),0<=n->-1<=fewV v n/\fewV v n<=n/\(0<=fewV v n->fewV v n=n-nodeV v)
 | .mk k m s l,n,h=>by
  simp only [fewV,nodeV]
  by_cases h1:n-1<0
  ·rw [zgq l h1];omega
  ·have:=fewL_bd l (n-1) (by omega)
   omega
theorem fewL_bd:∀(l:List PV) (n:Int),0<=n->-1<=fewL l n/\fewL l n<=n/\(0<=fewL l n->fewL l n=n-zfj l)
 | [],n,h=>by simp only [fewL,zfj];omega
 | x::l,n,h=>by
  simp only [fewL,zfj]
  rw [yg (by omega)]
  have h1:=zeJ x n h
  by_cases h2:fewV x n<0
  ·rw [zgq l h2];omega
  ·have:=fewL_bd l (fewV x n) (by omega)
   omega
end
theorem fewV_is (v:PV) (n:Int):fewV v n=fewL v.l (n-1):=by obtain ⟨_,_,_,_⟩:=v;rfl
theorem few_any:∀(N:Nat) (v:PV) (sl:Value) (w:World) (n:Int),SizeOf.sizeOf v<=N->0<=n->n<=1000->IsV w anyF v sl ->
  Calls Tryz.prog 52 #[pvA v sl,.int .i64 n] w fun e w'=>e=.returned (.int .i64 (fewV v n))/\Below w.heap.size w w':=by
 intro N
 induction N with
 | zero=>intro v sl w n h;obtain ⟨_,_,_,_⟩:=v;simp at h
 | succ N ih =>
 intro v sl w n hN h0 h1 hv
 obtain ⟨a1,cap1,e1,g1,g2,g3⟩:=hv.len
 subst e1
 have HA:=ya hv
 have HIH:=ya ih
 have HN:=ya hN
 have HSA:=ya (fun (k:Nat) (x:PV) (h:v.l[k]?=some x)=>zcE h)
 have m1:(v.l.length:Int)<=9223372036854775807:=by unfold maxLen at g2;omega
 obtain ⟨R,hR⟩:∃R,R=fewV v n:=⟨_,rfl⟩
 rw [<-hR]
 rw [fewV_is] at hR
 unfold pvA
 clear ih hN hv g2 g3
 obtain ⟨la,hla⟩:∃la,la=v.l:=⟨_,rfl⟩
 have HLA:=ya hla
 rw [<-hla] at hR HA HSA m1 g1 |-
 clear hla
 have HR:=ya hR
 clear hR
 generalize v.kind=k0 at *
 generalize v.n=n0 at *
 generalize mkB v.s=s0 at *
 have hw0:IntKind.i64.wrap (n-1)=n-1:=IntWalk.i64_in _ (by omega)
 go_enter Tryz.func52,Tryz.ntmps52
 obtain ⟨B,hB⟩:∃B,B=w.heap.size:=⟨_,rfl⟩
 have HX1:=ya (zac (w:=w) (b:=B) (.cells #[.int .i64 k0,.int .i64 n0,.string s0,.slice a1 la.length cap1] 27) hB)
 have HW:=ya (zag w (.cells #[.int .i64 k0,.int .i64 n0,.string s0,.slice a1 la.length cap1] 27))
 go_upto_region 1 with fail
 rw [<-hB]
 clear hB
 generalize w.alloc _=W1 at *
 go_wp2
 go_loopw [1,5] (fun vm vk wr=>∃(k:Nat) (m:Int),vk=.int .i64 k/\vm=.int .i64 m/\-1<=m/\m<=1000/\k<=la.length/\Hid (Below W1.heap.size W1 wr)/\Hid (R=fewL (la.drop k) m)) (fun _ vk _=>la.length-(intOf vk).toNat)
 case atStart=>exact ⟨0,n-1,rfl,rfl,by omega,by omega,Nat.zero_le _,Below.refl _ _,HR⟩
 case round =>
  obtain ⟨k,m,rfl,rfl,hm0,hm1,hk,HWR1,HV⟩:=hrel
  have HWR:=ya (HW.out.trans (HWR1.out.mono HW.out.size))
  obtain ⟨⟨c0,c1,c2,c3⟩,-⟩:=zaj (zaa HWR1.out HX1.out)
  by_cases q1:k<la.length
  case neg =>
   have hkl:k=la.length:=by omega
   subst hkl
   have hv:=HV.out
   rw [List.drop_length] at hv
   obtain rfl:R=m:=hv
   have hd1:decide (la.length<la.length)=false:=by simp
   clear HV HA HIH HN HSA HR
   go_wp2
   go_ret
   exact ⟨rfl,HWR.out⟩
  have hd1:decide (k<la.length)=true:=yb q1
  have hd2:decide ((k:Int)<(la.length:Int))=true:=yb (by omega)
  by_cases q2:0<=m
  case neg =>
   have hd3:decide (0<=m)=false:=yd q2
   have hv:=HV.out
   rw [zgq _ (by omega)] at hv
   obtain rfl:R=m:=hv
   clear HV HA HIH HN HSA HR
   go_wp2
   go_ret
   exact ⟨rfl,HWR.out⟩
  have hd3:decide (0<=m)=true:=yb q2
  obtain ⟨x,hx⟩:∃x,la[k]?=some x:=⟨_,List.getElem?_eq_getElem q1⟩
  obtain ⟨-,-,-,b1,o1,rfl,-,-,hax⟩:=(HA.out.below HWR.out).at (by omega)
  rw [<-HLA.out] at hax
  obtain ⟨sx,hsx,x0,x1,x2,x3⟩:=hax k x hx
  have hlt:SizeOf.sizeOf x<SizeOf.sizeOf v:=HSA.out k x hx
  have hN:=HN.out
  have hfb:=zeJ x m q2
  have hv:R=fewL (la.drop (k+1)) (fewV x m):=by
   rw [HV.out,List.drop_eq_getElem_cons q1]
   have he:la[k]=x:=by rw [List.getElem?_eq_getElem q1] at hx;exact Option.some.inj hx
   rw [he]
   simp only [fewL]
   rw [yg (by omega)]
  have HV2:=ya hv
  obtain ⟨sa',sc',rfl,-,-,-⟩:=hsx.len
  have HCALL:=ya (HIH.out x _ wr m (by omega) q2 hm1 hsx)
  simp only [pvA] at HCALL
  have hb1:-1<=fewV x m:=hfb.1
  have hb2:fewV x m<=1000:=by omega
  clear hv hsx hlt hN hax hx HA HIH HV HSA HLA HN hfb HR
  generalize fewV x m=m2 at *
  have hkl:(0:Int)<=(k:Int):=by omega
  have hki:(k:Int)<(la.length:Int):=by omega
  generalize x.kind=xk at *
  generalize x.n=xn at *
  generalize mkB x.s=xs at *
  generalize x.l.length=xl at *
  go_wp2_with fail
  refine HCALL.out.mono ?_
  rintro e w5 ⟨rfl,hb5⟩
  have HW5:=yl HWR1 hb5
  clear hb5 x0 x1 x2 x3 HCALL c0 c1 c2 c3
  go_wp2
  go_roundw
  case rel=>exact ⟨k+1,m2,by go_num,rfl,hb1,hb2,by omega,HW5,HV2⟩
  case measure=>simp [intOf];omega
end Go.Proofs.YtfafdeemfeaedaaGreat
namespace Go.Proofs.YtfafdeemfeaedaaGreat
theorem zdP (k n:Int) (b:Bool):(zbF k n b).1.length<=40:=by
 by_cases h:zaI k n b=0
 ·obtain ⟨-,hc⟩:=zd4 h
  unfold zbF
  rw [yf h]
  show (zef n++absL k n.natAbs).length<=40
  have h1:(zef n).length<=1:=by unfold zef;split<;>simp
  have h2:(absL k n.natAbs).length<=30:=by
   unfold absL
   split
   ·have:=zbd 19 n.natAbs (by omega);omega
   ·have h3:=zbd 19 (n.natAbs / 1000000) (by omega)
    have h4:=(mil_trimF (n.natAbs % 1000000) (by omega)).2.2.2
    rw [List.length_append,List.length_cons];omega
  rw [List.length_append];omega
 ·unfold zbF
  rw [yg h]
  simp
mutual
theorem ze0:∀v:PV,zaJ v<=nodeV v
 | .mk k n s l=>by
  have:=zd6 l
  simp only [zaJ,nodeV]
  split<;>omega
theorem zd6:∀l:List PV,zbc l<=zfj l
 | []=>by simp [zbc,zfj]
 | x::l=>by
  have h1:=ze0 x
  have h2:=zd6 l
  simp only [zbc,zfj]
  omega
end
end Go.Proofs.YtfafdeemfeaedaaGreat
namespace Go.Proofs.YtfafdeemfeaedaaGreat
open Go.RowKit
theorem nameC_is (s:List UInt8) (x:Int):(if 127<s.length\/(0:UInt8)∈s then 17 else x)=if zeW s=false then 17 else x:=by
 unfold zeW
 by_cases h1:127<s.length
 ·rw [yf (.inl h1)];simp [h1]
 ·by_cases h2:(0:UInt8)∈s
  ·rw [yf (.inr h2)];simp [h2]
  ·rw [yg (by rintro (h|h);exact h1 h;exact h2 h)];simp [h1,h2]
theorem zfx (v:PV) (sl:Value) (w:World):Calls Tryz.prog 139 #[pvA v sl] w fun e w'=>e=.returned (.bool (v.kind==6||v.kind==7))/\Below w.heap.size w w':=by
 unfold pvA
 generalize v.kind=k at *
 by_cases h:k=6
 ·subst h
  go_enter Tryz.func139,Tryz.ntmps139
  go_wp2
  go_ret
  exact ⟨rfl,zag w _⟩
 ·have h1:(k==6)=false:=by rw [ye];exact h
  rw [h1,Bool.false_or]
  clear h
  go_enter Tryz.func139,Tryz.ntmps139
  go_wp2
  go_ret
  exact ⟨rfl,zag w _⟩
theorem rdepth_any:∀(N:Nat) (v:PV) (sl:Value) (w:World),SizeOf.sizeOf v<=N->zaJ v<=1000->IsV w anyF v sl ->
  Calls Tryz.prog 102 #[pvA v sl] w fun e w'=>e=.returned (.int .i64 (zaJ v:Nat))/\Below w.heap.size w w':=by
 intro N
 induction N with
 | zero=>intro v sl w h;obtain ⟨_,_,_,_⟩:=v;simp at h
 | succ N ih =>
 intro v sl w hN hd hv
 obtain ⟨a1,cap1,e1,g1,g2,g3⟩:=hv.len
 subst e1
 have HA:=ya hv
 have HIH:=ya ih
 have HN:=ya hN
 have HSA:=ya (fun (k:Nat) (x:PV) (h:v.l[k]?=some x)=>zcE h)
 have HD:=ya hd
 have m1:(v.l.length:Int)<=9223372036854775807:=by unfold maxLen at g2;omega
 have HH:=ya (fun W=>zfx v (.slice a1 v.l.length cap1) W)
 have hdv:zaJ v=if v.kind=6\/v.kind=7 then 1+zbc v.l else 1:=by obtain ⟨_,_,_,_⟩:=v;rfl
 have HDM:=ya (fun (h:v.kind=6\/v.kind=7) (k:Nat) (x:PV) (hx:v.l[k]?=some x)=>show zaJ x+1<=zaJ v by rw [depthV_is v,yf h];have:=ze4 _ _ hx;omega)
 unfold pvA at HH |-
 clear ih hN hd hv
 by_cases hk:v.kind=6\/v.kind=7
 case neg =>
  rw [yg hk] at hdv
  have hb:(v.kind==6||v.kind==7)=false:=by
   simp only [Bool.or_eq_false_iff,ye];omega
  rw [hb] at HH
  rw [hdv]
  clear hk hb hdv HA HIH HDM HD HN HSA
  generalize v.kind=k0 at *
  generalize v.n=n0 at *
  generalize mkB v.s=s0 at *
  generalize v.l.length=l0 at *
  go_enter Tryz.func102,Tryz.ntmps102
  go_wp2_with (go_at_call 139;refine (HH.out _).mono ?_;rintro e w1 ⟨rfl,hb1⟩)
  go_ret
  exact ⟨rfl,(zag w _).trans (hb1.mono (by rw [zan];omega))⟩
 rw [yf hk] at hdv
 have hb:(v.kind==6||v.kind==7)=true:=by
  rcases hk with h|h<;>rw [h]<;>rfl
 rw [hb] at HH
 have HDV:=ya hdv
 have HDL:=ya (show zbc v.l<=999 by have:=HD.out;omega)
 have HDM2:=ya (fun (k:Nat) (x:PV) (hx:v.l[k]?=some x)=>HDM.out hk k x hx)
 clear hk hb hdv HDM
 obtain ⟨la,hla⟩:∃la,la=v.l:=⟨_,rfl⟩
 have HLA:=ya hla
 rw [<-hla] at HH HDV HDL HDM2 HA m1 g1 |-
 clear hla
 generalize v.kind=k0 at *
 generalize v.n=n0 at *
 generalize v.s=s0 at *
 go_enter Tryz.func102,Tryz.ntmps102
 obtain ⟨B,hB⟩:∃B,B=w.heap.size:=⟨_,rfl⟩
 have HX1:=ya (zac (w:=w) (b:=B) (.cells #[.int .i64 k0,.int .i64 n0,.string (mkB s0),.slice a1 la.length cap1] 27) hB)
 have HW:=ya (zag w (.cells #[.int .i64 k0,.int .i64 n0,.string (mkB s0),.slice a1 la.length cap1] 27))
 have HBB:=ya hB
 go_wp2_with (go_at_call 139;refine (HH.out _).mono ?_;rintro e w1 ⟨rfl,hb1⟩)
 rw [<-hB]
 have HX2:=ya (zaa hb1 HX1.out)
 have HW1:=yl HW hb1
 clear hb1 HX1 HW hB
 go_loopw [3,4] (fun vn vk wr=>∃(k n:Nat),vk=.int .i64 k/\vn=.int .i64 n/\n<=1000/\k<=la.length/\Hid (Below w.heap.size w wr)/\Hid (Below w1.heap.size w1 wr)/\Hid (n=1+zbc (la.take k))) (fun _ vk _=>la.length-(intOf vk).toNat)
 case atStart=>exact ⟨0,1,rfl,rfl,by omega,Nat.zero_le _,HW1,Below.refl _ _,rfl⟩
 case round =>
  obtain ⟨k,n,rfl,rfl,hn,hk,HWR,HWR1,HV⟩:=hrel
  obtain ⟨⟨c0,c1,c2,c3⟩,-⟩:=zaj (zaa HWR1.out HX2.out)
  by_cases q1:k<la.length
  case neg =>
   have hkl:k=la.length:=by omega
   subst hkl
   have hv:=HV.out
   rw [List.take_length] at hv
   have hv2:=HDV.out.trans hv.symm
   have HV9:=ya hv2
   clear hv hv2 HDV HV HDL HA HIH HDM2
   go_wp2
   go_ret
   exact ⟨by rw [HV9.out];rfl,HWR.out⟩
  obtain ⟨x,hx⟩:∃x,la[k]?=some x:=⟨_,List.getElem?_eq_getElem q1⟩
  obtain ⟨-,-,-,b1,o1,rfl,-,-,hax⟩:=(HA.out.below HWR.out).at (by omega)
  rw [<-HLA.out] at hax
  obtain ⟨sx,hsx,x0,x1,x2,x3⟩:=hax k x hx
  have hlt:SizeOf.sizeOf x<SizeOf.sizeOf v:=HSA.out k x (by rw [<-HLA.out];exact hx)
  have hN:=HN.out
  have hdx:=HDM2.out k x hx
  have hcall:=HIH.out x sx wr (by omega) (by have:=HD.out;omega) hsx
  have hv:max n (zaJ x+1)=1+zbc (la.take (k+1)):=by rw [depthL_takeS hx];have:=HV.out;omega
  have HV2:=ya hv
  have hdx2:zaJ x<=999:=by have:=HD.out;omega
  unfold pvA at hcall
  obtain ⟨sa',sc',rfl,-,-,-⟩:=hsx.len
  generalize zaJ x=d at *
  have HCALL:=ya hcall
  clear hcall hv hsx hlt hN hax hx HA HIH HV HSA HLA HN HDV HDM2 HD hdx
  have hkl:(0:Int)<=(k:Int):=by omega
  have hki:(k:Int)<(la.length:Int):=by omega
  go_wp2_with fail
  refine HCALL.out.mono ?_
  rintro e w4 ⟨rfl,hb4⟩
  have HW4:=yl HWR hb4
  have HW5:=yl HWR1 hb4
  clear hb4 x0 x1 x2 x3 c0 c1 c2 c3 HCALL
  by_cases hc:n<d+1
  ·have hm:max n (d+1)=d+1:=by omega
   rw [hm] at HV2
   have hd1:decide ((n:Int)<(d:Int)+1)=true:=yb (by omega)
   go_wp2
   go_roundw
   case rel=>exact ⟨k+1,d+1,by go_num,by go_num,by omega,by omega,HW4,HW5,HV2⟩
   case measure=>simp [intOf];omega
  ·have hm:max n (d+1)=n:=by omega
   rw [hm] at HV2
   have hd1:decide ((n:Int)<(d:Int)+1)=false:=yd (by omega)
   go_wp2
   go_roundw
   case rel=>exact ⟨k+1,n,by go_num,rfl,by omega,by omega,HW4,HW5,HV2⟩
   case measure=>simp [intOf];omega
theorem rdict_bad {n:Int} {s:List UInt8} {a1:Option Addr} {m cap1:Nat} {w:World} (h:n≠0\/s≠[]) :
  Calls Tryz.prog 169 #[.agg #[.int .i64 7,.int .i64 n,.string (mkB s),.slice a1 m cap1]] w fun e w'=>e=.returned (.int .i64 2)/\Below w.heap.size w w':=by
 have HB:=ya (zag w (.cells #[.int .i64 7,.int .i64 n,.string (mkB s),.slice a1 m cap1] 27))
 by_cases hn0:n=0
 ·have en0:(n==0)=true:=by rw [beq_iff_eq];exact hn0
  have en0':(n != 0)=false:=by simp only [bne,en0,Bool.not_true]
  have hs0:s≠[]:=by rcases h with h|h;exact absurd hn0 h;exact h
  have es0b:((mkB s).toList==[])=false:=by rw [ye,zal];exact hs0
  have es0c:((mkB s).toList != [])=true:=by simp only [bne,es0b,yi]
  clear hn0 h hs0
  generalize mkB s=S at *
  go_enter Tryz.func169,Tryz.ntmps169
  go_wp2
  go_ret
  exact ⟨rfl,HB.out⟩
 ·have en0:(n==0)=false:=by rw [ye];exact hn0
  have en0':(n != 0)=true:=by simp only [bne,en0,yi]
  clear hn0 h
  generalize mkB s=S at *
  go_enter Tryz.func169,Tryz.ntmps169
  go_wp2
  go_ret
  exact ⟨rfl,HB.out⟩
theorem rdictA {n:Int} {s:List UInt8} {l:List PV} {a1:Option Addr} {cap1:Nat} {w:World} (hv:IsV w anyF (.mk 7 n s l) (.slice a1 l.length cap1)) :
  Calls Tryz.prog 169 #[pvA (.mk 7 n s l) (.slice a1 l.length cap1)] w fun e w'=>e=.returned (.int .i64 (if n=0/\s=[] then dictC l else 2))/\Below w.heap.size w w':=by
 by_cases h:n=0/\s=[]
 ·rw [yf h]
  exact rdict_any hv h.1 h.2
 ·rw [yg h]
  exact rdict_bad (by by_cases hn:n=0;exact .inr fun e=>h ⟨hn,e⟩;exact .inl hn)
end Go.Proofs.YtfafdeemfeaedaaGreat
