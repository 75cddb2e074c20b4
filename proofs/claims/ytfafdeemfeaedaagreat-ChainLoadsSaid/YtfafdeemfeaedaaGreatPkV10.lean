/-
  Our texts Dp to Dw1, in one.
-/
import Derived.Test.YtfafdeemfeaedaaGreatPkV9
import Derived.Deep.RegionLaw
import Derived.Deep.AppendLies
set_option maxRecDepth 8000
set_option maxHeartbeats 8000000
open Go
variable {A A0 B N c2 e f g i j k kc m mb n' off p r tot u:Nat} {F G S U X:Nat->Prop} {L R T T':List (Int×Int)} {P at2 er gap tto x:Int} {W W' W0 W1 W2 W8 w' w0 w1 w2:World} {ad gv sl sv sx v' x0 x1 x2 x3 x4 y0 y1 y2 y3 z:Value} {c:UInt8} {cs xs:List Value} {ds rd:List Int} {ka sa:Option Addr} {key:List UInt8} {ov yq:Bool} {t ty:TypeId}
namespace Go.Proofs.YtfafdeemfeaedaaGreat
open Go.RowKit
theorem one4 (k n:Int) (s:ByteArray) (a:Option Addr) (m c:Nat):∀u∈[Value.int .i64 k,.int .i64 n,.string s,.slice a m c],u.oneCell'=true:=by
 intro u hu
 simp at hu
 rcases hu with rfl|rfl|rfl|rfl<;>rfl
theorem one8 (k n:Int) (s:ByteArray) (a:Option Addr) (m c:Nat) (k2 n2:Int) (s2:ByteArray) (a2:Option Addr) (m2 c2:Nat):∀u∈[Value.int .i64 k,.int .i64 n,.string s,.slice a m c,.int .i64 k2,.int .i64 n2,.string s2,.slice a2 m2 c2],u.oneCell'=true:=by
 intro u hu
 simp at hu
 rcases hu with rfl|rfl|rfl|rfl|rfl|rfl|rfl|rfl<;>rfl
theorem zbt (w:World) (cs:Array Value) (e:TypeId) (n:Nat) (hn:cs.size=n):Row (w.alloc (.cells cs e)) n (some ⟨w.heap.size,0,none⟩) 1 1 cs.toList :=
 ⟨by simp [hn],yp _,by simp [maxLen],fun h=>(by cases h),fun _=>⟨w.heap.size,0,rfl,by rw [zan];omega,fun j u hj=>by
  rw [Nat.zero_add,cell_of_row _ _ _ _ _ _ (zac _ rfl)];simpa using hj⟩⟩
theorem row_newM2 (w:World) (cs:Array Value) (e:TypeId) (hn:cs.size=8):Row (w.alloc (.cells cs e)) 4 (some ⟨w.heap.size,0,none⟩) 2 2 cs.toList :=
 ⟨by simp [hn],yp _,by simp [maxLen],fun h=>(by cases h),fun _=>⟨w.heap.size,0,rfl,by rw [zan];omega,fun j u hj=>by
  rw [Nat.zero_add,cell_of_row _ _ _ _ _ _ (zac _ rfl)];simpa using hj⟩⟩
theorem put_fin {w wr:World} {L:List PV} {v:Value} {n:Nat} {Q:Nat} (hO:wr.ownsRow Q 27 4 v n cs) (hVs:IsVs w F L cs) (hQ:w.heap.size<=Q) (hk:∀b,Q<=b->W.heap[b]?=wr.heap[b]?) (hb:Below w.heap.size w W) (k:Int) :
  IsV W (fun b=>F b\/w.heap.size<=b) (.mk k 0 [] L) v:=by
 obtain ⟨a,cap,rfl,hr,hbase⟩:=Row.of_owns (zaE hO (w':=W) (fun b hb=>hk b (hO.lt b hb).1))
 have h1:=hVs.length
 have h2:cs.length=n*4:=hr.1
 have h3:n=L.length:=by omega
 subst h3
 exact IsV.mk (v:=.mk k 0 [] L) hr (fun _ x hx=>.inr (Nat.le_trans hQ (hbase x hx))) (IsVs.keep (zaK.of_below hb) (fun b h=>.inl h) _ hVs)
structure PutM (w W:World) (B:Nat) (dc xc:Array Value):Prop where
 b0:W.heap[B]?=some (.cells dc 27 (0,0))
 b1:W.heap[B+1]?=some (.cells xc 27 (0,0))
 b2:W.heap[B+1+1]?=some (.cells #[.int .i64 0,.int .i64 0,.string ⟨#[]⟩,.slice none 0 0] 27 (0,0))
 bel:Below w.heap.size w W
 hB:B=w.heap.size
theorem PutM.keep {w:World} {dc xc:Array Value} (h:PutM w W B dc xc) (hb:Below W.heap.size W W'):PutM w W' B dc xc :=
 ⟨zab hb h.b0,zab hb h.b1,zab hb h.b2,h.bel.trans (hb.mono h.bel.size),h.hB⟩
def PairAt (w:World) (b o K:Nat) (yk yn:Int) (ys:ByteArray) (yv:Value) (zk zn:Int) (zs:ByteArray) (zv:Value):Prop :=
 (w.cell? ⟨b,o+K*4,none⟩=some (.int .i64 yk)/\w.cell? ⟨b,o+K*4+1,none⟩=some (.int .i64 yn)/\w.cell? ⟨b,o+K*4+2,none⟩=some (.string ys)/\w.cell? ⟨b,o+K*4+3,none⟩=some yv) /\
 (w.cell? ⟨b,o+(K+1)*4,none⟩=some (.int .i64 zk)/\w.cell? ⟨b,o+(K+1)*4+1,none⟩=some (.int .i64 zn)/\w.cell? ⟨b,o+(K+1)*4+2,none⟩=some (.string zs)/\w.cell? ⟨b,o+(K+1)*4+3,none⟩=some zv)
theorem PairAt.keep {w:World} {b o K:Nat} {yk yn:Int} {ys:ByteArray} {yv:Value} {zk zn:Int} {zs:ByteArray} {zv:Value} (h:PairAt w b o K yk yn ys yv zk zn zs zv) (hb:Below w.heap.size w W):PairAt W b o K yk yn ys yv zk zn zs zv :=
 let ⟨⟨a1,a2,a3,a4⟩,c1,c2,c3,c4⟩:=h
 ⟨⟨cell?_keep hb a1,cell?_keep hb a2,cell?_keep hb a3,cell?_keep hb a4⟩,cell?_keep hb c1,cell?_keep hb c2,cell?_keep hb c3,cell?_keep hb c4⟩
theorem zhd {w wr:World} {dc xc:Array Value} (h:PutM w W2 B dc xc) (hb:Below W2.heap.size W2 wr) (v y0 y1 y2 y3:Value) :
  Below w.heap.size w (((((wr.setCell ⟨B,3,none⟩ v).setCell ⟨B+1+1,0,none⟩ y0).setCell ⟨B+1+1,1,none⟩ y1).setCell ⟨B+1+1,2,none⟩ y2).setCell ⟨B+1+1,3,none⟩ y3) /\
  (∀b,W2.heap.size<=b->(((((wr.setCell ⟨B,3,none⟩ v).setCell ⟨B+1+1,0,none⟩ y0).setCell ⟨B+1+1,1,none⟩ y1).setCell ⟨B+1+1,2,none⟩ y2).setCell ⟨B+1+1,3,none⟩ y3).heap[b]?=wr.heap[b]?) /\
  (((((wr.setCell ⟨B,3,none⟩ v).setCell ⟨B+1+1,0,none⟩ y0).setCell ⟨B+1+1,1,none⟩ y1).setCell ⟨B+1+1,2,none⟩ y2).setCell ⟨B+1+1,3,none⟩ y3).heap[B+1+1]?=some (.cells #[y0,y1,y2,y3] 27 (0,0)):=by
 have h2:=h.keep hb
 have hB:=h.hB
 have hl:=zai h.b2
 refine ⟨zad (h2.bel.setCell (by show w.heap.size<=B;omega) _) (by omega) _ _ _ _,fun b hq=>?_,set4 ((heap_setCell_other _ _ _ _ (by show B+1+1≠B;omega)).trans h2.b2) _ _ _ _⟩
 rw [za2 (by omega),heap_setCell_other _ _ _ _ (by show b≠B;omega)]
theorem put_rep {w:World} {ps:List (PV×PV)} (hv:IsV w F (dctV ps) sl) (h5:∀y∈ps,y.1.kind=5) (key:List UInt8) {x:PV} (hx:IsV w F x sx) (hm:ps.length<=400000) (hh:fIx key ps<ps.length) :
  Calls Tryz.prog 165 #[pvA (dctV ps) sl,.string (mkB key),pvA x sx] w fun e w'=>∃s',e=.returned (pvA (dctV (repK (.mk 5 0 key [],x) ps)) s')/\IsV w' (fun b=>F b\/w.heap.size<=b) (dctV (repK (.mk 5 0 key [],x) ps)) s'/\Below w.heap.size w w':=by
 obtain ⟨a1,cap1,e1,g1,g2,-⟩:=hv.len
 subst e1
 obtain ⟨ax,cx,ex,-⟩:=hx.len
 subst ex
 have HFI:=yb (fun (W:World) (h:Below w.heap.size w W)=>zgY (hv.below h) h5 key)
 obtain ⟨N,hN⟩:∃N,N=(dctV ps).l.length:=⟨_,rfl⟩
 have hN2:N=2*ps.length:=by rw [hN];exact zc5 ps
 rw [<-hN] at hv g1 HFI |-
 obtain ⟨A,hA⟩:∃A,A=zfA key ps:=⟨_,rfl⟩
 rw [<-hA] at HFI
 have HA:=yb hv
 have m0:N<=800000:=by omega
 have m1:(N:Int)<=9223372036854775807:=by omega
 have HNN:=yb hN2
 have H5:=yb h5
 have HX:=yb hx
 have HHH:=yb hh
 obtain ⟨X,hX⟩:∃X:PV×PV,X=(.mk 5 0 key [],x):=⟨_,rfl⟩
 rw [<-hX]
 unfold pvA at HFI |-
 rw [show (dctV ps).kind=7 from rfl,show (dctV ps).n=0 from rfl,show mkB (dctV ps).s=⟨#[]⟩ from rfl] at HFI |-
 obtain ⟨M,hM⟩:∃M,M=x.l.length:=⟨_,rfl⟩
 rw [<-hM] at HX |-
 obtain ⟨xk,hxk⟩:∃k,k=x.kind:=⟨_,rfl⟩
 obtain ⟨xn,hxn⟩:∃k,k=x.n:=⟨_,rfl⟩
 obtain ⟨xs,hxs⟩:∃k,k=mkB x.s:=⟨_,rfl⟩
 rw [<-hxk,<-hxn,<-hxs]
 have HXV:=yb (show ∀(l:List PV) (cs:List Value),IsVs w F l cs->IsVs w F (l++[x]) (cs++[.int .i64 xk,.int .i64 xn,.string xs,.slice ax M cx]) from fun l cs h=>by rw [hxk,hxn,hxs];exact h.snoc HX.out)
 have HST:=yb (fun (j:Nat) (y:PV×PV) (hy:ps[j]?=some y)=>show zaV ((repK X ps).take (j+1))=zaV ((repK X ps).take j)++[y.1,if j=fIx key ps then x else y.2] by subst hX;exact rep_step _ ps j y hy)
 have HRL:=yb (show (repK X ps).length=ps.length from rep_len X ps)
 obtain ⟨A',hA1,hA2⟩:∃A':Nat,A=(A':Int)/\A'=2*fIx key ps:=⟨2*fIx key ps,by rw [hA];unfold zfA;rw [yg hh],rfl⟩
 subst hA1
 have HA2:=yb hA2
 have hAd:decide ((A':Int)<0)=false:=ye (by omega)
 have hA0:(0:Int)<=(A':Int):=by omega
 clear hA2
 generalize mkB key=ks at *
 clear hv hN hN2 h5 hx hh hA hX hM hxk hxn hxs HX g1 g2
 go_enter Tryz.func165,Tryz.ntmps165
 obtain ⟨B,hB⟩:∃B,B=w.heap.size:=⟨_,rfl⟩
 have HM0:=yb (show PutM w (((w.alloc (.cells #[.int .i64 7,.int .i64 0,.string ⟨#[]⟩,.slice a1 N cap1] 27)).alloc (.cells #[.int .i64 xk,.int .i64 xn,.string xs,.slice ax M cx] 27)).alloc (.cells #[.int .i64 0,.int .i64 0,.string ⟨#[]⟩,.slice none 0 0] 27)) B #[.int .i64 7,.int .i64 0,.string ⟨#[]⟩,.slice a1 N cap1] #[.int .i64 xk,.int .i64 xn,.string xs,.slice ax M cx] from
  ⟨zak _ (zak _ (zac _ hB)),zak _ (zac _ (by rw [zan,hB])),zac _ (by rw [zan,zan,hB]),ze7 _ _ _ _,hB⟩)
 go_upto_region 1 with fail
 rw [<-hB]
 clear hB
 generalize ((w.alloc _).alloc _).alloc _=W1 at *
 obtain ⟨⟨c0,c1,c2,c3⟩,-⟩:=zaf HM0.out.b0
 go_wp2_with fail
 refine (HFI.out _ HM0.out.bel).mono ?_
 rintro e W2 ⟨rfl,hb2⟩
 have HM:=yb (HM0.out.keep hb2)
 clear hb2 c0 c1 c2 c3 HFI HM0
 go_wp2
 go_loopw [7,9,10] (fun vo vd vk wr=>∃(j K n:Nat) (cs:List Value),vd=.bool false/\vk=.int .i64 K/\Hid (K=2*j)/\K<=N/\n<=K/\Hid (wr.ownsRow W2.heap.size 27 4 vo n cs)/\Hid (IsVs w F (zaV ((repK X ps).take j)) cs)/\Hid (Below W2.heap.size W2 wr)) (fun _ _ vk _=>N-(intOf vk).toNat)
 case atStart=>exact ⟨0,0,0,[],rfl,rfl,rfl,Nat.zero_le _,yp _,World.ownsRow_nil _ _ _ _,rfl,Below.refl _ _⟩
 case round =>
  obtain ⟨j,K,n,cs,rfl,rfl,HK,hK,hn,HO,HV,HB⟩:=hrel
  by_cases q1:K<N
  case neg =>
   have hd1:decide (K<N)=false:=ye q1
   have hd2:decide ((K:Int)<(N:Int))=false:=ye (by omega)
   have hq2:¬(K:Int)<(N:Int):=by omega
   have hfl:zaV ((repK X ps).take j)=zaV (repK X ps):=by
    rw [List.take_of_length_le (by have h1:=HK.out;have h2:=HNN.out;have h3:=HRL.out;omega)]
   have HV2:=yb (hfl▸HV.out)
   obtain ⟨⟨c0,c1,c2,c3⟩,fz0,fz1,fz2,fz3⟩:=zaf (HM.out.keep HB.out).b0
   obtain ⟨⟨d0,d1,d2,d3⟩,-⟩:=zaf (HM.out.keep HB.out).b1
   obtain ⟨⟨x0,x1,x2,x3⟩,gz0,gz1,gz2,gz3⟩:=zaf (HM.out.keep HB.out).b2
   clear hfl HK HST HA2 HHH HV HNN HRL
   obtain ⟨va,vc,hve,-⟩:=zas HO.out
   subst hve
   go_wp2
   obtain ⟨e1,e2,e3⟩:=zhd HM.out HB.out (.slice va n vc) (.int .i64 7) (.int .i64 0) (.string ⟨#[]⟩) (.slice va n vc)
   refine yi (results_cell_row rfl _ _ (B+1+1) 27 _ (0,0) _ rfl (by exact e3) Tryz.underlying27 rfl (by exact zar)) rfl ?_
   exact ⟨(.slice va n vc),rfl,put_fin HO.out HV2.out HM.out.bel.size e2 e1 7,e1⟩
  have hjl:j<ps.length:=by
   have h1:=HK.out
   have h2:=HNN.out
   omega
  obtain ⟨y,hy⟩:∃y,ps[j]?=some y:=⟨_,List.getElem?_eq_getElem hjl⟩
  obtain ⟨b1,o1,sy,sz,rfl,hvy,hvz,y0,y1,y2,y3,z0,z1,z2,z3⟩:=HA.out.pair hy
  obtain ⟨ya,yc,rfl,-⟩:=hvy.len
  obtain ⟨za,zc,rfl,-⟩:=hvz.len
  rw [<-HK.out] at y0 y1 y2 y3 z0 z1 z2 z3
  rw [H5.out y (List.mem_of_getElem? hy)] at y0
  have HP:=yb (show PairAt w b1 o1 K 5 y.1.n (mkB y.1.s) (.slice ya y.1.l.length yc) y.2.kind y.2.n (mkB y.2.s) (.slice za y.2.l.length zc) from ⟨⟨y0,y1,y2,y3⟩,z0,z1,z2,z3⟩)
  clear y0 y1 y2 y3 z0 z1 z2 z3
  have HYV:=yb (show ∀(l:List PV) (cs:List Value),IsVs w F l cs->IsVs w F (l++[y.1]) (cs++[.int .i64 5,.int .i64 y.1.n,.string (mkB y.1.s),.slice ya y.1.l.length yc]) from fun l cs h=>by have h2:=h.snoc hvy;unfold pvC at h2;rw [H5.out y (List.mem_of_getElem? hy)] at h2;exact h2)
  have HZV:=yb (show ∀(l:List PV) (cs:List Value),IsVs w F l cs->IsVs w F (l++[y.2]) (cs++[.int .i64 y.2.kind,.int .i64 y.2.n,.string (mkB y.2.s),.slice za y.2.l.length zc]) from fun l cs h=>h.snoc hvz)
  have hkl:(0:Int)<=(K:Int):=by omega
  have hki:(K:Int)<(N:Int):=by omega
  have hd1:decide (K<N)=true:=yd q1
  have hd2:decide ((K:Int)<(N:Int))=true:=yd hki
  have hNe:K+2<=N:=by have h1:=HK.out;have h2:=HNN.out;omega
  have hkl1:(0:Int)<=(K:Int)+1:=by omega
  have hki1:(K:Int)+1<(N:Int):=by omega
  have hd3:decide ((K:Int)+1<(N:Int))=true:=yd hki1
  have hkw:IntKind.i64.wrap ((K:Int)+1)=(K:Int)+1:=IntWalk.i64_in _ (by omega)
  have hkn:((K:Int)+1).toNat=K+1:=by omega
  have hst:=HST.out j y hy
  obtain ⟨⟨c0,c1,c2,c3⟩,fz0,fz1,fz2,fz3⟩:=zaf (HM.out.keep HB.out).b0
  obtain ⟨⟨d0,d1,d2,d3⟩,-⟩:=zaf (HM.out.keep HB.out).b1
  obtain ⟨⟨y0,y1,y2,y3⟩,z0,z1,z2,z3⟩:=HP.out.keep (HM.out.keep HB.out).bel
  by_cases hj:j=fIx key ps
  ·rw [yg hj] at hst
   have hKA:K=A':=by have h1:=HA2.out;have h2:=HK.out;omega
   have hAe:((K:Int)==(A':Int))=true:=by rw [hKA];exact beq_self_eq_true _
   have hAf:decide (K=A')=true:=yd hKA
   have HST2:=yb (show ∀cs',IsVs w F (zaV ((repK X ps).take j)) cs'->IsVs w F (zaV ((repK X ps).take (j+1))) ((cs'++[.int .i64 5,.int .i64 y.1.n,.string (mkB y.1.s),.slice ya y.1.l.length yc])++[.int .i64 xk,.int .i64 xn,.string xs,.slice ax M cx]) from fun cs' h=>by
    rw [hst]
    have h2:=HXV.out _ _ (HYV.out _ _ h)
    rwa [List.append_assoc] at h2)
   clear hst hvy hvz HYV HZV hKA hj hjl hy HST
   generalize y.1.n=yn at *
   generalize mkB y.1.s=ys at *
   generalize y.1.l.length=yl at *
   generalize y.2.kind=zk at *
   generalize y.2.n=zn at *
   generalize mkB y.2.s=zs at *
   generalize y.2.l.length=zl at *
   go_upto_region 13 with (at_builtin;refine zav EPV rfl _ _ rfl W2.heap.size _ n cs rfl (HO.out.alloc _) _ 1 _ _ rfl (zbt _ #[.int .i64 5,.int .i64 yn,.string ys,.slice ya yl yc] _ 4 rfl) (one4 _ _ _ _ _ _) (by unfold maxLen;omega) (by omega) (by rw [zan];have:=HB.out.size;omega) ?_;intro v5 w5 hO5 hg5 _;have HO5:=yb hO5;have HB5:=yb (show Below W2.heap.size W2 w5 from (HB.out.alloc HB.out.size _).grown hg5 (by rw [zan];have:=HB.out.size;omega) (fun q hq=>(HO.out.lt q hq).1));clear hO5 hg5)
   clear c0 c1 c2 c3 d0 d1 d2 d3 fz0 fz1 fz2 fz3 y0 y1 y2 y3 z0 z1 z2 z3
   obtain ⟨⟨c0,c1,c2,c3⟩,fz0,fz1,fz2,fz3⟩:=zaf (HM.out.keep HB5.out).b0
   obtain ⟨⟨d0,d1,d2,d3⟩,-⟩:=zaf (HM.out.keep HB5.out).b1
   obtain ⟨⟨y0,y1,y2,y3⟩,z0,z1,z2,z3⟩:=HP.out.keep (HM.out.keep HB5.out).bel
   go_wp2_with (at_builtin;refine zav EPV rfl _ _ rfl W2.heap.size v5 (n+1) _ rfl (HO5.out.alloc _) _ 1 _ _ rfl (zbt _ #[.int .i64 xk,.int .i64 xn,.string xs,.slice ax M cx] _ 4 rfl) (one4 _ _ _ _ _ _) (by unfold maxLen;omega) (by omega) (by rw [zan];have:=HB5.out.size;omega) ?_;intro v6 w6 hO6 hg6 _;have HO6:=yb hO6;have HB6:=yb (show Below W2.heap.size W2 w6 from (HB5.out.alloc HB5.out.size _).grown hg6 (by rw [zan];have:=HB5.out.size;omega) (fun q hq=>(HO5.out.lt q hq).1));clear hO6 hg6)
   go_roundw
   case rel=>exact ⟨j+1,K+2,n+1+1,_,rfl,by go_num,by have:=HK.out;show K+2=2*(j+1);omega,hNe,by omega,HO6,yb (HST2.out _ HV.out),HB6⟩
   case measure=>simp [intOf];omega
  ·rw [yh hj] at hst
   have hKA:K≠A':=by have h1:=HA2.out;have h2:=HK.out;omega
   have hAe:((K:Int)==(A':Int))=false:=by rw [yf];omega
   have hAf:decide (K=A')=false:=ye hKA
   have HST2:=yb (show ∀cs',IsVs w F (zaV ((repK X ps).take j)) cs'->IsVs w F (zaV ((repK X ps).take (j+1))) ((cs'++[.int .i64 5,.int .i64 y.1.n,.string (mkB y.1.s),.slice ya y.1.l.length yc])++[.int .i64 y.2.kind,.int .i64 y.2.n,.string (mkB y.2.s),.slice za y.2.l.length zc]) from fun cs' h=>by
    rw [hst]
    have h2:=HZV.out _ _ (HYV.out _ _ h)
    rwa [List.append_assoc] at h2)
   clear hst hvy hvz HYV HZV hKA hj hjl hy HST
   generalize y.1.n=yn at *
   generalize mkB y.1.s=ys at *
   generalize y.1.l.length=yl at *
   generalize y.2.kind=zk at *
   generalize y.2.n=zn at *
   generalize mkB y.2.s=zs at *
   generalize y.2.l.length=zl at *
   go_upto_region 13 with (at_builtin;refine zav EPV rfl _ _ rfl W2.heap.size _ n cs rfl (HO.out.alloc _) _ 1 _ _ rfl (zbt _ #[.int .i64 5,.int .i64 yn,.string ys,.slice ya yl yc] _ 4 rfl) (one4 _ _ _ _ _ _) (by unfold maxLen;omega) (by omega) (by rw [zan];have:=HB.out.size;omega) ?_;intro v5 w5 hO5 hg5 _;have HO5:=yb hO5;have HB5:=yb (show Below W2.heap.size W2 w5 from (HB.out.alloc HB.out.size _).grown hg5 (by rw [zan];have:=HB.out.size;omega) (fun q hq=>(HO.out.lt q hq).1));clear hO5 hg5)
   clear c0 c1 c2 c3 d0 d1 d2 d3 fz0 fz1 fz2 fz3 y0 y1 y2 y3 z0 z1 z2 z3
   obtain ⟨⟨c0,c1,c2,c3⟩,fz0,fz1,fz2,fz3⟩:=zaf (HM.out.keep HB5.out).b0
   obtain ⟨⟨d0,d1,d2,d3⟩,-⟩:=zaf (HM.out.keep HB5.out).b1
   obtain ⟨⟨y0,y1,y2,y3⟩,z0,z1,z2,z3⟩:=HP.out.keep (HM.out.keep HB5.out).bel
   go_wp2_with (at_builtin;refine zav EPV rfl _ _ rfl W2.heap.size v5 (n+1) _ rfl (HO5.out.alloc _) _ 1 _ _ rfl (zbt _ #[.int .i64 zk,.int .i64 zn,.string zs,.slice za zl zc] _ 4 rfl) (one4 _ _ _ _ _ _) (by unfold maxLen;omega) (by omega) (by rw [zan];have:=HB5.out.size;omega) ?_;intro v6 w6 hO6 hg6 _;have HO6:=yb hO6;have HB6:=yb (show Below W2.heap.size W2 w6 from (HB5.out.alloc HB5.out.size _).grown hg6 (by rw [zan];have:=HB5.out.size;omega) (fun q hq=>(HO5.out.lt q hq).1));clear hO6 hg6)
   go_roundw
   case rel=>exact ⟨j+1,K+2,n+1+1,_,rfl,by go_num,by have:=HK.out;show K+2=2*(j+1);omega,hNe,by omega,HO6,yb (HST2.out _ HV.out),HB6⟩
   case measure=>simp [intOf];omega
theorem put_ins {w:World} {ps:List (PV×PV)} (hv:IsV w F (dctV ps) sl) (h5:∀y∈ps,y.1.kind=5) (key:List UInt8) {x:PV} (hx:IsV w F x sx) (hm:ps.length<=400000) (hh:¬fIx key ps<ps.length) :
  Calls Tryz.prog 165 #[pvA (dctV ps) sl,.string (mkB key),pvA x sx] w fun e w'=>∃s',e=.returned (pvA (dctV (insK (.mk 5 0 key [],x) ps)) s')/\IsV w' (fun b=>F b\/w.heap.size<=b) (dctV (insK (.mk 5 0 key [],x) ps)) s'/\Below w.heap.size w w':=by
 obtain ⟨a1,cap1,e1,g1,g2,-⟩:=hv.len
 subst e1
 obtain ⟨ax,cx,ex,-⟩:=hx.len
 subst ex
 have HFI:=yb (fun (W:World) (h:Below w.heap.size w W)=>zgY (hv.below h) h5 key)
 obtain ⟨N,hN⟩:∃N,N=(dctV ps).l.length:=⟨_,rfl⟩
 have hN2:N=2*ps.length:=by rw [hN];exact zc5 ps
 rw [<-hN] at hv g1 HFI |-
 obtain ⟨A,hA⟩:∃A,A=zfA key ps:=⟨_,rfl⟩
 rw [<-hA] at HFI
 have HA:=yb hv
 have m0:N<=800000:=by omega
 have m1:(N:Int)<=9223372036854775807:=by omega
 have HNN:=yb hN2
 have H5:=yb h5
 have HX:=yb hx
 have HHH:=yb hh
 obtain ⟨X,hX⟩:∃X:PV×PV,X=(.mk 5 0 key [],x):=⟨_,rfl⟩
 rw [<-hX]
 unfold pvA at HFI |-
 rw [show (dctV ps).kind=7 from rfl,show (dctV ps).n=0 from rfl,show mkB (dctV ps).s=⟨#[]⟩ from rfl] at HFI |-
 obtain ⟨M,hM⟩:∃M,M=x.l.length:=⟨_,rfl⟩
 rw [<-hM] at HX |-
 obtain ⟨xk,hxk⟩:∃k,k=x.kind:=⟨_,rfl⟩
 obtain ⟨xn,hxn⟩:∃k,k=x.n:=⟨_,rfl⟩
 obtain ⟨xs,hxs⟩:∃k,k=mkB x.s:=⟨_,rfl⟩
 rw [<-hxk,<-hxn,<-hxs]
 have HXV:=yb (show ∀(l:List PV) (cs:List Value),IsVs w F l cs->IsVs w F (l++[x]) (cs++[.int .i64 xk,.int .i64 xn,.string xs,.slice ax M cx]) from fun l cs h=>by rw [hxk,hxn,hxs];exact h.snoc HX.out)
 obtain rfl:A=-1:=by rw [hA];unfold zfA;rw [yh hh]
 have HS1:=yb (fun (j:Nat) (y:PV×PV) (hy:ps[j]?=some y) (hj:j≠gIx key ps)=>show zaV (insT X ps (j+1))=zaV (insT X ps j)++[y.1,y.2] by subst hX;exact insT_step _ ps j y hy hj)
 have HS2:=yb (fun (j:Nat) (y:PV×PV) (hy:ps[j]?=some y) (hj:j=gIx key ps)=>show zaV (insT X ps (j+1))=zaV (insT X ps j)++[PV.mk 5 0 key [],x,y.1,y.2] by subst hX;subst hj;exact insT_here _ ps y hy)
 have HSE:=yb (show insK X ps=if gIx key ps<ps.length then insT X ps ps.length else insT X ps ps.length++[(PV.mk 5 0 key [],x)] by subst hX;exact insT_end _ ps)
 have HKV:=yb (show ∀(l:List PV) (cs:List Value),IsVs w F l cs->IsVs w F (l++[PV.mk 5 0 key []]) (cs++[.int .i64 5,.int .i64 0,.string (mkB key),.slice none 0 0]) from fun l cs h=>h.snoc (IsV.leaf w F (PV.mk 5 0 key []) rfl))
 have HT0:=yb (show insT X ps 0=[] from insT_zero X ps)
 have HC1:=yb (fun (a:List UInt8)=>show Op.bytesLess (mkB key).toList (mkB a).toList=sLt key a by rw [zaP,zaP,zea])
 have HC2:=yb (fun (a:List UInt8)=>show Op.bytesLess (mkB a).toList (mkB key).toList=sLt a key by rw [zaP,zaP,zea])
 have HC3:=yb (fun (a:List UInt8)=>show ((mkB a).toList==(mkB key).toList)=decide (a=key) by rw [zaP key];exact zbM a key)
 have HC4:=yb (fun (a:List UInt8)=>show ((mkB key).toList==(mkB a).toList)=decide (key=a) by rw [zaP a];exact zbM key a)
 generalize mkB key=ks at *
 clear hv hN hN2 h5 hx hh hA hX hM hxk hxn hxs HX g1 g2
 go_enter Tryz.func165,Tryz.ntmps165
 obtain ⟨B,hB⟩:∃B,B=w.heap.size:=⟨_,rfl⟩
 have HM0:=yb (show PutM w (((w.alloc (.cells #[.int .i64 7,.int .i64 0,.string ⟨#[]⟩,.slice a1 N cap1] 27)).alloc (.cells #[.int .i64 xk,.int .i64 xn,.string xs,.slice ax M cx] 27)).alloc (.cells #[.int .i64 0,.int .i64 0,.string ⟨#[]⟩,.slice none 0 0] 27)) B #[.int .i64 7,.int .i64 0,.string ⟨#[]⟩,.slice a1 N cap1] #[.int .i64 xk,.int .i64 xn,.string xs,.slice ax M cx] from
  ⟨zak _ (zak _ (zac _ hB)),zak _ (zac _ (by rw [zan,hB])),zac _ (by rw [zan,zan,hB]),ze7 _ _ _ _,hB⟩)
 go_upto_region 1 with fail
 rw [<-hB]
 clear hB
 generalize ((w.alloc _).alloc _).alloc _=W1 at *
 obtain ⟨⟨c0,c1,c2,c3⟩,-⟩:=zaf HM0.out.b0
 go_wp2_with fail
 refine (HFI.out _ HM0.out.bel).mono ?_
 rintro e W2 ⟨rfl,hb2⟩
 have HM:=yb (HM0.out.keep hb2)
 clear hb2 c0 c1 c2 c3 HFI HM0
 go_wp2
 go_loopw [7,9,10] (fun vo vd vk wr=>∃(j K n:Nat) (cs:List Value) (d:Bool),vd=.bool d/\vk=.int .i64 K/\Hid (d=decide (gIx key ps<j))/\Hid (K=2*j)/\K<=N/\n<=K+2/\Hid (d=false->n<=K)/\Hid (wr.ownsRow W2.heap.size 27 4 vo n cs)/\Hid (IsVs w F (zaV (insT X ps j)) cs)/\Hid (Below W2.heap.size W2 wr)) (fun _ _ vk _=>N-(intOf vk).toNat)
 case atStart=>exact ⟨0,0,0,[],false,rfl,rfl,yb (ye (Nat.not_lt_zero _)).symm,rfl,Nat.zero_le _,Nat.zero_le _,yb fun _=>yp _,World.ownsRow_nil _ _ _ _,yb (by rw [HT0.out];rfl),Below.refl _ _⟩
 case round =>
  obtain ⟨j,K,n,cs,d,rfl,rfl,HD,HK,hK,hn,HND,HO,HV,HB⟩:=hrel
  by_cases q1:K<N
  case neg =>
   have hd1:decide (K<N)=false:=ye q1
   have hd2:decide ((K:Int)<(N:Int))=false:=ye (by omega)
   have hq2:¬(K:Int)<(N:Int):=by omega
   have hjl:j=ps.length:=by have h1:=HK.out;have h2:=HNN.out;omega
   have hSE:=HSE.out
   obtain ⟨va,vc,hve,-⟩:=zas HO.out
   subst hve
   cases d with
   | true =>
    have hg:gIx key ps<ps.length:=by
     have h1:=of_decide_eq_true HD.out.symm
     omega
    rw [yg hg,<-hjl] at hSE
    have HV2:=yb (show IsVs w F (zaV (insK X ps)) cs by rw [hSE];exact HV.out)
    obtain ⟨⟨c0,c1,c2,c3⟩,fz0,fz1,fz2,fz3⟩:=zaf (HM.out.keep HB.out).b0
    obtain ⟨⟨d0,d1,d2,d3⟩,-⟩:=zaf (HM.out.keep HB.out).b1
    obtain ⟨⟨x0,x1,x2,x3⟩,gz0,gz1,gz2,gz3⟩:=zaf (HM.out.keep HB.out).b2
    clear hSE HSE hg hjl HK HS1 HS2 HHH HV HNN HC1 HC2 HC3 HC4 HD HND HKV HXV
    go_wp2
    obtain ⟨e1,e2,e3⟩:=zhd HM.out HB.out (.slice va n vc) (.int .i64 7) (.int .i64 0) (.string ⟨#[]⟩) (.slice va n vc)
    refine yi (results_cell_row rfl _ _ (B+1+1) 27 _ (0,0) _ rfl (by exact e3) Tryz.underlying27 rfl (by exact zar)) rfl ?_
    exact ⟨(.slice va n vc),rfl,put_fin HO.out HV2.out HM.out.bel.size e2 e1 7,e1⟩
   | false =>
    have hg:¬gIx key ps<ps.length:=by
     have h1:=of_decide_eq_false HD.out.symm
     omega
    rw [yh hg,<-hjl] at hSE
    have HV2:=yb (show IsVs w F (zaV (insK X ps)) (cs++[.int .i64 5,.int .i64 0,.string ks,.slice none 0 0,.int .i64 xk,.int .i64 xn,.string xs,.slice ax M cx]) by
     rw [hSE,zdU]
     have h2:=HXV.out _ _ (HKV.out _ _ HV.out)
     rw [List.append_assoc,List.append_assoc] at h2
     exact h2)
    have hnK:=HND.out rfl
    obtain ⟨⟨c0,c1,c2,c3⟩,fz0,fz1,fz2,fz3⟩:=zaf (HM.out.keep HB.out).b0
    obtain ⟨⟨d0,d1,d2,d3⟩,-⟩:=zaf (HM.out.keep HB.out).b1
    obtain ⟨⟨x0,x1,x2,x3⟩,gz0,gz1,gz2,gz3⟩:=zaf (HM.out.keep HB.out).b2
    clear hSE HSE hg hjl HK HS1 HS2 HHH HV HNN HC1 HC2 HC3 HC4 HD HND HKV HXV
    go_upto_region 19 with (at_builtin;refine zav EPV rfl _ _ rfl W2.heap.size _ n cs rfl (HO.out.alloc _) _ 2 _ _ rfl (row_newM2 _ #[.int .i64 5,.int .i64 0,.string ks,.slice none 0 0,.int .i64 xk,.int .i64 xn,.string xs,.slice ax M cx] _ rfl) (one8 _ _ _ _ _ _ _ _ _ _ _ _) (by unfold maxLen;omega) (by omega) (by rw [zan];have:=HB.out.size;omega) ?_;intro v5 w5 hO5 hg5 _;have HO5:=yb hO5;have HB5:=yb (show Below W2.heap.size W2 w5 from (HB.out.alloc HB.out.size _).grown hg5 (by rw [zan];have:=HB.out.size;omega) (fun q hq=>(HO.out.lt q hq).1));clear hO5 hg5)
    obtain ⟨va5,vc5,hve5,-⟩:=zas HO5.out
    subst hve5
    clear c0 c1 c2 c3 d0 d1 d2 d3 fz0 fz1 fz2 fz3 x0 x1 x2 x3 gz0 gz1 gz2 gz3
    obtain ⟨⟨c0,c1,c2,c3⟩,fz0,fz1,fz2,fz3⟩:=zaf (HM.out.keep HB5.out).b0
    obtain ⟨⟨d0,d1,d2,d3⟩,-⟩:=zaf (HM.out.keep HB5.out).b1
    obtain ⟨⟨x0,x1,x2,x3⟩,gz0,gz1,gz2,gz3⟩:=zaf (HM.out.keep HB5.out).b2
    go_wp2
    obtain ⟨e1,e2,e3⟩:=zhd HM.out HB5.out (.slice va5 (n+2) vc5) (.int .i64 7) (.int .i64 0) (.string ⟨#[]⟩) (.slice va5 (n+2) vc5)
    refine yi (results_cell_row rfl _ _ (B+1+1) 27 _ (0,0) _ rfl (by exact e3) Tryz.underlying27 rfl (by exact zar)) rfl ?_
    exact ⟨(.slice va5 (n+2) vc5),rfl,put_fin HO5.out HV2.out HM.out.bel.size e2 e1 7,e1⟩
  have hjl:j<ps.length:=by
   have h1:=HK.out
   have h2:=HNN.out
   omega
  obtain ⟨y,hy⟩:∃y,ps[j]?=some y:=⟨_,List.getElem?_eq_getElem hjl⟩
  obtain ⟨b1,o1,sy,sz,rfl,hvy,hvz,y0,y1,y2,y3,z0,z1,z2,z3⟩:=HA.out.pair hy
  obtain ⟨ya,yc,rfl,-⟩:=hvy.len
  obtain ⟨za,zc,rfl,-⟩:=hvz.len
  rw [<-HK.out] at y0 y1 y2 y3 z0 z1 z2 z3
  rw [H5.out y (List.mem_of_getElem? hy)] at y0
  have HP:=yb (show PairAt w b1 o1 K 5 y.1.n (mkB y.1.s) (.slice ya y.1.l.length yc) y.2.kind y.2.n (mkB y.2.s) (.slice za y.2.l.length zc) from ⟨⟨y0,y1,y2,y3⟩,z0,z1,z2,z3⟩)
  clear y0 y1 y2 y3 z0 z1 z2 z3
  have HYV:=yb (show ∀(l:List PV) (cs:List Value),IsVs w F l cs->IsVs w F (l++[y.1]) (cs++[.int .i64 5,.int .i64 y.1.n,.string (mkB y.1.s),.slice ya y.1.l.length yc]) from fun l cs h=>by have h2:=h.snoc hvy;unfold pvC at h2;rw [H5.out y (List.mem_of_getElem? hy)] at h2;exact h2)
  have HZV:=yb (show ∀(l:List PV) (cs:List Value),IsVs w F l cs->IsVs w F (l++[y.2]) (cs++[.int .i64 y.2.kind,.int .i64 y.2.n,.string (mkB y.2.s),.slice za y.2.l.length zc]) from fun l cs h=>h.snoc hvz)
  have hkl:(0:Int)<=(K:Int):=by omega
  have hki:(K:Int)<(N:Int):=by omega
  have hd1:decide (K<N)=true:=yd q1
  have hd2:decide ((K:Int)<(N:Int))=true:=yd hki
  have hNe:K+2<=N:=by have h1:=HK.out;have h2:=HNN.out;omega
  have hkl1:(0:Int)<=(K:Int)+1:=by omega
  have hki1:(K:Int)+1<(N:Int):=by omega
  have hd3:decide ((K:Int)+1<(N:Int))=true:=yd hki1
  have hkw:IntKind.i64.wrap ((K:Int)+1)=(K:Int)+1:=IntWalk.i64_in _ (by omega)
  have hkn:((K:Int)+1).toNat=K+1:=by omega
  have hKm:((K:Int)==-1)=false:=by rw [yf];omega
  have hys:y.1.s≠key:=fIx_ne key ps j y (by have h1:=HHH.out;have h2:=fIx_le key ps;omega) hy
  have c4:=HC1.out y.1.s
  have c5:=HC2.out y.1.s
  have c6:=HC3.out y.1.s
  have c7:=HC4.out y.1.s
  rw [ye hys] at c6
  rw [ye (fun e=>hys e.symm)] at c7
  clear HC1 HC2 HC3 HC4
  by_cases hj:j=gIx key ps
  ·have hyg:sLt key y.1.s=true:=gIx_yes key ps y (by rw [<-hj];exact hy)
   rw [hyg] at c4
   rw [sLt_as _ _ hyg] at c5
   obtain rfl:d=false:=by rw [HD.out];exact ye (by omega)
   have HDN:=yb (show true=decide (gIx key ps<j+1) from (yd (by omega)).symm)
   have hst:=HS2.out j y hy hj
   have hnK:=HND.out rfl
   have HST2:=yb (show ∀cs',IsVs w F (zaV (insT X ps j)) cs'->IsVs w F (zaV (insT X ps (j+1))) (((cs'++[.int .i64 5,.int .i64 0,.string ks,.slice none 0 0,.int .i64 xk,.int .i64 xn,.string xs,.slice ax M cx])++[.int .i64 5,.int .i64 y.1.n,.string (mkB y.1.s),.slice ya y.1.l.length yc])++[.int .i64 y.2.kind,.int .i64 y.2.n,.string (mkB y.2.s),.slice za y.2.l.length zc]) from fun cs' h=>by
    rw [hst]
    have h2:=HZV.out _ _ (HYV.out _ _ (HXV.out _ _ (HKV.out _ _ h)))
    rw [List.append_assoc,List.append_assoc,List.append_assoc,List.append_assoc cs'] at h2
    exact h2)
   clear hst hvy hvz HYV HZV HXV HKV hj hjl hy HS1 HS2 HSE HD HND HHH hyg hys H5 HNN HA
   generalize y.1.n=yn at *
   generalize mkB y.1.s=ys at *
   generalize y.1.l.length=yl at *
   generalize y.2.kind=zk at *
   generalize y.2.n=zn at *
   generalize mkB y.2.s=zs at *
   generalize y.2.l.length=zl at *
   obtain ⟨⟨c0,c1,c2,c3⟩,fz0,fz1,fz2,fz3⟩:=zaf (HM.out.keep HB.out).b0
   obtain ⟨⟨d0,d1,d2,d3⟩,-⟩:=zaf (HM.out.keep HB.out).b1
   obtain ⟨⟨y0,y1,y2,y3⟩,z0,z1,z2,z3⟩:=HP.out.keep (HM.out.keep HB.out).bel
   go_upto_region 12 with (at_builtin;refine zav EPV rfl _ _ rfl W2.heap.size _ n _ rfl (HO.out.alloc _) _ 2 _ _ rfl (row_newM2 _ #[.int .i64 5,.int .i64 0,.string ks,.slice none 0 0,.int .i64 xk,.int .i64 xn,.string xs,.slice ax M cx] _ rfl) (one8 _ _ _ _ _ _ _ _ _ _ _ _) (by unfold maxLen;omega) (by omega) (by rw [zan];have:=HB.out.size;omega) ?_;intro v5 w5 hO5 hg5 _;have HO5:=yb hO5;have HB5:=yb (show Below W2.heap.size W2 w5 from (HB.out.alloc HB.out.size _).grown hg5 (by rw [zan];have:=HB.out.size;omega) (fun q hq=>(HO.out.lt q hq).1));clear hO5 hg5)
   clear c0 c1 c2 c3 d0 d1 d2 d3 fz0 fz1 fz2 fz3 y0 y1 y2 y3 z0 z1 z2 z3
   obtain ⟨⟨c0,c1,c2,c3⟩,fz0,fz1,fz2,fz3⟩:=zaf (HM.out.keep HB5.out).b0
   obtain ⟨⟨d0,d1,d2,d3⟩,-⟩:=zaf (HM.out.keep HB5.out).b1
   obtain ⟨⟨y0,y1,y2,y3⟩,z0,z1,z2,z3⟩:=HP.out.keep (HM.out.keep HB5.out).bel
   go_upto_region 13 with (at_builtin;refine zav EPV rfl _ _ rfl W2.heap.size v5 (n+2) _ rfl (HO5.out.alloc _) _ 1 _ _ rfl (zbt _ #[.int .i64 5,.int .i64 yn,.string ys,.slice ya yl yc] _ 4 rfl) (one4 _ _ _ _ _ _) (by unfold maxLen;omega) (by omega) (by rw [zan];have:=HB5.out.size;omega) ?_;intro v6 w6 hO6 hg6 _;have HO6:=yb hO6;have HB6:=yb (show Below W2.heap.size W2 w6 from (HB5.out.alloc HB5.out.size _).grown hg6 (by rw [zan];have:=HB5.out.size;omega) (fun q hq=>(HO5.out.lt q hq).1));clear hO6 hg6)
   clear c0 c1 c2 c3 d0 d1 d2 d3 fz0 fz1 fz2 fz3 y0 y1 y2 y3 z0 z1 z2 z3
   obtain ⟨⟨c0,c1,c2,c3⟩,fz0,fz1,fz2,fz3⟩:=zaf (HM.out.keep HB6.out).b0
   obtain ⟨⟨d0,d1,d2,d3⟩,-⟩:=zaf (HM.out.keep HB6.out).b1
   obtain ⟨⟨y0,y1,y2,y3⟩,z0,z1,z2,z3⟩:=HP.out.keep (HM.out.keep HB6.out).bel
   go_wp2_with (at_builtin;refine zav EPV rfl _ _ rfl W2.heap.size v6 ((n+2)+1) _ rfl (HO6.out.alloc _) _ 1 _ _ rfl (zbt _ #[.int .i64 zk,.int .i64 zn,.string zs,.slice za zl zc] _ 4 rfl) (one4 _ _ _ _ _ _) (by unfold maxLen;omega) (by omega) (by rw [zan];have:=HB6.out.size;omega) ?_;intro v7 w7 hO7 hg7 _;have HO7:=yb hO7;have HB7:=yb (show Below W2.heap.size W2 w7 from (HB6.out.alloc HB6.out.size _).grown hg7 (by rw [zan];have:=HB6.out.size;omega) (fun q hq=>(HO6.out.lt q hq).1));clear hO7 hg7)
   go_roundw
   case rel=>exact ⟨j+1,K+2,(n+2)+1+1,_,true,rfl,by go_num,HDN,by have:=HK.out;show K+2=2*(j+1);omega,hNe,by omega,yb (fun h=>(by cases h)),HO7,yb (HST2.out _ HV.out),HB7⟩
   case measure=>simp [intOf];omega
  by_cases hj2:j<gIx key ps
  ·have hyg:sLt key y.1.s=false:=gIx_no key ps j y hj2 hy
   have hyl:sLt y.1.s key=true:=zcJ _ _ hyg (fun e=>hys e.symm)
   rw [hyg] at c4
   rw [hyl] at c5
   obtain rfl:d=false:=by rw [HD.out];exact ye (by omega)
   have HDN:=yb (show false=decide (gIx key ps<j+1) from (ye (by omega)).symm)
   have hnK:=HND.out rfl
   have hst:=HS1.out j y hy hj
   have HST2:=yb (show ∀cs',IsVs w F (zaV (insT X ps j)) cs'->IsVs w F (zaV (insT X ps (j+1))) ((cs'++[.int .i64 5,.int .i64 y.1.n,.string (mkB y.1.s),.slice ya y.1.l.length yc])++[.int .i64 y.2.kind,.int .i64 y.2.n,.string (mkB y.2.s),.slice za y.2.l.length zc]) from fun cs' h=>by
    rw [hst]
    have h2:=HZV.out _ _ (HYV.out _ _ h)
    rwa [List.append_assoc] at h2)
   clear hst hvy hvz HYV HZV HXV HKV hj hjl hy HS1 HS2 HSE HD HND HHH hyg hyl H5 HNN HA hj2 hys
   generalize y.1.n=yn at *
   generalize mkB y.1.s=ys at *
   generalize y.1.l.length=yl at *
   generalize y.2.kind=zk at *
   generalize y.2.n=zn at *
   generalize mkB y.2.s=zs at *
   generalize y.2.l.length=zl at *
   obtain ⟨⟨c0,c1,c2,c3⟩,fz0,fz1,fz2,fz3⟩:=zaf (HM.out.keep HB.out).b0
   obtain ⟨⟨d0,d1,d2,d3⟩,-⟩:=zaf (HM.out.keep HB.out).b1
   obtain ⟨⟨y0,y1,y2,y3⟩,z0,z1,z2,z3⟩:=HP.out.keep (HM.out.keep HB.out).bel
   go_upto_region 13 with (at_builtin;refine zav EPV rfl _ _ rfl W2.heap.size _ n _ rfl (HO.out.alloc _) _ 1 _ _ rfl (zbt _ #[.int .i64 5,.int .i64 yn,.string ys,.slice ya yl yc] _ 4 rfl) (one4 _ _ _ _ _ _) (by unfold maxLen;omega) (by omega) (by rw [zan];have:=HB.out.size;omega) ?_;intro v5 w5 hO5 hg5 _;have HO5:=yb hO5;have HB5:=yb (show Below W2.heap.size W2 w5 from (HB.out.alloc HB.out.size _).grown hg5 (by rw [zan];have:=HB.out.size;omega) (fun q hq=>(HO.out.lt q hq).1));clear hO5 hg5)
   clear c0 c1 c2 c3 d0 d1 d2 d3 fz0 fz1 fz2 fz3 y0 y1 y2 y3 z0 z1 z2 z3
   obtain ⟨⟨c0,c1,c2,c3⟩,fz0,fz1,fz2,fz3⟩:=zaf (HM.out.keep HB5.out).b0
   obtain ⟨⟨d0,d1,d2,d3⟩,-⟩:=zaf (HM.out.keep HB5.out).b1
   obtain ⟨⟨y0,y1,y2,y3⟩,z0,z1,z2,z3⟩:=HP.out.keep (HM.out.keep HB5.out).bel
   go_wp2_with (at_builtin;refine zav EPV rfl _ _ rfl W2.heap.size v5 (n+1) _ rfl (HO5.out.alloc _) _ 1 _ _ rfl (zbt _ #[.int .i64 zk,.int .i64 zn,.string zs,.slice za zl zc] _ 4 rfl) (one4 _ _ _ _ _ _) (by unfold maxLen;omega) (by omega) (by rw [zan];have:=HB5.out.size;omega) ?_;intro v6 w6 hO6 hg6 _;have HO6:=yb hO6;have HB6:=yb (show Below W2.heap.size W2 w6 from (HB5.out.alloc HB5.out.size _).grown hg6 (by rw [zan];have:=HB5.out.size;omega) (fun q hq=>(HO5.out.lt q hq).1));clear hO6 hg6)
   go_roundw
   case rel=>exact ⟨j+1,K+2,n+1+1,_,false,rfl,by go_num,HDN,by have:=HK.out;show K+2=2*(j+1);omega,hNe,by omega,yb (fun _=>(by omega)),HO6,yb (HST2.out _ HV.out),HB6⟩
   case measure=>simp [intOf];omega
  ·obtain rfl:d=true:=by rw [HD.out];exact yd (by omega)
   have HDN:=yb (show true=decide (gIx key ps<j+1) from (yd (by omega)).symm)
   have hst:=HS1.out j y hy hj
   have HST2:=yb (show ∀cs',IsVs w F (zaV (insT X ps j)) cs'->IsVs w F (zaV (insT X ps (j+1))) ((cs'++[.int .i64 5,.int .i64 y.1.n,.string (mkB y.1.s),.slice ya y.1.l.length yc])++[.int .i64 y.2.kind,.int .i64 y.2.n,.string (mkB y.2.s),.slice za y.2.l.length zc]) from fun cs' h=>by
    rw [hst]
    have h2:=HZV.out _ _ (HYV.out _ _ h)
    rwa [List.append_assoc] at h2)
   clear hst hvy hvz HYV HZV HXV HKV hj hjl hy HS1 HS2 HSE HD HND HHH  H5 HNN HA hj2 hys c4 c5 c6 c7
   generalize y.1.n=yn at *
   generalize mkB y.1.s=ys at *
   generalize y.1.l.length=yl at *
   generalize y.2.kind=zk at *
   generalize y.2.n=zn at *
   generalize mkB y.2.s=zs at *
   generalize y.2.l.length=zl at *
   obtain ⟨⟨c0,c1,c2,c3⟩,fz0,fz1,fz2,fz3⟩:=zaf (HM.out.keep HB.out).b0
   obtain ⟨⟨d0,d1,d2,d3⟩,-⟩:=zaf (HM.out.keep HB.out).b1
   obtain ⟨⟨y0,y1,y2,y3⟩,z0,z1,z2,z3⟩:=HP.out.keep (HM.out.keep HB.out).bel
   go_upto_region 13 with (at_builtin;refine zav EPV rfl _ _ rfl W2.heap.size _ n _ rfl (HO.out.alloc _) _ 1 _ _ rfl (zbt _ #[.int .i64 5,.int .i64 yn,.string ys,.slice ya yl yc] _ 4 rfl) (one4 _ _ _ _ _ _) (by unfold maxLen;omega) (by omega) (by rw [zan];have:=HB.out.size;omega) ?_;intro v5 w5 hO5 hg5 _;have HO5:=yb hO5;have HB5:=yb (show Below W2.heap.size W2 w5 from (HB.out.alloc HB.out.size _).grown hg5 (by rw [zan];have:=HB.out.size;omega) (fun q hq=>(HO.out.lt q hq).1));clear hO5 hg5)
   clear c0 c1 c2 c3 d0 d1 d2 d3 fz0 fz1 fz2 fz3 y0 y1 y2 y3 z0 z1 z2 z3
   obtain ⟨⟨c0,c1,c2,c3⟩,fz0,fz1,fz2,fz3⟩:=zaf (HM.out.keep HB5.out).b0
   obtain ⟨⟨d0,d1,d2,d3⟩,-⟩:=zaf (HM.out.keep HB5.out).b1
   obtain ⟨⟨y0,y1,y2,y3⟩,z0,z1,z2,z3⟩:=HP.out.keep (HM.out.keep HB5.out).bel
   go_wp2_with (at_builtin;refine zav EPV rfl _ _ rfl W2.heap.size v5 (n+1) _ rfl (HO5.out.alloc _) _ 1 _ _ rfl (zbt _ #[.int .i64 zk,.int .i64 zn,.string zs,.slice za zl zc] _ 4 rfl) (one4 _ _ _ _ _ _) (by unfold maxLen;omega) (by omega) (by rw [zan];have:=HB5.out.size;omega) ?_;intro v6 w6 hO6 hg6 _;have HO6:=yb hO6;have HB6:=yb (show Below W2.heap.size W2 w6 from (HB5.out.alloc HB5.out.size _).grown hg6 (by rw [zan];have:=HB5.out.size;omega) (fun q hq=>(HO5.out.lt q hq).1));clear hO6 hg6)
   go_roundw
   case rel=>exact ⟨j+1,K+2,n+1+1,_,true,rfl,by go_num,HDN,by have:=HK.out;show K+2=2*(j+1);omega,hNe,by omega,yb (fun h=>(by cases h)),HO6,yb (HST2.out _ HV.out),HB6⟩
   case measure=>simp [intOf];omega
theorem put_any {w:World} {ps:List (PV×PV)} (hv:IsV w F (dctV ps) sl) (h5:∀y∈ps,y.1.kind=5) (key:List UInt8) {x:PV} (hx:IsV w F x sx) (hm:ps.length<=400000) :
  Calls Tryz.prog 165 #[pvA (dctV ps) sl,.string (mkB key),pvA x sx] w fun e w'=>∃s',e=.returned (pvA (dctV (putK (.mk 5 0 key [],x) ps)) s')/\IsV w' (fun b=>F b\/w.heap.size<=b) (dctV (putK (.mk 5 0 key [],x) ps)) s'/\Below w.heap.size w w':=by
 have hk:=fIx_has key ps
 have hu:putK (PV.mk 5 0 key [],x) ps=if hasK key ps then repK (PV.mk 5 0 key [],x) ps else insK (PV.mk 5 0 key [],x) ps:=rfl
 rw [hu,hk]
 by_cases h:fIx key ps<ps.length
 ·rw [yg (yd h)]
  exact put_rep hv h5 key hx hm h
 ·rw [yh (by rw [ye h];decide)]
  exact put_ins hv h5 key hx hm h
mutual
theorem IsV.lt {w:World} {F:Nat->Prop}:∀(v:PV) {sl:Value},IsV w F v sl->IsV w (fun b=>F b/\b<w.heap.size) v sl
 | .mk _ _ _ l,_,⟨a,cap,cs,h,hr,hF,hs⟩=>⟨a,cap,cs,h,hr,fun h0 x hx=>⟨hF h0 x hx,by
   obtain ⟨b,off,ha,hb,_⟩:=hr.2.2.2.2 h0
   rw [ha] at hx
   cases hx
   exact hb⟩,IsVs.lt l hs⟩
theorem IsVs.lt {w:World} {F:Nat->Prop}:∀(l:List PV) {cs:List Value},IsVs w F l cs->IsVs w (fun b=>F b/\b<w.heap.size) l cs
 | [],_,h=>h
 | v::l,_,⟨sl,t,h,hv,ht⟩=>⟨sl,t,h,IsV.lt v hv,IsVs.lt l ht⟩
end
theorem zaK.weakenF {w:World} (h:zaK F w w') (hG:∀b,G b->F b):zaK G w w':=⟨h.1,fun b hb hf=>h.2 b hb (hG b hf)⟩
def ArrM (Q:Nat) (w:World) (v:Value) (n:Nat) (l:List PV):Prop:=∃cs,w.ownsRow Q 27 4 v n cs/\IsVs w (fun b=>Q<=b/\b<w.heap.size/\v.ownBlock≠some b) l cs
theorem ArrM.keep {Q:Nat} {w:World} {v:Value} {n:Nat} {l:List PV} (h:ArrM Q w v n l) (hb:Below w.heap.size w W):ArrM Q W v n l :=
 let ⟨cs,h1,h2⟩:=h
 ⟨cs,zaO h1 hb,IsVs.keep (zaK.of_below hb) (fun _ h=>⟨h.1,Nat.lt_of_lt_of_le h.2.1 hb.size,h.2.2⟩) _ h2⟩
theorem ArrM.push {Q:Nat} {w:World} {v:Value} {n:Nat} {l:List PV} (h2:IsVs w (fun b=>Q<=b/\b<w.heap.size/\v.ownBlock≠some b) l cs) {x:PV} (hx:IsV w (fun b=>Q<=b/\b<w.heap.size/\v.ownBlock≠some b) x sx) {o:Obj}
  (hO:w'.ownsRow Q 27 4 v' (n+1) (cs++pvC x sx)) (hg:(w.alloc o).grownBy w' v.ownBlock) (hn:NewAt (w.alloc o) v v'):ArrM Q w' v' (n+1) (l++[x]):=by
 have hs:w.heap.size<=w'.heap.size:=Nat.le_trans (by rw [zan];omega) hg.size
 refine ⟨_,hO,IsVs.keep (F:=fun b=>Q<=b/\b<w.heap.size/\v.ownBlock≠some b) ⟨hs,fun b hb hF=>?_⟩ (fun b hF=>⟨hF.1,Nat.lt_of_lt_of_le hF.2.1 hs,fun e=>?_⟩) _ (h2.snoc hx)⟩
 ·rw [hg.block b (by rw [zan];omega) (fun e=>hF.2.2 e.symm)]
  exact (zam w o).block b hb
 ·rcases hn b e with e|e
  ·exact hF.2.2 e
  ·rw [zan] at e;omega
def ValD (bs:List UInt8) (yq:Bool) (d:Nat):Prop:=∀(w:World) (a:Option Addr) (cap:Nat),Row w 1 a bs.length cap (bs.map u8C)->∀(x:Tk) (f tt:Int),
 Calls Tryz.prog 87 #[.slice a bs.length cap,.agg (tokN x f tt),.bool yq,.int .i64 (64-(d:Int))] w (zbP w (vlD bs yq d x tt))
theorem array_doc {w:World} {a:Option Addr} {cap:Nat} {bs:List UInt8} (hr:Row w 1 a bs.length cap (bs.map u8C)) (hn:bs.length<=400000) (yq:Bool) (d:Nat) (k0:Int) (hv:ValD bs yq d) :
  Calls Tryz.prog 128 #[.slice a bs.length cap,.int .i64 k0,.bool yq,.int .i64 (64-(d:Int))] w (zbP w (arrD bs yq (vlD bs yq d) (bs.length+1) [] k0)):=by
 have HN:=yb (fun (W:World) (h:Below w.heap.size w W) (k:Int)=>zbX (hr.mono h) hn k yq)
 have HVL:=yb (fun (W:World) (h:Below w.heap.size w W) (x:Tk) (f tt:Int)=>hv W a cap (hr.mono h) x f tt)
 obtain ⟨fn,hfn⟩:∃fn,fn=vlD bs yq d:=⟨_,rfl⟩
 rw [<-hfn] at HVL |-
 obtain ⟨R,hR⟩:∃R,R=arrD bs yq fn (bs.length+1) [] k0:=⟨_,rfl⟩
 rw [<-hR]
 have HR:=yb hR
 clear hr hv hfn hR
 generalize (64-(d:Int))=D at *
 obtain ⟨L,hL⟩:∃L,L=bs.length:=⟨_,rfl⟩
 rw [<-hL] at HN HVL HR hn |-
 clear hL
 unfold zaB tokN at HN
 unfold tokN at HVL
 go_enter Tryz.func128,Tryz.ntmps128
 obtain ⟨B,hB⟩:∃B,B=w.heap.size:=⟨_,rfl⟩
 have HZ:=yb (zac (w:=w) (b:=B) (.cells #[.int .i64 0,.int .i64 0,.string ⟨#[]⟩,.slice none 0 0] 27) hB)
 have HBW:=yb (zam w (.cells #[.int .i64 0,.int .i64 0,.string ⟨#[]⟩,.slice none 0 0] 27))
 go_upto_region 1 with fail
 rw [<-hB]
 have HBB:=yb (Nat.le_of_eq hB.symm)
 clear hB
 generalize w.alloc _=W1 at *
 go_wp2
 go_loopw [1,11,12] (fun vat vl vn wr=>∃(k:Int) (i:Nat) (l:List PV),vat=.int .i64 k/\vn=.int .i64 i/\i<=L+1/\Hid (ArrM W1.heap.size wr vl i l)/\Hid (Below W1.heap.size W1 wr)/\Hid (R=arrD bs yq fn (L+1-i) l k)) (fun _ _ vn _=>L+1-(intOf vn).toNat)
 case atStart=>exact ⟨k0,0,[],rfl,rfl,by omega,yb ⟨[],World.ownsRow_nil _ _ _ _,rfl⟩,Below.refl _ _,HR⟩
 case round =>
  obtain ⟨k,i,l,rfl,rfl,hi,HA,HB,HRR⟩:=hrel
  obtain ⟨cs0,hO0,-⟩:=HA.out
  obtain ⟨va,vc,hve,-⟩:=zas hO0
  subst hve
  clear hO0 cs0
  have HBr:=yb (HBW.out.trans (HB.out.mono HBW.out.size))
  have HZr:=yb (zab HB.out HZ.out)
  by_cases q1:i<=L
  case neg =>
   obtain rfl:i=L+1:=by omega
   have hd1:decide (L+1<=L)=false:=ye (by omega)
   have hd2:decide (((L+1:Nat):Int)<=(L:Int))=false:=ye (by omega)
   have hd3:decide ((L:Int)+1<=(L:Int))=false:=ye (by omega)
   have hrr:=HRR.out
   rw [Nat.sub_self] at hrr
   unfold arrD at hrr
   subst hrr
   clear HRR HA HR HN HVL q1 hi
   obtain ⟨⟨r0,r1,r2,r3⟩,rf0,rf1,rf2,rf3⟩:=zaf HZr.out
   go_wp2
   refine yi (zae rfl _ _ B 27 _ (0,0) _ rfl (by exact set4 HZr.out _ _ _ _) Tryz.underlying27 rfl (by exact zar) _ _ rfl rfl) rfl ?_
   exact zaI (R:=(PV.none,0,10)) rfl (zad HBr.out HBB.out _ _ _ _)
  have hd1:decide (i<=L)=true:=yd q1
  have hd2:decide ((i:Int)<=(L:Int))=true:=yd (by omega)
  have hq2:(i:Int)<=(L:Int):=by omega
  have hi0:(0:Int)<=(i:Int):=by omega
  have hiw:IntKind.i64.wrap ((i:Int)+1)=(i:Int)+1:=IntWalk.i64_in _ (by omega)
  have hrr:=HRR.out
  rw [show L+1-i=(L-i)+1 by omega] at hrr
  unfold arrD at hrr
  have HN1:=yb (HN.out _ HBr.out k)
  generalize zal bs k yq=V at *
  obtain ⟨x,f,t,er⟩:=V
  simp only at hrr HN1
  have HV1:=yb (fun (W:World) (h:Below w.heap.size w W)=>HVL.out W h x f t)
  replace HRR:=yb hrr
  clear hrr HR
  obtain ⟨xk,xvk,xvn,xvs,xs⟩:=x
  simp only at HN1 HV1 HRR
  generalize hfx:fn { kind:=xk,vk:=xvk,vn:=xvn,vs:=xvs,s:=xs } t=R1 at *
  clear hfx
  generalize mkB xvs=xvb at *
  generalize mkB xs=xb at *
  go_wp2_with fail
  refine HN1.out.mono ?_
  rintro e w2 ⟨rfl,hb2⟩
  have hb2a:=hb2.alloc hb2.size (.cells #[.int .i64 xk,.int .i64 f,.int .i64 t,.int .i64 xvk,.int .i64 xvn,.string xvb,.slice none 0 0,.string xb] 111)
  have HA2:=yb (HA.out.keep hb2a)
  have HB2:=yo HB hb2a
  have HT2:=yb (zac (w:=w2) (b:=w2.heap.size) (.cells #[.int .i64 xk,.int .i64 f,.int .i64 t,.int .i64 xvk,.int .i64 xvn,.string xvb,.slice none 0 0,.string xb] 111) rfl)
  have HS2:=yb (show wr.heap.size<=w2.heap.size from hb2.size)
  have HW1:=yb (show W1.heap.size<=wr.heap.size from HB.out.size)
  clear hb2 hb2a HN1 HA HB HBr HZr
  go_upto_region 6 with fail
  obtain ⟨r2,hr2⟩:∃r2,r2=w2.heap.size:=⟨_,rfl⟩
  rw [<-hr2] at HT2 |-
  have hrB:r2≠B:=by
   have h1:=zai HZ.out
   have h2:=HS2.out
   have h3:=HW1.out
   omega
  clear hr2 HS2 HW1
  generalize w2.alloc _=W2 at *
  have HBr:=yb (HBW.out.trans (HB2.out.mono HBW.out.size))
  have HZr:=yb (zab HB2.out HZ.out)
  obtain ⟨⟨t0,t1,t2,t3,t4,t5,t6,t7⟩,-⟩:=zag HT2.out
  obtain ⟨⟨r0,r1,r2',r3⟩,rf0,rf1,rf2,rf3⟩:=zaf HZr.out
  by_cases her:er=0
  case neg =>
   have e0:(er==0)=false:=by rw [yf];exact her
   have e1:(er != 0)=true:=by simp only [bne,e0,yj]
   have hrr:=HRR.out
   rw [yg her] at hrr
   subst hrr
   clear HRR HA2 HN HVL her HV1 t0 t1 t2 t3 t4 t5 t6 t7
   go_wp2
   refine yi (zae rfl _ _ B 27 _ (0,0) _ rfl (by exact set4 HZr.out _ _ _ _) Tryz.underlying27 rfl (by exact zar) _ _ rfl rfl) rfl ?_
   exact zaI (R:=(PV.none,0,er)) rfl (zad HBr.out HBB.out _ _ _ _)
  subst her
  have hrr:=HRR.out
  rw [yh (by simp)] at hrr
  by_cases hk3:xk=3
  ·have e3:(xk==3)=true:=by rw [hk3];rfl
   rw [yg hk3] at hrr
   subst hrr
   clear HRR HN HVL hk3 HV1
   obtain ⟨cs,hO,hVs⟩:=HA2.out
   obtain ⟨va',vc',hve,hrow,hbase⟩:=Row.of_owns hO
   cases hve
   have hlen:=hVs.length
   have hlen2:cs.length=i*4:=hrow.1
   obtain rfl:i=l.length:=by omega
   have HROW:=yb hrow
   have HBS:=yb hbase
   have HVS:=yb hVs
   clear hO hrow hbase hVs hlen hlen2 HA2
   go_wp2
   go_region
   all_goals
    go_wp2
    refine yi (zae rfl _ _ B 27 _ (0,0) _ rfl (by exact set4 HZr.out _ _ _ _) Tryz.underlying27 rfl (by exact zar) _ _ rfl rfl) rfl ?_
    have hlB:B<W1.heap.size:=zai HZ.out
    have hwW:=HBW.out.size
    have hst:∀y0 y1 y2 y3,zaK (fun b=>W1.heap.size<=b) W2 ((((W2.setCell ⟨B,0,none⟩ y0).setCell ⟨B,1,none⟩ y1).setCell ⟨B,2,none⟩ y2).setCell ⟨B,3,none⟩ y3):=fun _ _ _ _=>⟨by rw [zaS];exact yp _,fun b _ hb=>za2 (by omega) _ _ _ _⟩
    refine ⟨_,rfl,?_,(zad HBr.out HBB.out _ _ _ _).drew⟩
    exact (IsV.mk (v:=.mk 6 0 [] l) (HROW.out.stays (hst _ _ _ _) (fun _ x hx=>HBS.out x hx)) (fun _ x hx=>Nat.le_trans hwW (HBS.out x hx)) (IsVs.keep ((hst _ _ _ _).weakenF fun b h=>h.1) (fun b h=>Nat.le_trans hwW h.1) _ HVS.out)).below (Below.refl _ _).drew
  have e3:(xk==3)=false:=by rw [yf];exact hk3
  rw [yh hk3] at hrr
  clear hrB
  replace HRR:=yb hrr
  clear hrr hk3
  go_wp2_with fail
  refine (HV1.out _ HBr.out).mono ?_
  rintro e w3 ⟨sl,rfl,hV3,hb3⟩
  obtain ⟨sa,sc,rfl,-⟩:=hV3.len
  obtain ⟨X,n,ev⟩:=R1
  simp only at HRR hV3
  have HV3:=yb (IsV.lt _ hV3)
  have HA3:=yb (HA2.out.keep hb3)
  have HB3:=yo HB2 hb3
  have HO2:=yb (show ∀v n l,ArrM W1.heap.size W2 v n l->∀b,v.ownBlock=some b->b<W2.heap.size from fun v n l ⟨cs,h,_⟩ b hb=>(h.lt b hb).2)
  clear hV3 hb3 HV1 HBr HZr HT2 t0 t1 t2 t3 t4 t5 t6 t7 r0 r1 r2' r3 rf0 rf1 rf2 rf3
  have HQ2:=yb HB2.out.size
  unfold pvA
  generalize hxl:X.l.length=xl at *
  obtain ⟨O4,hO4⟩:∃O4:Obj,O4=.cells #[.int .i64 X.kind,.int .i64 X.n,.string (mkB X.s),.slice sa xl sc] 27:=⟨_,rfl⟩
  have hb4:=zam w3 O4
  have HA4:=yb (HA3.out.keep hb4)
  have HV4:=yb (IsV.keep (G:=fun b=>W2.heap.size<=b/\b<(w3.alloc O4).heap.size) (zaK.of_below hb4) (fun b h=>⟨h.1,Nat.lt_of_lt_of_le h.2 hb4.size⟩) _ HV3.out)
  have HB4:=yo HB3 hb4
  have HK4:=yb (zac (w:=w3) (b:=w3.heap.size) O4 rfl)
  rw [hO4] at HA4 HV4 HB4 HK4
  clear hb4 hO4 HA3 HV3 HB3 O4
  go_upto_region 11 with fail
  obtain ⟨r4,hr4⟩:∃r4,r4=w3.heap.size:=⟨_,rfl⟩
  rw [<-hr4] at HK4 |-
  clear hr4
  generalize w3.alloc _=W4 at *
  have HBr:=yb (HBW.out.trans (HB4.out.mono HBW.out.size))
  have HZr:=yb (zab HB4.out HZ.out)
  obtain ⟨⟨t0,t1,t2,t3⟩,-⟩:=zaf HK4.out
  obtain ⟨⟨r0,r1,r2',r3⟩,rf0,rf1,rf2,rf3⟩:=zaf HZr.out
  by_cases her:ev=0
  case neg =>
   have e0:(ev==0)=false:=by rw [yf];exact her
   have e1:(ev != 0)=true:=by simp only [bne,e0,yj]
   have hrr:=HRR.out
   rw [yg her] at hrr
   subst hrr
   clear HRR HA2 HA4 HN HVL her
   go_wp2
   refine yi (zae rfl _ _ B 27 _ (0,0) _ rfl (by exact set4 HZr.out _ _ _ _) Tryz.underlying27 rfl (by exact zar) _ _ rfl rfl) rfl ?_
   exact zaI (R:=(PV.none,0,ev)) rfl (zad HBr.out HBB.out _ _ _ _)
  subst her
  have hrr:=HRR.out
  rw [yh (by simp)] at hrr
  replace HRR:=yb hrr
  have hob:=HO2.out _ _ _ HA2.out
  obtain ⟨cs,hO,hVs⟩:=HA4.out
  have HO:=yb hO
  have HVs:=yb hVs
  have HXV:=yb (IsV.weaken HV4.out (G:=fun b=>W1.heap.size<=b/\b<W4.heap.size/\(Value.slice va i vc).ownBlock≠some b) (fun b h=>⟨Nat.le_trans HQ2.out h.1,h.2,fun e=>by have:=hob b e;omega⟩))
  clear hrr hO hVs HA2 HA4 HV4 hob HO2
  subst hxl
  have HCS:=yb (show pvC X (.slice sa X.l.length sc)=[.int .i64 X.kind,.int .i64 X.n,.string (mkB X.s),.slice sa X.l.length sc] from rfl)
  go_wp2_with (at_builtin;refine zfu EPV rfl _ _ rfl W1.heap.size _ i cs rfl (HO.out.alloc _) _ 1 _ _ rfl (zbt _ #[.int .i64 X.kind,.int .i64 X.n,.string (mkB X.s),.slice sa X.l.length sc] _ 4 rfl) (one4 _ _ _ _ _ _) (by unfold maxLen;omega) (by omega) (by rw [zan];have:=HB4.out.size;omega) ?_;intro v6 w6 hO6 hg6 hn6;have HA6:=yb (ArrM.push HVs.out HXV.out (by rw [HCS.out];exact hO6) hg6 hn6);have HB6:=yb (show Below W1.heap.size W1 w6 from (HB4.out.alloc HB4.out.size _).grown hg6 (by rw [zan];have:=HB4.out.size;omega) (fun q hq=>(HO.out.lt q hq).1));clear hO6 hg6 hn6)
  go_roundw
  case rel=>exact ⟨n,i+1,l++[X],rfl,by go_num,by omega,HA6,HB6,by rw [show L+1-(i+1)=L-i by omega];exact HRR⟩
  case measure=>simp [intOf];omega
theorem rep_mem {x:PV×PV}:∀(l:List (PV×PV)) (y:PV×PV),y∈repK x l->∃z∈l,z.1=y.1
 | [],y,h=>by cases h
 | z::l,y,h=>by
  unfold repK at h
  split at h
  ·rcases List.mem_cons.1 h with rfl|h
   ·exact ⟨z,List.mem_cons_self,rfl⟩
   ·exact ⟨y,List.mem_cons_of_mem _ h,rfl⟩
  ·rcases List.mem_cons.1 h with rfl|h
   ·exact ⟨y,List.mem_cons_self,rfl⟩
   ·obtain ⟨u,hu,e⟩:=rep_mem l y h
    exact ⟨u,List.mem_cons_of_mem _ hu,e⟩
theorem put_kind {x:PV×PV} {l:List (PV×PV)} (hx:x.1.kind=5) (h:∀y∈l,y.1.kind=5):∀y∈putK x l,y.1.kind=5:=by
 intro y hy
 unfold putK at hy
 split at hy
 ·obtain ⟨z,hz,e⟩:=rep_mem l y hy
  rw [<-e];exact h z hz
 ·rcases (zgV l).1 hy with rfl|hy
  ·exact hx
  ·exact h y hy
theorem put_len (x:PV×PV) (l:List (PV×PV)):(putK x l).length<=l.length+1:=by
 unfold putK
 split
 ·rw [rep_len];omega
 ·rw [(zfG x l).length_eq];simp
structure DicM (w wr:World) (B:Nat) (sl:Value) (ps:List (PV×PV)):Prop where
 b0:wr.heap[B]?=some (.cells #[.int .i64 0,.int .i64 0,.string ⟨#[]⟩,.slice none 0 0] 27 (0,0))
 b1:wr.heap[B+1]?=some (.cells #[.int .i64 7,.int .i64 0,.string ⟨#[]⟩,sl] 27 (0,0))
 val:IsV wr (fun b=>B+1<b) (dctV ps) sl
 kinds:∀y∈ps,y.1.kind=5
 bel:Below w.heap.size w wr
 hB:w.heap.size<=B
theorem DicM.keep {w wr:World} {ps:List (PV×PV)} (h:DicM w wr B sl ps) (hb:Below wr.heap.size wr W):DicM w W B sl ps :=
 ⟨zab hb h.b0,zab hb h.b1,h.val.below hb,h.kinds,h.bel.trans (hb.mono h.bel.size),h.hB⟩
theorem DicM.start (w:World) (hB:B=w.heap.size):DicM w ((w.alloc (.cells #[.int .i64 0,.int .i64 0,.string ⟨#[]⟩,.slice none 0 0] 27)).alloc (.cells #[.int .i64 7,.int .i64 0,.string ⟨#[]⟩,.slice none 0 0] 27)) B (.slice none 0 0) [] :=
 ⟨zak _ (zac _ hB),zac _ (by rw [zan,hB]),IsV.leaf _ _ _ rfl,fun y hy=>(by cases hy),zbm _ _ _,Nat.le_of_eq hB.symm⟩
theorem DicM.put {w wr:World} {s':Value} {ps:List (PV×PV)} {x:PV×PV} (h:DicM w wr B sl ps) (hx:x.1.kind=5) (hv:IsV W (fun b=>B+1<b\/wr.heap.size<=b) (dctV (putK x ps)) s') (hb:Below wr.heap.size wr W) :
  DicM w ((((W.setCell ⟨B+1,0,none⟩ (.int .i64 7)).setCell ⟨B+1,1,none⟩ (.int .i64 0)).setCell ⟨B+1,2,none⟩ (.string ⟨#[]⟩)).setCell ⟨B+1,3,none⟩ s') B s' (putK x ps):=by
 have hl:=zai h.b1
 have hB:=h.hB
 refine ⟨(za2 (by omega) _ _ _ _).trans (zab hb h.b0),set4 (zab hb h.b1) _ _ _ _,IsV.keep ⟨by rw [zaS];exact yp _,fun b _ hF=>za2 ?_ _ _ _ _⟩ (fun b hF=>?_) _ hv,put_kind hx h.kinds,zad (h.bel.trans (hb.mono h.bel.size)) (by omega) _ _ _ _,h.hB⟩
 ·rcases hF with hF|hF<;>omega
 ·rcases hF with hF|hF
  ·exact hF
  ·show B+1<b
   omega
theorem DicM.fin {w:World} {ps:List (PV×PV)} (h:DicM w W B sl ps) (y0 y1 y2 y3:Value) :
  Below w.heap.size w ((((W.setCell ⟨B,0,none⟩ y0).setCell ⟨B,1,none⟩ y1).setCell ⟨B,2,none⟩ y2).setCell ⟨B,3,none⟩ y3):=zad h.bel h.hB _ _ _ _
theorem findI_ge (key:List UInt8) (ps:List (PV×PV)):decide (0<=zfA key ps)=hasK key ps:=by
 rw [fIx_has]
 unfold zfA
 by_cases h:fIx key ps<ps.length
 ·rw [yg h,yd h];exact yd (by omega)
 ·rw [yh h,ye h];exact ye (by omega)
theorem dict_doc {w:World} {a:Option Addr} {cap:Nat} {bs:List UInt8} (hr:Row w 1 a bs.length cap (bs.map u8C)) (hn:bs.length<=399999) (yq:Bool) (d:Nat) (hd:d<=64) (k0:Int) (hv:ValD bs yq d) :
  Calls Tryz.prog 129 #[.slice a bs.length cap,.int .i64 k0,.bool yq,.int .i64 (64-(d:Int))] w (zbP w (zd3 bs yq (vlD bs yq d) d (bs.length+1) [] false k0)):=by
 have HN:=yb (fun (W:World) (h:Below w.heap.size w W) (k:Int)=>zbX (hr.mono h) (by omega) k yq)
 have HVL:=yb (fun (W:World) (h:Below w.heap.size w W) (x:Tk) (f tt:Int)=>hv W a cap (hr.mono h) x f tt)
 obtain ⟨fn,hfn⟩:∃fn,fn=vlD bs yq d:=⟨_,rfl⟩
 rw [<-hfn] at HVL |-
 obtain ⟨R,hR⟩:∃R,R=zd3 bs yq fn d (bs.length+1) [] false k0:=⟨_,rfl⟩
 rw [<-hR]
 have HR:=yb hR
 clear hr hv hfn hR
 obtain ⟨D,hD⟩:∃D:Int,D=64-(d:Int):=⟨_,rfl⟩
 have HD:=yb (show decide (64<=D)=decide (d=0) by rw [hD];by_cases e:d=0<;>simp [e];omega)
 rw [<-hD] at HVL |-
 clear hD
 obtain ⟨L,hL⟩:∃L,L=bs.length:=⟨_,rfl⟩
 rw [<-hL] at HN HVL HR hn |-
 clear hL hd
 unfold zaB tokN at HN
 unfold tokN at HVL
 go_enter Tryz.func129,Tryz.ntmps129
 obtain ⟨B,hB⟩:∃B,B=w.heap.size:=⟨_,rfl⟩
 have HM0:=yb (DicM.start w hB)
 go_upto_region 2 with fail
 rw [<-hB]
 clear hB
 generalize (w.alloc _).alloc _=W1 at *
 go_wp2
 go_loopw [1,12,13] (fun vat vt vn wr=>∃(k:Int) (i:Nat) (tw:Bool) (sl:Value) (ps:List (PV×PV)),vat=.int .i64 k/\vt=.bool tw/\vn=.int .i64 i/\i<=L+1/\ps.length<=i/\Hid (DicM w wr B sl ps)/\Hid (R=zd3 bs yq fn d (L+1-i) ps tw k)) (fun _ _ vn _=>L+1-(intOf vn).toNat)
 case atStart=>exact ⟨k0,0,false,_,[],rfl,rfl,rfl,by omega,yp _,HM0,HR⟩
 case round =>
  obtain ⟨k,i,tw,sl,ps,rfl,rfl,rfl,hi,hps,HM,HRR⟩:=hrel
  by_cases q1:i<=L
  case neg =>
   obtain rfl:i=L+1:=by omega
   have hd1:decide (L+1<=L)=false:=ye (by omega)
   have hd2:decide (((L+1:Nat):Int)<=(L:Int))=false:=ye (by omega)
   have hd3:decide ((L:Int)+1<=(L:Int))=false:=ye (by omega)
   have hrr:=HRR.out
   rw [Nat.sub_self] at hrr
   unfold zd3 at hrr
   subst hrr
   clear HRR HR HN HVL q1 hi hps
   obtain ⟨⟨r0,r1,r2,r3⟩,rf0,rf1,rf2,rf3⟩:=zaf HM.out.b0
   go_wp2
   refine yi (zae rfl _ _ B 27 _ (0,0) _ rfl (by exact set4 HM.out.b0 _ _ _ _) Tryz.underlying27 rfl (by exact zar) _ _ rfl rfl) rfl ?_
   exact zaI (R:=(PV.none,0,10)) rfl (HM.out.fin _ _ _ _)
  have hd1:decide (i<=L)=true:=yd q1
  have hd2:decide ((i:Int)<=(L:Int))=true:=yd (by omega)
  have hq2:(i:Int)<=(L:Int):=by omega
  have hi0:(0:Int)<=(i:Int):=by omega
  have hiw:IntKind.i64.wrap ((i:Int)+1)=(i:Int)+1:=IntWalk.i64_in _ (by omega)
  have hrr:=HRR.out
  rw [show L+1-i=(L-i)+1 by omega] at hrr
  unfold zd3 at hrr
  simp only at hrr
  have HN1:=yb (HN.out _ HM.out.bel k)
  generalize zal bs k yq=V at *
  obtain ⟨x,f,t,er⟩:=V
  simp only at hrr HN1
  clear HRR HR
  have HRR:=yb hrr
  clear hrr
  obtain ⟨xk,xvk,xvn,xvs,xs⟩:=x
  simp only at HN1 HRR
  generalize mkB xs=xb at *
  go_wp2_with fail
  refine HN1.out.mono ?_
  rintro e w2 ⟨rfl,hb2⟩
  have hb2a:=hb2.alloc hb2.size (.cells #[.int .i64 xk,.int .i64 f,.int .i64 t,.int .i64 xvk,.int .i64 xvn,.string (mkB xvs),.slice none 0 0,.string xb] 111)
  have HM2:=yb (HM.out.keep hb2a)
  have HT2:=yb (zac (w:=w2) (b:=w2.heap.size) (.cells #[.int .i64 xk,.int .i64 f,.int .i64 t,.int .i64 xvk,.int .i64 xvn,.string (mkB xvs),.slice none 0 0,.string xb] 111) rfl)
  have HrB:=yb (show B+1<w2.heap.size from Nat.lt_of_lt_of_le (zai HM.out.b1) hb2.size)
  clear hb2 hb2a HN1 HM
  go_upto_region 7 with fail
  obtain ⟨r2,hr2⟩:∃r2,r2=w2.heap.size:=⟨_,rfl⟩
  rw [<-hr2] at HT2 HrB |-
  clear hr2
  generalize w2.alloc _=W2 at *
  obtain ⟨⟨t0,t1,t2,t3,t4,t5,t6,t7⟩,-⟩:=zag HT2.out
  obtain ⟨⟨r0,r1,r2',r3⟩,rf0,rf1,rf2,rf3⟩:=zaf HM2.out.b0
  by_cases her:er=0
  case neg =>
   have e0:(er==0)=false:=by rw [yf];exact her
   have e1:(er != 0)=true:=by simp only [bne,e0,yj]
   have hrr:=HRR.out
   rw [yg her] at hrr
   subst hrr
   clear HRR HN HVL her
   clear t0 t1 t2 t3 t4 t5 t6 t7
   go_wp2
   refine yi (zae rfl _ _ B 27 _ (0,0) _ rfl (by exact set4 HM2.out.b0 _ _ _ _) Tryz.underlying27 rfl (by exact zar) _ _ rfl rfl) rfl ?_
   exact zaI (R:=(PV.none,0,er)) rfl (HM2.out.fin _ _ _ _)
  subst her
  have hrr:=HRR.out
  rw [yh (by simp)] at hrr
  by_cases hk5:xk=5
  ·have e5:(xk==5)=true:=by rw [hk5];rfl
   rw [yg hk5] at hrr
   cases tw with
   | true =>
    rw [yg rfl] at hrr
    subst hrr
    clear HRR HN HVL hk5
    go_wp2
    refine yi (zae rfl _ _ B 27 _ (0,0) _ rfl (by exact set4 HM2.out.b0 _ _ _ _) Tryz.underlying27 rfl (by exact zar) _ _ rfl rfl) rfl ?_
    exact zaI (R:=(PV.none,0,16)) rfl (HM2.out.fin _ _ _ _)
   | false =>
    rw [yh (by decide)] at hrr
    subst hrr
    obtain ⟨sa,sc,rfl,-⟩:=HM2.out.val.len
    have hrB:r2≠B:=by have:=HrB.out;omega
    have hB1:B+1≠B:=by omega
    obtain ⟨⟨d0,d1,d2,d3⟩,-⟩:=zaf HM2.out.b1
    clear HRR HN HVL hk5
    go_wp2
    go_region
    all_goals
     go_wp2
     refine yi (zae rfl _ _ B 27 _ (0,0) _ rfl (by exact set4 HM2.out.b0 _ _ _ _) Tryz.underlying27 rfl (by exact zar) _ _ rfl rfl) rfl ?_
     have hwB:=HM2.out.hB
     refine ⟨_,rfl,?_,(HM2.out.fin _ _ _ _).drew⟩
     exact (IsV.keep (F:=fun b=>B+1<b) ⟨by rw [zaS];exact yp _,fun b _ hF=>za2 (by omega) _ _ _ _⟩ (fun b hF=>by show w.heap.size<=b;omega) _ HM2.out.val).below (Below.refl _ _).drew
  have e5:(xk==5)=false:=by rw [yf];exact hk5
  rw [yh hk5] at hrr
  by_cases hk0:xk=0
  ·have e0:(xk==0)=true:=by rw [hk0];rfl
   rw [yg hk0] at hrr
   subst hrr
   clear HRR HN HVL hk5 hk0
   go_wp2
   refine yi (zae rfl _ _ B 27 _ (0,0) _ rfl (by exact set4 HM2.out.b0 _ _ _ _) Tryz.underlying27 rfl (by exact zar) _ _ rfl rfl) rfl ?_
   exact zaI (R:=(PV.none,0,10)) rfl (HM2.out.fin _ _ _ _)
  have e0:(xk==0)=false:=by rw [yf];exact hk0
  rw [yh hk0] at hrr
  by_cases hk1:xk=1
  case neg =>
   have e1:(xk==1)=false:=by rw [yf];exact hk1
   have e2:(xk != 1)=true:=by simp only [bne,e1,yj]
   rw [yg (.inl hk1)] at hrr
   subst hrr
   clear HRR HN HVL hk5 hk0 hk1
   go_wp2
   refine yi (zae rfl _ _ B 27 _ (0,0) _ rfl (by exact set4 HM2.out.b0 _ _ _ _) Tryz.underlying27 rfl (by exact zar) _ _ rfl rfl) rfl ?_
   exact zaI (R:=(PV.none,0,11)) rfl (HM2.out.fin _ _ _ _)
  have e1:(xk != 1)=false:=by rw [hk1];rfl
  by_cases hv5:xvk=5
  case neg =>
   have e3:(xvk==5)=false:=by rw [yf];exact hv5
   have e4:(xvk != 5)=true:=by simp only [bne,e3,yj]
   rw [yg (.inr hv5)] at hrr
   subst hrr
   clear HRR HN HVL hk5 hk0 hk1 hv5
   go_wp2
   refine yi (zae rfl _ _ B 27 _ (0,0) _ rfl (by exact set4 HM2.out.b0 _ _ _ _) Tryz.underlying27 rfl (by exact zar) _ _ rfl rfl) rfl ?_
   exact zaI (R:=(PV.none,0,11)) rfl (HM2.out.fin _ _ _ _)
  have e3:(xvk != 5)=false:=by rw [hv5];rfl
  rw [yh (by rintro (h|h);exact h hk1;exact h hv5)] at hrr
  have hDd:=HD.out
  by_cases hdz:d=0
  ·rw [yd hdz] at hDd
   rw [yg hdz] at hrr
   subst hrr
   clear HRR HN HVL hk5 hk0 hk1 hv5 hdz HD
   go_wp2
   refine yi (zae rfl _ _ B 27 _ (0,0) _ rfl (by exact set4 HM2.out.b0 _ _ _ _) Tryz.underlying27 rfl (by exact zar) _ _ rfl rfl) rfl ?_
   exact zaI (R:=(PV.none,0,15)) rfl (HM2.out.fin _ _ _ _)
  rw [ye hdz] at hDd
  rw [yh hdz] at hrr
  have HN2:=yb (HN.out _ HM2.out.bel t)
  generalize zal bs t yq=V at *
  obtain ⟨u,uf,ut,ue⟩:=V
  simp only at hrr HN2
  clear HRR
  have HRR:=yb hrr
  have HV3:=yb (fun (W:World) (h:Below w.heap.size w W)=>HVL.out W h u uf ut)
  clear hrr hk5 hk0 hk1 hv5 hdz
  generalize fn u ut=R1 at *
  obtain ⟨uk,uvk,uvn,uvs,us⟩:=u
  simp only at HN2 HV3
  generalize mkB uvs=uvb at *
  generalize mkB us=ub at *
  go_wp2_with fail
  refine HN2.out.mono ?_
  rintro e w3 ⟨rfl,hb3⟩
  have hb3a:=hb3.alloc hb3.size (.cells #[.int .i64 uk,.int .i64 uf,.int .i64 ut,.int .i64 uvk,.int .i64 uvn,.string uvb,.slice none 0 0,.string ub] 111)
  have HM3:=yb (HM2.out.keep hb3a)
  have HT3:=yb (zab hb3a HT2.out)
  have HU3:=yb (zac (w:=w3) (b:=w3.heap.size) (.cells #[.int .i64 uk,.int .i64 uf,.int .i64 ut,.int .i64 uvk,.int .i64 uvn,.string uvb,.slice none 0 0,.string ub] 111) rfl)
  clear t0 t1 t2 t3 t4 t5 t6 t7 r0 r1 r2' r3 rf0 rf1 rf2 rf3
  clear hb3 hb3a HN2 HM2 HT2
  go_upto_region 20 with fail
  obtain ⟨r3,hr3⟩:∃r3,r3=w3.heap.size:=⟨_,rfl⟩
  rw [<-hr3] at HU3 |-
  clear hr3
  generalize w3.alloc _=W3 at *
  obtain ⟨⟨t0,t1,t2,t3,t4,t5,t6,t7⟩,-⟩:=zag HT3.out
  obtain ⟨⟨u0,u1,u2,u3,u4,u5,u6,u7⟩,-⟩:=zag HU3.out
  obtain ⟨⟨r0,r1,r2',r3⟩,rf0,rf1,rf2,rf3⟩:=zaf HM3.out.b0
  by_cases hue:ue=0
  case neg =>
   have e7:(ue==0)=false:=by rw [yf];exact hue
   have e8:(ue != 0)=true:=by simp only [bne,e7,yj]
   have hrr:=HRR.out
   rw [yg hue] at hrr
   subst hrr
   clear HRR HN HVL hue
   go_wp2
   refine yi (zae rfl _ _ B 27 _ (0,0) _ rfl (by exact set4 HM3.out.b0 _ _ _ _) Tryz.underlying27 rfl (by exact zar) _ _ rfl rfl) rfl ?_
   exact zaI (R:=(PV.none,0,ue)) rfl (HM3.out.fin _ _ _ _)
  subst hue
  have hrr:=HRR.out
  rw [yh (by simp)] at hrr
  clear HRR
  have HRR:=yb hrr
  clear hrr
  go_wp2_with fail
  refine (HV3.out _ HM3.out.bel).mono ?_
  rintro e w4 ⟨sl4,rfl,hV4,hb4⟩
  obtain ⟨sa,sc,rfl,-⟩:=hV4.len
  obtain ⟨X,n,ev⟩:=R1
  simp only at HRR hV4
  have HM4:=yb (HM3.out.keep hb4)
  have HT4:=yb (zab hb4 HT3.out)
  have HV4:=yb (IsV.weaken hV4 (G:=fun b=>B+1<b) (fun b hb=>Nat.lt_of_lt_of_le (zai HM3.out.b1) hb))
  clear t0 t1 t2 t3 t4 t5 t6 t7 u0 u1 u2 u3 u4 u5 u6 u7 r0 r1 r2' r3 rf0 rf1 rf2 rf3
  clear hV4 hb4 HM3 HT3 HU3 HV3
  unfold pvA
  obtain ⟨O4,hO4⟩:∃O4:Obj,O4=.cells #[.int .i64 X.kind,.int .i64 X.n,.string (mkB X.s),.slice sa X.l.length sc] 27:=⟨_,rfl⟩
  have hb5:=zam w4 O4
  have HM5:=yb (HM4.out.keep hb5)
  have HT5:=yb (zab hb5 HT4.out)
  have HV5:=yb (HV4.out.below hb5)
  have HK5:=yb (zac (w:=w4) (b:=w4.heap.size) O4 rfl)
  rw [hO4] at HM5 HT5 HV5 HK5
  clear hb5 hO4 HM4 HT4 HV4 O4
  go_upto_region 23 with fail
  obtain ⟨r5,hr5⟩:∃r5,r5=w4.heap.size:=⟨_,rfl⟩
  rw [<-hr5] at HK5 |-
  clear hr5
  generalize w4.alloc _=W5 at *
  obtain ⟨⟨t0,t1,t2,t3,t4,t5,t6,t7⟩,-⟩:=zag HT5.out
  obtain ⟨⟨x0,x1,x2,x3⟩,-⟩:=zaf HK5.out
  obtain ⟨⟨r0,r1,r2',r3⟩,rf0,rf1,rf2,rf3⟩:=zaf HM5.out.b0
  by_cases her:ev=0
  case neg =>
   have e7:(ev==0)=false:=by rw [yf];exact her
   have e8:(ev != 0)=true:=by simp only [bne,e7,yj]
   have hrr:=HRR.out
   rw [yg her] at hrr
   subst hrr
   clear HRR HN HVL her
   go_wp2
   refine yi (zae rfl _ _ B 27 _ (0,0) _ rfl (by exact set4 HM5.out.b0 _ _ _ _) Tryz.underlying27 rfl (by exact zar) _ _ rfl rfl) rfl ?_
   exact zaI (R:=(PV.none,0,ev)) rfl (HM5.out.fin _ _ _ _)
  subst her
  have hrr:=HRR.out
  rw [yh (by simp)] at hrr
  clear HRR
  have HRR:=yb hrr
  clear hrr
  have HFI:=yb (fun (W:World) (h:Below W5.heap.size W5 W)=>zgY (HM5.out.val.below h) HM5.out.kinds xvs)
  have HPU:=yb (fun (W:World) (h:Below W5.heap.size W5 W)=>put_any (HM5.out.val.below h) HM5.out.kinds xvs (HV5.out.below h) (by omega))
  have hge:=findI_ge xvs ps
  obtain ⟨sa5,sc5,hse,-⟩:=HM5.out.val.len
  subst hse
  obtain ⟨N5,hN5⟩:∃N5,N5=(dctV ps).l.length:=⟨_,rfl⟩
  rw [<-hN5] at HM5 HFI HPU
  clear hN5
  obtain ⟨⟨g0,g1,g2,g3⟩,gf0,gf1,gf2,gf3⟩:=zaf HM5.out.b1
  unfold pvA at HFI HPU
  rw [show (dctV ps).kind=7 from rfl,show (dctV ps).n=0 from rfl,show mkB (dctV ps).s=⟨#[]⟩ from rfl] at HFI HPU
  obtain ⟨FI,hFI⟩:∃FI,FI=zfA xvs ps:=⟨_,rfl⟩
  rw [<-hFI] at HFI hge
  clear hFI
  have HGE:=yb hge
  clear hge
  generalize hhk:hasK xvs ps=hh at *
  clear hhk
  cases tw with
  | true =>
   clear HFI HGE
   go_upto_region 26 with fail
   go_wp2_with fail
   refine (HPU.out _ (Below.refl _ _)).mono ?_
   rintro e W7 ⟨s7,rfl,hV7,hb7⟩
   obtain ⟨sa7,sc7,hs7,-⟩:=hV7.len
   subst hs7
   have HM7:=yb (HM5.out.put rfl hV7 hb7)
   have HBB:=yb (zab hb7 HM5.out.b1)
   clear t0 t1 t2 t3 t4 t5 t6 t7 x0 x1 x2 x3 g0 g1 g2 g3 gf0 gf1 gf2 gf3 r0 r1 r2' r3 rf0 rf1 rf2 rf3
   clear hV7 hb7
   obtain ⟨⟨g0,g1,g2,g3⟩,gf0,gf1,gf2,gf3⟩:=zaf HBB.out
   rw [show (dctV (putK (PV.mk 5 0 xvs [],X) ps)).kind=7 from rfl,show (dctV (putK (PV.mk 5 0 xvs [],X) ps)).n=0 from rfl,show mkB (dctV (putK (PV.mk 5 0 xvs [],X) ps)).s=⟨#[]⟩ from rfl]
   go_wp2
   go_roundw
   case rel=>exact ⟨n,i+1,true,_,_,rfl,rfl,by go_num,by omega,by have:=put_len (.mk 5 0 xvs [],X) ps;omega,HM7,by rw [show L+1-(i+1)=L-i by omega];exact HRR⟩
   case measure=>simp [intOf];omega
  | false =>
   have hge:=HGE.out
   go_upto_region 25 with fail
   go_wp2_with fail
   refine (HFI.out _ (Below.refl _ _)).mono ?_
   rintro e W6 ⟨rfl,hb6⟩
   have HM6:=yb (HM5.out.keep hb6)
   have HT6:=yb (zab hb6 HT5.out)
   have HK6:=yb (zab hb6 HK5.out)
   have HB6:=yb hb6
   clear hb6 t0 t1 t2 t3 t4 t5 t6 t7 x0 x1 x2 x3 g0 g1 g2 g3 gf0 gf1 gf2 gf3 r0 r1 r2' r3 rf0 rf1 rf2 rf3
   obtain ⟨⟨t0,t1,t2,t3,t4,t5,t6,t7⟩,-⟩:=zag HT6.out
   obtain ⟨⟨x0,x1,x2,x3⟩,-⟩:=zaf HK6.out
   obtain ⟨⟨g0,g1,g2,g3⟩,gf0,gf1,gf2,gf3⟩:=zaf HM6.out.b1
   obtain ⟨⟨r0,r1,r2',r3⟩,rf0,rf1,rf2,rf3⟩:=zaf HM6.out.b0
   cases hh
   ·have hge:=HGE.out
    go_wp2_with fail
    refine (HPU.out _ HB6.out).mono ?_
    rintro e W7 ⟨s7,rfl,hV7,hb7⟩
    obtain ⟨sa7,sc7,hs7,-⟩:=hV7.len
    subst hs7
    have HM7:=yb (HM6.out.put rfl hV7 hb7)
    have HBB:=yb (zab hb7 HM6.out.b1)
    clear t0 t1 t2 t3 t4 t5 t6 t7 x0 x1 x2 x3 g0 g1 g2 g3 gf0 gf1 gf2 gf3 r0 r1 r2' r3 rf0 rf1 rf2 rf3
    clear hV7 hb7
    obtain ⟨⟨g0,g1,g2,g3⟩,gf0,gf1,gf2,gf3⟩:=zaf HBB.out
    rw [show (dctV (putK (PV.mk 5 0 xvs [],X) ps)).kind=7 from rfl,show (dctV (putK (PV.mk 5 0 xvs [],X) ps)).n=0 from rfl,show mkB (dctV (putK (PV.mk 5 0 xvs [],X) ps)).s=⟨#[]⟩ from rfl]
    go_wp2
    go_roundw
    case rel=>exact ⟨n,i+1,false,_,_,rfl,rfl,by go_num,by omega,by have:=put_len (.mk 5 0 xvs [],X) ps;omega,HM7,by rw [show L+1-(i+1)=L-i by omega];exact HRR⟩
    case measure=>simp [intOf];omega
   ·have hge:=HGE.out
    go_wp2_with fail
    refine (HPU.out _ HB6.out).mono ?_
    rintro e W7 ⟨s7,rfl,hV7,hb7⟩
    obtain ⟨sa7,sc7,hs7,-⟩:=hV7.len
    subst hs7
    have HM7:=yb (HM6.out.put rfl hV7 hb7)
    have HBB:=yb (zab hb7 HM6.out.b1)
    clear t0 t1 t2 t3 t4 t5 t6 t7 x0 x1 x2 x3 g0 g1 g2 g3 gf0 gf1 gf2 gf3 r0 r1 r2' r3 rf0 rf1 rf2 rf3
    clear hV7 hb7
    obtain ⟨⟨g0,g1,g2,g3⟩,gf0,gf1,gf2,gf3⟩:=zaf HBB.out
    rw [show (dctV (putK (PV.mk 5 0 xvs [],X) ps)).kind=7 from rfl,show (dctV (putK (PV.mk 5 0 xvs [],X) ps)).n=0 from rfl,show mkB (dctV (putK (PV.mk 5 0 xvs [],X) ps)).s=⟨#[]⟩ from rfl]
    go_wp2
    go_roundw
    case rel=>exact ⟨n,i+1,true,_,_,rfl,rfl,by go_num,by omega,by have:=put_len (.mk 5 0 xvs [],X) ps;omega,HM7,by rw [show L+1-(i+1)=L-i by omega];exact HRR⟩
    case measure=>simp [intOf];omega
theorem val_doc {bs:List UInt8} (hn:bs.length<=399999) (yq:Bool):∀d,d<=64->ValD bs yq d
 | 0,_=>fun w a cap hr x f tt=>by
  have h64:(64-((0:Nat):Int))=64:=rfl
  rw [h64]
  unfold vlD
  by_cases k0:x.kind=0
  ·rw [yg k0];exact value_k0 yq x f tt 64 k0
  rw [yh k0]
  by_cases k2:x.kind=2
  ·rw [yg (.inl k2)];exact value_d2 yq x f tt 64 k2 (by omega)
  by_cases k4:x.kind=4
  ·rw [yg (.inr k4)];exact value_d4 yq x f tt 64 k4 (by omega)
  rw [yh (by omega)]
  by_cases k3:x.kind=3
  ·rw [yg (.inl k3)];exact value_k3 yq x f tt 64 k3
  by_cases k5:x.kind=5
  ·rw [yg (.inr k5)];exact value_k5 yq x f tt 64 k5
  rw [yh (by omega)]
  have h:=zgt hr (by omega) yq x f tt 64 ⟨k0,k2,k3,k4,k5⟩
  rw [yg (show (64:Int)<=64 by omega)] at h
  exact h
 | d+1,hd=>fun w a cap hr x f tt=>by
  have hv:=val_doc hn yq d (by omega)
  have hD:(64-((d+1:Nat):Int))+1=64-(d:Int):=by push_cast;omega
  have hD2:¬(64:Int)<=64-((d+1:Nat):Int):=by push_cast;omega
  have hD3:(0:Int)<=64-((d+1:Nat):Int):=by push_cast;omega
  unfold vlD
  by_cases k0:x.kind=0
  ·rw [yg k0];exact value_k0 yq x f tt _ k0
  rw [yh k0]
  by_cases k2:x.kind=2
  ·rw [yg k2]
   refine value_o2 yq x f tt _ k2 hD2 hD3 fun W hW=>?_
   rw [hD]
   exact array_doc (hr.mono hW) (by omega) yq d tt hv
  rw [yh k2]
  by_cases k4:x.kind=4
  ·rw [yg k4]
   refine value_o4 yq x f tt _ k4 hD2 hD3 fun W hW=>?_
   rw [hD]
   exact dict_doc (hr.mono hW) hn yq d (by omega) tt hv
  rw [yh k4]
  by_cases k3:x.kind=3
  ·rw [yg (.inl k3)];exact value_k3 yq x f tt _ k3
  by_cases k5:x.kind=5
  ·rw [yg (.inr k5)];exact value_k5 yq x f tt _ k5
  rw [yh (by omega)]
  have h:=zgt hr (by omega) yq x f tt (64-((d+1:Nat):Int)) ⟨k0,k2,k3,k4,k5⟩
  rw [yh hD2] at h
  by_cases he:(zbK bs yq x tt).2.2≠0
  ·rw [yg he,<-zgi bs yq x tt he] at h
   exact h
  ·rw [yh he] at h
   exact h
theorem rvalue_any {w:World} {a:Option Addr} {cap:Nat} {bs:List UInt8} (hr:Row w 1 a bs.length cap (bs.map u8C)) (hn:bs.length<=399999) (yq:Bool) (k:Int) :
  Calls Tryz.prog 50 #[.slice a bs.length cap,.int .i64 k,.bool yq] w (zbP w (zbB bs yq k)):=by
 have HN:=yb (fun (W:World) (h:Below w.heap.size w W)=>zbX (hr.mono h) (by omega) k yq)
 have HV:=yb (fun (W:World) (h:Below w.heap.size w W) (f:Int)=>val_doc hn yq 64 (yp _) W a cap (hr.mono h) (zal bs k yq).1 f (zal bs k yq).2.2.1)
 obtain ⟨R,hR⟩:∃R,R=zbB bs yq k:=⟨_,rfl⟩
 rw [<-hR]
 unfold zbB at hR
 generalize zal bs k yq=V at *
 obtain ⟨x,f,t,er⟩:=V
 simp only at hR HV
 rw [show (64-((64:Nat):Int))=0 from rfl] at HV
 unfold zaB tokN at HN
 unfold tokN at HV
 simp only at HN
 have HR:=yb hR
 clear hr hR
 generalize vlD bs yq 64 x t=R1 at *
 generalize x.kind=xk at *
 generalize x.vk=xvk at *
 generalize x.vn=xvn at *
 generalize mkB x.vs=xvb at *
 generalize mkB x.s=xb at *
 generalize bs.length=L at *
 go_enter Tryz.func50,Tryz.ntmps50
 obtain ⟨B,hB⟩:∃B,B=w.heap.size:=⟨_,rfl⟩
 have HZ:=yb (zac (w:=w) (b:=B) (.cells #[.int .i64 0,.int .i64 0,.string ⟨#[]⟩,.slice none 0 0] 27) hB)
 have HBW:=yb (zam w (.cells #[.int .i64 0,.int .i64 0,.string ⟨#[]⟩,.slice none 0 0] 27))
 have HBB:=yb (Nat.le_of_eq hB.symm)
 go_upto_region 1 with fail
 rw [<-hB]
 clear hB
 generalize w.alloc _=W1 at *
 go_wp2_with fail
 refine (HN.out _ HBW.out).mono ?_
 rintro e w2 ⟨rfl,hb2⟩
 have hb2a:=hb2.alloc hb2.size (.cells #[.int .i64 xk,.int .i64 f,.int .i64 t,.int .i64 xvk,.int .i64 xvn,.string xvb,.slice none 0 0,.string xb] 111)
 have HT2:=yb (zac (w:=w2) (b:=w2.heap.size) (.cells #[.int .i64 xk,.int .i64 f,.int .i64 t,.int .i64 xvk,.int .i64 xvn,.string xvb,.slice none 0 0,.string xb] 111) rfl)
 have HZ2:=yb (zab hb2a HZ.out)
 have HB2:=yo HBW hb2a
 have HL2:=yb (show B<w2.heap.size from Nat.lt_of_lt_of_le (zai HZ.out) hb2.size)
 clear hb2 hb2a HN HZ
 go_upto_region 2 with fail
 obtain ⟨r2,hr2⟩:∃r2,r2=w2.heap.size:=⟨_,rfl⟩
 rw [<-hr2] at HT2 |-
 have HWL:=yb (show B<(w2.alloc (.cells #[.int .i64 xk,.int .i64 f,.int .i64 t,.int .i64 xvk,.int .i64 xvn,.string xvb,.slice none 0 0,.string xb] 111)).heap.size by rw [zan];have:=HL2.out;omega)
 clear hr2 HL2
 generalize w2.alloc _=W2 at *
 obtain ⟨⟨t0,t1,t2,t3,t4,t5,t6,t7⟩,-⟩:=zag HT2.out
 obtain ⟨⟨r0,r1,r2',r3⟩,rf0,rf1,rf2,rf3⟩:=zaf HZ2.out
 have hR:=HR.out
 by_cases her:er=0
 case neg =>
  have e0:(er==0)=false:=by rw [yf];exact her
  have e1:(er != 0)=true:=by simp only [bne,e0,yj]
  rw [yg her] at hR
  subst hR
  clear HR HV her
  go_wp2
  refine yi (zae rfl _ _ B 27 _ (0,0) _ rfl (by exact set4 HZ2.out _ _ _ _) Tryz.underlying27 rfl (by exact zar) _ _ rfl rfl) rfl ?_
  exact zaI (R:=(PV.none,0,er)) rfl (zad HB2.out HBB.out _ _ _ _)
 subst her
 rw [yh (by simp)] at hR
 subst hR
 clear HR
 go_wp2_with fail
 refine (HV.out _ HB2.out f).mono ?_
 rintro e w3 ⟨sl,rfl,hV3,hb3⟩
 have HZ3:=yb (zab hb3 HZ2.out)
 obtain ⟨sa,sc,rfl,-⟩:=hV3.len
 have HV3:=yb hV3
 have HB3:=yo HB2 hb3
 have HWS:=yb HB2.out.size
 clear hV3 hb3 t0 t1 t2 t3 t4 t5 t6 t7 r0 r1 r2' r3 rf0 rf1 rf2 rf3 HT2 HV HZ2
 obtain ⟨⟨r0,r1,r2',r3⟩,rf0,rf1,rf2,rf3⟩:=zaf HZ3.out
 unfold pvA
 go_wp2
 refine yi (zae rfl _ _ B 27 _ (0,0) _ rfl (by exact set4 HZ3.out _ _ _ _) Tryz.underlying27 rfl (by exact zar) _ _ rfl rfl) rfl ?_
 exact ⟨_,rfl,IsV.keep (F:=fun b=>W2.heap.size<=b) ⟨by rw [zaS];exact yp _,fun b _ hb=>za2 (by have:=HWL.out;omega) _ _ _ _⟩ (fun b hb=>Nat.le_trans HWS.out hb) _ HV3.out,zad HB3.out HBB.out _ _ _ _⟩
structure VAt (w W:World) (F:Nat->Prop) (r p:Nat) (a:Option Addr) (cap:Nat) (bs:List UInt8) (yq:Bool) (V:PV×Int×Int) (n:Nat) (st:List Lv) (at_:Int):Prop where
 stk:Stk w W F (fun b=>b=r) p a cap bs yq st at_
 res:W.heap[r]?=some (.cells #[.int .i64 0,.int .i64 0,.string ⟨#[]⟩,.slice none 0 0] 27 (0,0))
 fuel:valO bs yq n st at_=some V
 len:∀v∈st,(v.l.length:Int)<=at_
 rng:st=[]\/(0<=at_/\at_<=bs.length)
def ValI (w:World) (r p:Nat) (a:Option Addr) (cap:Nat) (bs:List UInt8) (yq:Bool) (at0:Int) (V:PV×Int×Int) (n:Nat) (act:Act) (W:World):Prop :=
 ∃(F:Nat->Prop) (st:List Lv) (at_:Int) (u10 u11 u12 u13 u14 u15 u16 u17 u18 u19 u20 u21 u22 u23 u24 u25 u26 u27 u28 u29 u30 u31 u32 u33 u34 u35 u36 u37 u38 u39 u40 u41 u42 u43 u44 u45 u46 u47 u48 u49 u50 u51 u52 u53 u54 u55 u56 u57 u58 u59 u60 u61:Value),Hid (VAt w W F r p a cap bs yq V n st at_) /\
  act={ tmps:=#[.slice a bs.length cap,.int .i64 at0,.bool yq,undef,undef,undef,.pointer (some ⟨r,0,none⟩),.int .i64 0,.int .i64 0,.pointer (some ⟨p,0,none⟩),u10,u11,u12,u13,u14,u15,u16,u17,u18,u19,u20,u21,u22,u23,u24,u25,u26,u27,u28,u29,u30,u31,u32,u33,u34,u35,u36,u37,u38,u39,u40,u41,u42,u43,u44,u45,u46,u47,u48,u49,u50,u51,u52,u53,u54,u55,u56,u57,u58,u59,u60,u61],defers:=[] }
def ValEnd (w:World) (V:PV×Int×Int) (e:Ending) (w':World):Prop :=
 ∃sl,e=.returned (.tuple #[pvA V.1 sl,.int .i64 V.2.1,.int .i64 V.2.2])/\IsV w' (fun b=>w.heap.size<=b) V.1 sl/\Below w.heap.size w w'
theorem VAt.small {w:World} {a:Option Addr} {cap:Nat} {bs:List UInt8} {V:PV×Int×Int} {n:Nat} {st:List Lv} {at_:Int} (h:VAt w W F r p a cap bs yq V n st at_):∀v∈st,v.l.length<=400000:=by
 intro v hv
 obtain ⟨gs,osl,hs⟩:=h.stk
 have:=h.len v hv
 have hsm:=hs.small
 rcases h.rng with h0|h0
 ·subst h0;cases hv
 ·omega
theorem stepV_len {bs:List UInt8} {st:List Lv} {k:Int} {t:Tk} {N:Int} (hN:0<=N) (h:∀v∈st,(v.l.length:Int)<=N):∀v∈(za8 bs yq st k t).2.1,(v.l.length:Int)<=N:=by
 unfold za8
 split
 ·exact h
 ·split
  ·show ∀v∈(zcg st _).1,_
   unfold zcg
   split
   ·exact h
   ·split
    ·exact h
    ·intro v hv
     rcases List.mem_cons.1 hv with rfl|hv
     ·exact hN
     ·exact h v hv
  ·split
   ·have he:∀d,∀v∈(zbH st d).2.1,(v.l.length:Int)<=N:=by
     intro d
     unfold zbH
     split
     ·exact h
     ·rename_i v rest
      have hr:∀u∈rest,(u.l.length:Int)<=N:=fun u hu=>h u (List.mem_cons_of_mem _ hu)
      split
      ·exact h
      ·split
       ·exact hr
       ·split
        ·exact h
        ·exact hr
    simp only
    split
    ·exact he _
    ·exact he _
   ·simp only
    split
    ·exact h
    ·split
     ·exact h
     ·exact h
theorem IsV.setr {w:World} {a:Option Addr} {cap:Nat} {bs:List UInt8} {st:List Lv} {at_:Int} {gs:List Nat} {osl:Value} {v:PV} (h:IsV W F v sl) (hs:zaz w W F (fun b=>b=r) p a cap bs yq st at_ gs osl) (y0 y1 y2 y3:Value) :
  IsV ((((W.setCell ⟨r,0,none⟩ y0).setCell ⟨r,1,none⟩ y1).setCell ⟨r,2,none⟩ y2).setCell ⟨r,3,none⟩ y3) (fun b=>w.heap.size<=b) v sl :=
 IsV.keep ⟨by rw [zaS];exact yp _,fun b _ hf=>zaX (fun e=>(hs.fb b hf).2.1 e) _ _ _ _⟩ (fun b hf=>(hs.fb b hf).1) v h
def S5v (w:World) (v:Nat) (y0 y1 y2 y3:Value):Prop:=w.cell? ⟨v,0,none⟩=some y0/\w.cell? ⟨v,1,none⟩=some y1/\w.cell? ⟨v,2,none⟩=some y2/\w.cell? ⟨v,3,none⟩=some y3
theorem S5v.drew {w:World} {v:Nat} (h:S5v w v y0 y1 y2 y3):S5v w.drew v y0 y1 y2 y3:=h
theorem S5v.alloc {w:World} {v:Nat} (h:S5v w v y0 y1 y2 y3) (o:Obj):S5v (w.alloc o) v y0 y1 y2 y3 :=
 ⟨zbe o h.1,zbe o h.2.1,zbe o h.2.2.1,zbe o h.2.2.2⟩
theorem S5v.grown {w:World} {row:Option Nat} {v:Nat} (h:S5v w v y0 y1 y2 y3) (hg:w.grownBy w' row) (h2:row≠some v):S5v w' v y0 y1 y2 y3:=by
 have k:∀b o y,row≠some b->w.cell? ⟨b,o,none⟩=some y->w'.cell? ⟨b,o,none⟩=some y:=fun b o y hb hc=>by
  rw [World.cell?_of_block (w:=w) (a:=⟨b,o,none⟩) (hg.block b (World.block_lt_of_cell? w _ hc) (fun e=>hb e.symm))];exact hc
 exact ⟨k _ _ _ h2 h.1,k _ _ _ h2 h.2.1,k _ _ _ h2 h.2.2.1,k _ _ _ h2 h.2.2.2⟩
theorem S5v.set {w:World} {v b:Nat} (h:S5v w v y0 y1 y2 y3) (h2:v≠b) (o:Nat) (z:Value):S5v (w.setCell ⟨b,o,none⟩ z) v y0 y1 y2 y3:=by
 have k:∀c o' y,c≠b->w.cell? ⟨c,o',none⟩=some y->(w.setCell ⟨b,o,none⟩ z).cell? ⟨c,o',none⟩=some y:=fun c o' y hb hc=>by
  rw [World.cell?_of_block (w:=w) (a:=⟨c,o',none⟩) (heap_setCell_other _ _ _ _ hb)];exact hc
 exact ⟨k _ _ _ h2 h.1,k _ _ _ h2 h.2.1,k _ _ _ h2 h.2.2.1,k _ _ _ h2 h.2.2.2⟩
theorem owns_lastC {w:World} {base n cap:Nat} {z0 z1 z2 z3:Value} (h:w.ownsRow base 27 4 (.slice (some ⟨g,0,none⟩) (n+1) cap) (n+1) (cs++[z0,z1,z2,z3])) :
  (w.cell? ⟨g,n*4,none⟩=some z0/\w.cell? ⟨g,n*4+1,none⟩=some z1/\w.cell? ⟨g,n*4+2,none⟩=some z2/\w.cell? ⟨g,n*4+3,none⟩=some z3)/\(∀j,w.frozen? ⟨g,j,none⟩=false):=by
 have hl:cs.length=n*4:=by have:=h.1;simp at this;omega
 rcases h.2 with ⟨e,-⟩|⟨g',cap',cur,e,hb,hh,hn,hm,hs,ht⟩
 ·cases e
 ·simp only [Value.slice.injEq,Option.some.injEq,Addr.mk.injEq] at e
  obtain ⟨⟨rfl,-⟩,-,rfl⟩:=e
  have hc:∀j z,(cs++[z0,z1,z2,z3])[j]?=some z->w.cell? ⟨g,j,none⟩=some z:=fun j z hj=>by
   rw [cell_of_row w g j cur _ _ hh]
   rw [<-ht,List.getElem?_take] at hj
   split at hj
   ·simpa using hj
   ·cases hj
  refine ⟨⟨hc _ _ ?_,hc _ _ ?_,hc _ _ ?_,hc _ _ ?_⟩,fun j=>frozen_of_row w g j cur _ hh⟩
  ·rw [List.getElem?_append_right (by omega)];simp [hl]
  ·rw [List.getElem?_append_right (by omega)];simp [hl]
  ·rw [List.getElem?_append_right (by omega)];simp [hl]
  ·rw [List.getElem?_append_right (by omega)];simp [hl]
theorem owns_setLast {w:World} {base n cap:Nat} {z0 z1 z2 z3:Value} (h:w.ownsRow base 27 4 (.slice (some ⟨g,0,none⟩) (n+1) cap) (n+1) (cs++[z0,z1,z2,z3])) :
  ((((w.setCell ⟨g,n*4,none⟩ y0).setCell ⟨g,n*4+1,none⟩ y1).setCell ⟨g,n*4+2,none⟩ y2).setCell ⟨g,n*4+3,none⟩ y3).ownsRow base 27 4 (.slice (some ⟨g,0,none⟩) (n+1) cap) (n+1) (cs++[y0,y1,y2,y3]):=by
 have hl:cs.length=n*4:=by have:=h.1;simp at this;omega
 rcases h.2 with ⟨e,-⟩|⟨g',cap',cur,e,hb,hh,hn,hm,hs,ht⟩
 ·cases e
 ·simp only [Value.slice.injEq,Option.some.injEq,Addr.mk.injEq] at e
  obtain ⟨⟨rfl,-⟩,-,rfl⟩:=e
  have e0:=heap_setCell_same w g (n*4) cur _ y0 hh
  have e1:=heap_setCell_same _ g (n*4+1) _ _ y1 e0
  have e2:=heap_setCell_same _ g (n*4+2) _ _ y2 e1
  have e3:=heap_setCell_same _ g (n*4+3) _ _ y3 e2
  refine ⟨by simp [hl];omega,.inr ⟨g,cap,_,rfl,hb,e3,hn,hm,by simpa using hs,?_⟩⟩
  have hcur:∀j,j<n*4->cur.toList[j]?=cs[j]?:=fun j hj=>by
   have:=congrArg (fun l=>l[j]?) ht
   simp only [List.getElem?_take] at this
   rw [yg (by omega),List.getElem?_append_left (by omega)] at this
   exact this
  apply List.ext_getElem?
  intro j
  rw [List.getElem?_take]
  simp only [Array.toList_setIfInBounds,List.getElem?_set,List.length_set,Array.length_toList]
  by_cases hj:j<(n+1)*4
  ·rw [yg hj]
   by_cases h3:n*4+3=j
   ·subst h3;rw [List.getElem?_append_right (by omega)];simp [hl];omega
   ·by_cases h2:n*4+2=j
    ·subst h2;rw [List.getElem?_append_right (by omega)];simp [hl];omega
    ·by_cases h1:n*4+1=j
     ·subst h1;rw [List.getElem?_append_right (by omega)];simp [hl];omega
     ·by_cases h0:n*4=j
      ·subst h0;rw [List.getElem?_append_right (by omega)];simp [hl];omega
      ·simp only [h0,h1,h2,h3,if_false]
       rw [List.getElem?_append_left (by omega)];exact hcur j (by omega)
  ·rw [yh hj,List.getElem?_eq_none (by simp [hl];omega)]
theorem zcr (w:World) {b:Nat} (h:g≠b) (i j:Nat) (u v:Value):(w.setCell ⟨g,i,none⟩ u).setCell ⟨b,j,none⟩ v=(w.setCell ⟨b,j,none⟩ v).setCell ⟨g,i,none⟩ u:=by
 unfold World.setCell
 simp only
 congr 1
 apply Array.ext_getElem?
 intro k
 simp only [Array.getElem?_modify]
 by_cases h1:g=k
 ·subst h1
  have h2:¬b=g:=fun e=>h e.symm
  simp [h2]
 ·by_cases h2:b=k
  ·subst h2;simp [h1]
  ·simp [h1,h2]
theorem zhf (w:World) {b:Nat} (h:g≠b) (i j0 j1 j2 j3:Nat) (u v0 v1 v2 v3:Value) :
  ((((w.setCell ⟨g,i,none⟩ u).setCell ⟨b,j0,none⟩ v0).setCell ⟨b,j1,none⟩ v1).setCell ⟨b,j2,none⟩ v2).setCell ⟨b,j3,none⟩ v3=((((w.setCell ⟨b,j0,none⟩ v0).setCell ⟨b,j1,none⟩ v1).setCell ⟨b,j2,none⟩ v2).setCell ⟨b,j3,none⟩ v3).setCell ⟨g,i,none⟩ u:=by
 rw [zcr w h,zcr _ h,zcr _ h,zcr _ h]
theorem VAt.put {w W5 w7:World} {v4:Nat} {a:Option Addr} {cap:Nat} {bs:List UInt8} {V:PV×Int×Int} {n:Nat} {top:Lv} {rest:List Lv} {t:List Nat} {osl:Value}
  (HG5:zaz w W5 F (fun b=>b=r\/b=v4) p a cap bs yq (top::rest) at2 (g::t) osl) (HR5:W5.heap[r]?=some (.cells #[.int .i64 0,.int .i64 0,.string ⟨#[]⟩,.slice none 0 0] 27 (0,0)))
  {ta:Option Addr} {tn tc:Nat} (HGL:W5.heap[g]?=some (.cells #[.bool top.dict,.slice ta tn tc] 166 (0,0))) (HVS:IsVs W5 F top.l cs) {X:PV} {sn sc:Nat} (HX:IsV W5 F X (.slice sa sn sc)) (HTN:tn=top.l.length)
  {o:Obj} (HG7:((W5.alloc o).drew).grownBy w7 (Value.slice ta tn tc).ownBlock) {g7 cap7:Nat} {z0 z1 z2 z3:Value}
  (HO7:w7.ownsRow w.heap.size 27 4 (.slice (some ⟨g7,0,none⟩) (tn+1) cap7) (tn+1) (cs++[z0,z1,z2,z3])) (HAT:(Value.slice ta tn tc).ownBlock=some g7\/g7=W5.heap.size+1)
  (hv:valO bs yq n ({ top with l:=top.l++[X] }::rest) at2=some V) (hlen:∀v∈top::rest,(v.l.length:Int)+1<=at2) (hrng:0<=at2/\at2<=bs.length) :
  VAt w (((((w7.setCell ⟨g7,tn*4,none⟩ (.int .i64 X.kind)).setCell ⟨g7,tn*4+1,none⟩ (.int .i64 X.n)).setCell ⟨g7,tn*4+2,none⟩ (.string (mkB X.s))).setCell ⟨g7,tn*4+3,none⟩ (.slice sa sn sc)).setCell ⟨g,1,none⟩ (.slice (some ⟨g7,0,none⟩) (tn+1) cap7)) F r p a cap bs yq V n ({ top with l:=top.l++[X] }::rest) at2:=by
 subst HTN
 have hk:zaj (fun b=>(Value.slice ta top.l.length tc).ownBlock=some b) W5 ((((w7.setCell ⟨g7,top.l.length*4,none⟩ (.int .i64 X.kind)).setCell ⟨g7,top.l.length*4+1,none⟩ (.int .i64 X.n)).setCell ⟨g7,top.l.length*4+2,none⟩ (.string (mkB X.s))).setCell ⟨g7,top.l.length*4+3,none⟩ (.slice sa sn sc)):=by
  have h0:zaj (fun b=>(Value.slice ta top.l.length tc).ownBlock=some b) W5 w7 :=
   (zax (zam W5 o).drew).grown HG7 fun k hk=>.inl hk
  have hg7:(Value.slice ta top.l.length tc).ownBlock=some g7\/W5.heap.size<=g7:=by rcases HAT with h|h;exact .inl h;exact .inr (by omega)
  exact (((h0.setCell (a:=⟨g7,_,none⟩) hg7 _).setCell (a:=⟨g7,_,none⟩) hg7 _).setCell (a:=⟨g7,_,none⟩) hg7 _).setCell (a:=⟨g7,_,none⟩) hg7 _
 have N:=HG5.put HGL HVS HX (v':=.slice (some ⟨g7,0,none⟩) (top.l.length+1) cap7) (owns_setLast HO7) hk (fun b hb=>by
  have hb:g7=b:=by simpa [Value.ownBlock] using hb
  subst hb
  rcases HAT with h|h;exact .inl h;exact .inr (by omega))
 refine ⟨(let ⟨gs2,osl2,h⟩:=N.stk;⟨gs2,osl2,h.give fun b hb=>.inl hb⟩),zch N.sg HR5 (.inl rfl),hv,fun v hv=>?_,.inr hrng⟩
 rcases List.mem_cons.1 hv with rfl|hv
 ·have:=hlen top List.mem_cons_self
  simpa using this
 ·have:=hlen v (List.mem_cons_of_mem _ hv)
  omega
set_option maxRecDepth 100000 in
theorem value_any {w:World} {a:Option Addr} {cap:Nat} {bs:List UInt8} (hr:Row w 1 a bs.length cap (bs.map u8C)) (hn:bs.length<=400000) (at0:Int) (yq:Bool) (V:PV×Int×Int) (hV:valO bs yq (bs.length+2) [] at0=some V) :
  Calls Tryz.prog 45 #[.slice a bs.length cap,.int .i64 at0,.bool yq] w (ValEnd w V):=by
 obtain ⟨r,hrr⟩:∃r,r=w.heap.size:=⟨_,rfl⟩
 have hs0:zaz w ((w.alloc (.cells #[.int .i64 0,.int .i64 0,.string ⟨#[]⟩,.slice none 0 0] 27)).alloc (.cells #[.slice a bs.length cap,.int .i64 at0,.bool yq,.slice none 0 0] 160)) (fun _=>False) (fun b=>b=r) (r+1) a cap bs yq [] at0 [] (.slice none 0 0) :=
  ⟨zac _ (by rw [zan,hrr]),by omega,by omega,World.ownsRow_nil _ _ _ _,fun b hb=>(by cases hb),rfl,fun b hb=>hb.elim,fun b hb=>by rw [zan,zan];omega,zbm w _ _,hr,hn,by simp⟩
 have HAT:=yb (show VAt w ((w.alloc (.cells #[.int .i64 0,.int .i64 0,.string ⟨#[]⟩,.slice none 0 0] 27)).alloc (.cells #[.slice a bs.length cap,.int .i64 at0,.bool yq,.slice none 0 0] 160)) (fun _=>False) r (r+1) a cap bs yq V (bs.length+2) [] at0 from
  ⟨⟨_,_,hs0⟩,zak _ (zac _ hrr),hV,fun v hv=>(by cases hv),.inl rfl⟩)
 have HRR:=yb hrr
 clear hs0 hV hr hn hrr
 go_enter Tryz.func45,Tryz.ntmps45
 go_wp2
 refine zcv 0 (ValI w r (r+1) a cap bs yq at0 V) rfl ?first ?pass
 case first =>
  intro hpass
  have HPASS:=yb hpass
  clear hpass
  go_wp2
  rw [<-HRR.out]
  refine wp_label ?_
  rename_i K hK
  exact hK _ _ (HPASS.out _ _ _ ⟨_,[],at0,_,_,_,_,_,_,_,_,_,_,_,_,_,_,_,_,_,_,_,_,_,_,_,_,_,_,_,_,_,_,_,_,_,_,_,_,_,_,_,_,_,_,_,_,_,_,_,_,_,_,_,_,HAT,rfl⟩)
 case pass =>
  rintro n act W ⟨F,st,at_,u10,u11,u12,u13,u14,u15,u16,u17,u18,u19,u20,u21,u22,u23,u24,u25,u26,u27,u28,u29,u30,u31,u32,u33,u34,u35,u36,u37,u38,u39,u40,u41,u42,u43,u44,u45,u46,u47,u48,u49,u50,u51,u52,u53,u54,u55,u56,u57,u58,u59,u60,u61,HA,rfl⟩
  obtain ⟨p,hp⟩:∃p,p=r+1:=⟨_,rfl⟩
  rw [<-hp] at HA |-
  have HP:=yb hp
  clear hp HAT
  obtain ⟨gs,osl,hs⟩:=HA.out.stk
  have HS:=yb hs
  have HNX:=yb (pnext_any hs)
  have HFU:=yb HA.out.fuel
  have HRES:=yb HA.out.res
  have hrl:r<W.heap.size:=zai HA.out.res
  have hpr:p≠r:=hs.gp
  have HLEN:=yb HA.out.len
  have HSM:=yb HA.out.small
  have HRNG:=yb HA.out.rng
  have HHR:=yb (show w.heap.size<=r by rw [HRR.out];exact yp _)
  have hfu:=HFU.out
  cases n with
  | zero=>cases hfu
  | succ n =>
  unfold valO at hfu
  simp only at hfu
  obtain ⟨T,hT⟩:∃T,T=zal bs at_ yq:=⟨_,rfl⟩
  rw [<-hT] at hfu HNX
  have HT:=yb hT
  obtain ⟨x,tf,tt,er⟩:=T
  simp only at hfu HNX
  clear hs hT HFU HA
  by_cases her:er=0
  case neg =>
   have hv:=hfu
   rw [yg her] at hv
   have HV:=yb (Option.some.inj hv).symm
   have e1:(er==0)=false:=by rw [yf];exact her
   have e2:(er != 0)=true:=by simp only [bne,e1,yj]
   clear hfu hv her
   unfold tokN at HNX
   go_wp2_with fail
   refine HNX.out.mono ?_
   rintro e w1 ⟨rfl,hs1,hk1⟩
   have HR1:=yb ((hk1.alloc (.cells (tokN x tf tt) 150)).obj HRES.out (Ne.symm hpr))
   have HB1:=yb (hs1.bel.alloc hs1.bel.size (.cells (tokN x tf tt) 150))
   unfold tokN at HR1 HB1
   obtain ⟨⟨k0,k1,k2,k3⟩,m0,m1,m2,m3⟩:=zaf HR1.out
   clear hs1 hk1
   go_upto_region 3 with fail
   generalize w1.alloc _=W2 at *
   go_wp2
   try simp only [Exit.jump]
   refine yi (zae rfl _ _ r 27 _ (0,0) _ rfl (by exact set4 HR1.out _ _ _ _) Tryz.underlying27 rfl (by exact zar) _ _ rfl rfl) rfl ?_
   rw [HV.out]
   exact ⟨.slice none 0 0,rfl,IsV.leaf _ _ _ rfl,zad HB1.out HHR.out _ _ _ _⟩
  subst her
  have hv:=hfu
  rw [yh (by simp)] at hv
  have hrng:0<=at_/\at_<=bs.length:=by
   have h:=HT.out
   by_cases ho:at_<0\/(bs.length:Int)<at_
   ·unfold zal at h
    rw [yg ho] at h
    have h2:=congrArg (fun z:Tk×Int×Int×Int=>z.2.2.2) h
    simp at h2
   ·omega
  have hst:=fun w1 (h1:zaz w w1 F (fun b=>b=r) p a cap bs yq st tt gs osl)=>step_any h1 x tf tt HSM.out
  have HST:=yb hst
  have hat:=fun h=>zda (bs:=bs) (k:=at_) (yq:=yq) hrng.1 hrng.2 (by rw [<-HT.out]) h
  rw [<-HT.out] at hat
  have hto:=za1 (bs:=bs) (k:=at_) yq hrng.1 hrng.2
  rw [<-HT.out] at hto
  simp only at hat hto
  have hsa:=stepV_at (bs:=bs) (yq:=yq) (k:=tt) (by omega) hto.2 st x
  have hsk:=fun h=>zgw (bs:=bs) (yq:=yq) (k:=tt) (st:=st) (t:=x) h
  have hsl:=stepV_len (bs:=bs) (yq:=yq) (st:=st) (k:=tt) (t:=x) (N:=at_) hrng.1 HLEN.out
  obtain ⟨R,hRR⟩:∃R,R=za8 bs yq st tt x:=⟨_,rfl⟩
  rw [<-hRR] at hsa hsk hsl hv
  have HST2:=yb (show ∀w1,zaz w w1 F (fun b=>b=r) p a cap bs yq st tt gs osl->Calls Tryz.prog 82 #[.pointer (some ⟨p,0,none⟩),.agg (tokN x tf tt)] w1 (PStep w w1 F (fun b=>b=r) p a cap bs yq R) from fun w1 h1=>by rw [hRR];exact hst w1 h1)
  obtain ⟨o,st2,at2,er2⟩:=R
  simp only at hsa hsk hsl hv
  have HV:=yb hv
  have HSL:=yb hsl
  have HSA:=yb hsa
  have HSK:=yb (fun h=>hat (hsk h))
  have HTO:=yb hto
  have HR0:=yb hrng
  clear hst HST hat hto hsa hsk hsl hRR hv hfu hrng HT
  unfold tokN at HNX HST2
  go_wp2_with fail
  refine HNX.out.mono ?_
  rintro e w1 ⟨rfl,hs1,hk1⟩
  have HR1:=yb (hk1.obj HRES.out (Ne.symm hpr))
  have HS1:=yb hs1
  clear hs1 hk1 HNX
  go_wp2_with fail
  refine (HST2.out _ (HS1.out.alloc _)).mono ?_
  rintro e w3 ⟨F',sa,sn,sc,X,rfl,hX,hN⟩
  have HX:=yb hX
  have HN:=yb hN
  have HR3:=yb (zch hN.sg (zak (.cells #[.int .i64 x.kind,.int .i64 tf,.int .i64 tt,.int .i64 x.vk,.int .i64 x.vn,.string (mkB x.vs),.slice none 0 0,.string (mkB x.s)] 150) HR1.out) rfl)
  have HB3:=yb (show Below w.heap.size w w3 from (let ⟨_,_,h⟩:=hN.stk;h.bel))
  clear hX hN HST2 HS1 HR1
  unfold pvA
  by_cases her2:er2=0
  case neg =>
   have hv:=HV.out
   rw [yg her2] at hv
   have HVV:=yb (Option.some.inj hv).symm
   have e1:(er2==0)=false:=by rw [yf];exact her2
   have e2:(er2 != 0)=true:=by simp only [bne,e1,yj]
   clear hv her2
   simp only
   generalize o.isSome=io at *
   go_upto_region 6 with fail
   have HR4:=yb (zak (.cells #[.int .i64 X.kind,.int .i64 X.n,.string (mkB X.s),.slice sa sn sc] 27) HR3.out)
   have HB4:=yb (HB3.out.alloc HB3.out.size (.cells #[.int .i64 X.kind,.int .i64 X.n,.string (mkB X.s),.slice sa sn sc] 27))
   generalize w3.alloc _=W4 at *
   obtain ⟨⟨k0,k1,k2,k3⟩,m0,m1,m2,m3⟩:=zaf HR4.out
   go_wp2
   refine yi (zae rfl _ _ r 27 _ (0,0) _ rfl (by exact set4 HR4.out _ _ _ _) Tryz.underlying27 rfl (by exact zar) _ _ rfl rfl) rfl ?_
   rw [HVV.out]
   exact ⟨.slice none 0 0,rfl,IsV.leaf _ _ _ rfl,zad HB4.out HHR.out _ _ _ _⟩
  subst her2
  have hv:=HV.out
  rw [yh (by simp)] at hv
  have hlt:at_<tt:=HSK.out rfl
  have hrng:=HR0.out
  have hsa:=HSA.out
  have hsl:=HSL.out
  cases o with
  | none =>
   simp only at hv
   have HVA:=yb (show ∀o:Obj,VAt w (w3.alloc o) F' r p a cap bs yq V n st2 at2 from fun o =>
    ⟨(let ⟨gs2,osl2,h⟩:=HN.out.stk;⟨gs2,osl2,h.alloc o⟩),zak o HR3.out,hv,fun v hv=>by have:=hsl v hv;omega,.inr ⟨by omega,hsa.2⟩⟩)
   clear hv hlt hsa hsl HN HX hrng
   simp only [Option.isSome_none]
   go_wp2
   go_step3
   exact ⟨rfl,n,Nat.lt_succ_self _,F',st2,at2,_,_,_,_,_,_,_,_,_,_,_,_,_,_,_,_,_,_,_,_,_,_,_,_,_,_,_,_,_,_,_,_,_,_,_,_,_,_,_,_,_,_,_,_,_,_,_,_,_,_,_,_,yb (HVA.out _),rfl⟩
  | some x0 =>
   simp only [Option.isSome_some]
   obtain ⟨rfl,hv0⟩:=HX.out x0 rfl
   have HV0:=yb hv0
   obtain ⟨gs2,osl2,hs2⟩:=HN.out.stk
   have HS2:=yb hs2
   simp only at hv
   go_upto_region 9 with fail
   obtain ⟨v4,hv4⟩:∃v4,v4=w3.heap.size:=⟨_,rfl⟩
   have hb4:=zam w3 (.cells #[.int .i64 X.kind,.int .i64 X.n,.string (mkB X.s),.slice sa sn sc] 27)
   have hk4:=zac (w:=w3) (b:=v4) (.cells #[.int .i64 X.kind,.int .i64 X.n,.string (mkB X.s),.slice sa sn sc] 27) hv4
   have HS4:=yb (hs2.mono hb4)
   have HG4:=yb (hs2.res (G':=fun b=>b=r\/b=v4) hb4 (fun b hb=>hb.imp id fun e=>by rw [e,hv4,zan];omega))
   have HV4:=yb (hv0.below hb4)
   have HR4:=yb (zab hb4 HR3.out)
   have HB4:=yo HB3 hb4
   have HK4:=yb hk4
   have HV3:=yb hv4
   have hv4r:v4≠r:=by have:=zai HR3.out;omega
   have hv4p:v4≠p:=by have:=hs2.lt;omega
   rw [<-hv4]
   clear hv0 hs2 HX HN HS2 HV0 HR3 HB3 hb4 hk4
   generalize w3.alloc _=W4 at *
   clear hv4
   have HTOP:=yb (zgN HS4.out)
   go_wp2_with fail
   refine HTOP.out.mono ?_
   rintro e w5 ⟨rfl,q,rfl⟩
   have HS5:=yb (HS4.out.drewN q)
   have HG5:=yb (HG4.out.drewN q)
   have HV5:=yb (HV4.out.below (zah (Below.refl _ _) q))
   have HR5:=yb (show (W4.drewN q).heap[r]?=_ from HR4.out)
   have HB5:=yb (zah HB4.out q)
   have HK5:=yb (show (W4.drewN q).heap[v4]?=_ from HK4.out)
   clear HS4 HG4 HV4 HR4 HB4 HK4 HTOP
   generalize W4.drewN q=W5 at *
   obtain ⟨⟨k0,k1,k2,k3⟩,m0,m1,m2,m3⟩:=zaf HR5.out
   obtain ⟨⟨d0,d1,d2,d3⟩,-⟩:=zaf HK5.out
   cases st2 with
   | nil =>
    have hg:gs2=[]:=List.eq_nil_of_length_eq_zero (by rw [HS5.out.lvs.len];rfl)
    subst hg
    have HVV:=yb (Option.some.inj hv).symm
    obtain ⟨⟨c0,c1,c2,c3⟩,-⟩:=HS5.out.cells
    clear hv hlt hsa hsl hrng
    unfold topP
    go_wp2
    go_region
    all_goals
     go_wp2
     refine yi (zae rfl _ _ r 27 _ (0,0) _ rfl (by exact set4 HR5.out _ _ _ _) Tryz.underlying27 rfl (by exact zar) _ _ rfl rfl) rfl ?_
     rw [HVV.out]
     exact ⟨_,rfl,(IsV.setr HV5.out HS5.out _ _ _ _).drew,(zad HB5.out HHR.out _ _ _ _).drew⟩
   | cons top rest =>
    obtain ⟨g,t,ta,tc,cs,rfl,ht1,ht2,hgB,hgG,hgl,hO,hVs,hown⟩:=HG5.out.lastL
    obtain ⟨tn,htn⟩:∃tn,tn=top.l.length:=⟨_,rfl⟩
    rw [<-htn] at ht1 hO hgl hown
    have htn2:tn<=400000:=by
     have h1:=hsl top List.mem_cons_self
     have h2:=HS5.out.small
     omega
    have hgc:W5.cell? ⟨g,1,none⟩=some (.slice ta tn tc):=by rw [cell_of_row W5 g 1 _ _ _ hgl];rfl
    have hgf:W5.frozen? ⟨g,1,none⟩=false:=frozen_of_row W5 g 1 _ _ hgl
    have hv4l:v4<W5.heap.size:=zai HK5.out
    have hgll:g<W5.heap.size:=zai hgl
    have hgt:(Value.slice ta tn tc).ownBlock≠some g:=fun e=>by obtain ⟨ds,hc⟩:=zaJ hO e;exact za4 hc hgl (by decide) rfl
    have hvt:(Value.slice ta tn tc).ownBlock≠some v4:=fun e=>(hown v4 e).2 (.inr rfl)
    have HC0:Hid (S5v W5 v4 (.int .i64 X.kind) (.int .i64 X.n) (.string (mkB X.s)) (.slice sa sn sc)):=yb ⟨d0,d1,d2,d3⟩
    have HO:=yb hO
    have HGL:=yb hgl
    have HVS:=yb hVs
    have HTN:=yb htn
    have HBA:=yb (HS5.out.bel.size)
    have HGT:=yb hgt
    have HVT:=yb hvt
    have HVG:=yb (show v4≠g from fun e=>hgG (.inr e.symm))
    clear k0 k1 k2 k3 m0 m1 m2 m3 hO hgl hVs htn hown
    unfold topP
    go_upto_region 11 with fail
    have i1:(0:Int)<=(tn:Int):=by omega
    have i2:(tn:Int)<=400000:=by omega
    have i3:(tn:Int)<(tn:Int)+1:=by omega
    have i4:(tn:Int)<((tn+1:Nat):Int):=by omega
    have i5:tn<tn+1:=by omega
    have i6:(tn:Int).toNat=tn:=by omega
    obtain ⟨iB,hiB,hzB,hsB,hbB⟩:=info_parts EPV.info
    go_region_law (first|(refine step_append_lies _ (by rfl) _ _ _ (by rfl) w.heap.size 27 iB _ 4 56 EPV.und hiB hzB hsB hbB rfl (by omega) (.slice ta tn tc) tn cs (by rfl) ((HO.out.alloc _).drew) ⟨W5.heap.size,0,none⟩ 1 1 [.int .i64 0,.int .i64 0,.string ⟨#[]⟩,.slice none 0 0] (by rfl) (by rfl) (World.news_of_block (cs:=#[.int .i64 0,.int .i64 0,.string ⟨#[]⟩,.slice none 0 0]) (t:=27) (fr:=(0,0)) (heap_alloc_new W5 _)) (by simp [Value.oneCell']) (by omega) (by unfold maxLen;omega) (by omega) (by simp;have:=HBA.out;omega) (W5.heap.size+1) (by simp) ?_;intro g7 cap7 w7 hO7 hgrow hat hlt7;have HGV:Hid (g≠g7/\v4≠g7):=(by rcases hat with e|e;exact yb ⟨fun e2=>hgt (e2▸e),fun e2=>hvt (e2▸e)⟩;exact yb ⟨by omega,by omega⟩);have hs7:=(HC0.out.alloc (.cells #[.int .i64 0,.int .i64 0,.string ⟨#[]⟩,.slice none 0 0] 27)).drew.grown hgrow hvt;obtain ⟨s0,s1,s2,s3⟩:=hs7;obtain ⟨⟨z0,z1,z2,z3⟩,zf⟩:=owns_lastC hO7;have hgl7:=yb ((hgrow.block g (show g<(W5.alloc _).heap.size by rw [zan];omega) (fun e=>hgt e.symm)).trans (zak (.cells #[.int .i64 0,.int .i64 0,.string ⟨#[]⟩,.slice none 0 0] 27) HGL.out));have hgf7:=frozen_of_row w7 g 1 _ _ hgl7.out;have hgne:g≠g7:=HGV.out.1;have zf0:=zf (tn*4);have zf1:=zf (tn*4+1);have zf2:=zf (tn*4+2);have zf3:=zf (tn*4+3);have hc7:w7.cell? ⟨g,1,none⟩=some (.slice ta tn tc):=(by rw [cell_of_row w7 g 1 _ _ _ hgl7.out];rfl);have HG7:=yb hgrow;have HO7:=yb hO7;have HAT:=yb hat;clear zf hgrow hO7 hat hlt7))
    all_goals
     first
      | rw [zhf w7 hgne]
      | skip
     have HVA:=yb (VAt.put HG5.out HR5.out HGL.out HVS.out HV5.out HTN.out HG7.out HO7.out HAT.out hv (fun v hv=>by have:=hsl v hv;omega) ⟨by omega,hsa.2⟩)
     clear hv hlt hsa hsl hrng HG5 HR5 HGL HVS HV5 HTN HG7 HO7 HAT HO
     go_wp2
     go_step3
     exact ⟨rfl,n,Nat.lt_succ_self _,F',_,at2,_,_,_,_,_,_,_,_,_,_,_,_,_,_,_,_,_,_,_,_,_,_,_,_,_,_,_,_,_,_,_,_,_,_,_,_,_,_,_,_,_,_,_,_,_,_,_,_,_,_,_,_,HVA,rfl⟩
end Go.Proofs.YtfafdeemfeaedaaGreat
