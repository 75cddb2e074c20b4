/-
  Our texts SpJP to Co3, in one.
-/
import Derived.Test.YtfafdeemfeaedaaGreatPkV12
import Derived.Deep.RegionHeld3
import Derived.RegionTactic
import Derived.ChangeAlike
import Derived.IntWalk
import Derived.Shelf.SlSortCmp.NoneTotal
import Derived.Deep.AppendLies
import Derived.Deep.RegionLaw
import Derived.StillTailTactics
import Derived.Great.BuildSlice
set_option maxRecDepth 8000
set_option maxHeartbeats 8000000
open Go
variable {A A0 B N c2 e f g i j k kc m mb n' off p r tot u:Nat} {F G S U X:Nat->Prop} {L R T T':List (Int×Int)} {P at2 er gap tto x:Int} {W W' W0 W1 W2 W8 w' w0 w1 w2:World} {ad gv sl sv sx v' x0 x1 x2 x3 x4 y0 y1 y2 y3 z:Value} {c:UInt8} {cs xs:List Value} {ds rd:List Int} {ka sa:Option Addr} {key:List UInt8} {ov yq:Bool} {t ty:TypeId}
namespace Go.Proofs.YtfafdeemfeaedaaGreat
open Go.RowKit Go.Sort
def JoinAt (gap:Int) (S:List (Int×Int)) (k:Nat) (out:List (Int×Int)):Prop :=
 (k=0/\out=[])\/∃front f b,0<=f/\f<b/\b<=9223372036854775807/\out=front++[(f,b)]/\zcm gap S=front++(f,(tl gap b (S.drop k)).1)::(tl gap b (S.drop k)).2
theorem zcD {S:List (Int×Int)} (h:k<S.length):S.drop k=S.getD k (0,0)::S.drop (k+1):=by
 rw [List.drop_eq_getElem_cons h];simp [List.getD,h]
theorem joinAt_first {S:List (Int×Int)} (h:0<S.length) {y:Int} (hx:S.getD 0 (0,0)=(x,y)) (h0:0<=x) (h1:x<y) (h2:y<=9223372036854775807):JoinAt gap S 1 [(x,y)]:=by
 refine .inr ⟨[],x,y,h0,h1,h2,rfl,?_⟩
 have:=zcD h
 rw [List.drop_zero,hx] at this
 rw [this];rfl
theorem joinAt_app {S front:List (Int×Int)} {f b y:Int} (h:k<S.length) (hx:S.getD k (0,0)=(x,y)) (h0:0<=x) (h1:x<y) (h2:y<=9223372036854775807) (hc:¬x-b<=gap)
  (hj:zcm gap S=front++(f,(tl gap b (S.drop k)).1)::(tl gap b (S.drop k)).2):JoinAt gap S (k+1) (front++[(f,b)]++[(x,y)]):=by
 refine .inr ⟨front++[(f,b)],x,y,h0,h1,h2,rfl,?_⟩
 rw [hj,zcD h,hx]
 simp only [tl,yh hc]
 rw [List.append_assoc];rfl
theorem joinAt_mrg {S front:List (Int×Int)} {f b y:Int} (h:k<S.length) (hx:S.getD k (0,0)=(x,y)) (h0:0<=f) (h1:f<b) (hb:b<=9223372036854775807) (h2:y<=9223372036854775807) (hc:x-b<=gap)
  (hj:zcm gap S=front++(f,(tl gap b (S.drop k)).1)::(tl gap b (S.drop k)).2):JoinAt gap S (k+1) (front++[(f,max b y)]):=by
 refine .inr ⟨front,f,max b y,h0,by omega,by omega,rfl,?_⟩
 rw [hj,zcD h,hx]
 simp only [tl,yg hc]
theorem joinAt_end {S out:List (Int×Int)} (h:JoinAt gap S S.length out):out=zcm gap S:=by
 rcases h with ⟨h1,h2⟩|⟨front,f,b,_,_,_,h1,h2⟩
 ·have:S=[]:=List.eq_nil_of_length_eq_zero h1
  subst this;rw [h2];rfl
 ·rw [h2,h1,List.drop_length];rfl
def JoinEnd (gap:Int) (L:List (Int×Int)) (w:World) (e:Ending) (w':World):Prop :=
 ∃(S:List (Int×Int)) (v:Value),S.Perm (full L)/\S.Pairwise (fun x y=>x.1<=y.1)/\e=.returned v/\w'.ownsRow w.heap.size 129 2 v (zcm (max 0 gap) S).length (spV (zcm (max 0 gap) S))/\Below w.heap.size w w'
theorem zg7 (w:World) (x y:Value) (e:TypeId):Row (w.alloc (.cells #[x,y] e)) 2 (some ⟨w.heap.size,0,none⟩) 1 1 [x,y] :=
 ⟨rfl,yp _,by simp [maxLen],fun h=>(by cases h),fun _=>⟨w.heap.size,0,rfl,by rw [zan];omega,fun j u hj=>by
  rw [cell_of_row _ _ _ _ _ _ (zac _ rfl)]
  rcases j with _|_|j
  ·simpa using hj
  ·simpa using hj
  ·simp at hj⟩⟩
def Fit (L:List (Int×Int)):Prop:=∀x∈L,-9223372036854775808<=x.1/\x.1<=9223372036854775807/\-9223372036854775808<=x.2/\x.2<=9223372036854775807
theorem full_mem {S:List (Int×Int)} (hp:S.Perm (full L)) (hf:Fit L):∀x∈S,0<=x.1/\x.1<x.2/\x.2<=9223372036854775807:=fun x hx=>by
 have h1:=List.mem_filter.1 (hp.mem_iff.1 hx)
 have h2:=zbG.1 (by simpa using h1.2)
 exact ⟨h2.1,h2.2,(hf x h1.1).2.2.2⟩
theorem spV_set2:∀(L:List (Int×Int)) (q:Nat) (f b z:Int),L.getD q (0,0)=(f,b)->(spV L).set (q*2+1) (.int .i64 z)=spV (L.set q (f,z))
 | [],q,f,b,z,_=>by simp [spV]
 | y::L,0,f,b,z,h=>by
  simp [List.getD] at h
  subst h
  simp [spV]
 | y::L,k+1,f,b,z,h=>by
  have:=spV_set2 L k f b z (by simpa [List.getD] using h)
  rw [show (k+1)*2+1=k*2+1+1+1 from by omega]
  simp only [spV,List.set_cons_succ,this]
theorem last_get (front:List (Int×Int)) (z:Int×Int):(front++[z]).getD front.length (0,0)=z:=by simp [List.getD]
theorem last_set (front:List (Int×Int)) (z z':Int×Int):(front++[z]).set front.length z'=front++[z']:=by simp
theorem own_shape {w:World} {base sz n:Nat} {v:Value} (h:w.ownsRow base e sz v n xs) (hn:0<n*sz):∃g cap,v=.slice (some ⟨g,0,none⟩) n cap/\base<=g:=by
 obtain ⟨h1,h2⟩:=h
 rcases h2 with ⟨_,h3⟩|⟨g,cap,cur,hv,hb,_⟩
 ·subst h3;simp at h1;omega
 ·exact ⟨g,cap,hv,hb⟩
theorem SetV.none (w:World):SetV w none []:=.inl ⟨rfl,rfl⟩
def AllEnd (T:List (Int×Int)) (w:World) (e:Ending) (w':World):Prop:=∃v,e=.returned v/\w'.ownsRow w.heap.size 129 2 v T.length (spV T)/\Below w.heap.size w w'
theorem zgv (pv:Option Addr) (T:List (Int×Int)) (w:World) (h:SetV w pv T) (hn:T.length<=1000000) :
  Calls Tryz.prog 104 #[.pointer pv] w (AllEnd T w):=by
 rcases h with ⟨rfl,rfl⟩|⟨p,o,a,c,rfl,k0,hr⟩
 ·go_enter Tryz.func104,Tryz.ntmps104
  go_wp2
  go_ret
  exact ⟨_,rfl,World.ownsRow_nil _ _ _ _,Below.refl _ _⟩
 ·have hcl:=cloneS a T.length c (spV T) w hr (zbC T) (by omega)
  have HC:=yb hcl
  clear hcl hr
  go_enter Tryz.func104,Tryz.ntmps104
  go_wp2_with (go_at_call 141;refine HC.out.mono ?_;rintro e w1 ⟨v,rfl,hO,hb,hnn⟩;have HO:=yb hO;have HB:=yb hb;clear hO hb hnn)
  go_ret
  exact ⟨_,rfl,HO.out,HB.out⟩
def sumS (L:List (Int×Int)):Int:=(L.map fun x=>x.2-x.1).foldr (· + ·) 0
def zbZ:List (Int×Int)->Int->Int
 | [],at_=>at_
 | x::L,at_=>if x.1<=at_/\at_<x.2 then x.2 else zbZ L at_
theorem upto_any (pv:Option Addr) (T:List (Int×Int)) (at_:Int) (w:World) (h:SetV w pv T) (hn:T.length<=1000000) :
  Calls Tryz.prog 71 #[.pointer pv,.int .i64 at_] w fun e w'=>e=.returned (.int .i64 (zbZ T at_))/\Below w.heap.size w w':=by
 have HA:=yb (zgv pv T w h hn)
 obtain ⟨n,hnn⟩:∃n,n=T.length:=⟨_,rfl⟩
 have HN:=yb hnn
 rw [<-hnn] at hn
 clear h hnn
 go_enter Tryz.func71,Tryz.ntmps71
 go_wp2_with fail
 refine HA.out.mono ?_
 rintro e w1 ⟨v,rfl,hO,hb⟩
 obtain ⟨a,c,rfl,hr,_⟩:=Row.of_owns hO
 rw [<-HN.out] at hr |-
 have HR:=yb hr
 have HB:=yb hb
 clear hO hr hb
 go_wp2
 go_loopw [10] (fun i wr=>∃k:Nat,i=.int .i64 k/\k<=n/\Hid (zbZ T at_=zbZ (T.drop k) at_)/\Hid (Below w1.heap.size w1 wr)) (fun i _=>n-(intOf i).toNat)
 case atStart=>exact ⟨0,rfl,Nat.zero_le _,yb rfl,yb (Below.refl _ _)⟩
 case round =>
  obtain ⟨k,rfl,hk,HU,HBk⟩:=hrel
  by_cases hlt:k<n
  ·obtain ⟨b,off,rfl,hblt,hc⟩:=SRow.at (HR.out.mono HBk.out) k hlt
   obtain ⟨hc0,hc1⟩:=hc k hlt
   have hkT:k<T.length:=by rw [<-HN.out];exact hlt
   have hu:=HU.out
   rw [zcD hkT] at hu
   obtain ⟨x,y,hxy⟩:∃x y,T.getD k (0,0)=(x,y):=⟨_,_,rfl⟩
   rw [hxy] at hc0 hc1 hu
   simp only [zbZ] at hc0 hc1 hu
   have HU2:=yb hu
   clear hc hxy hu
   by_cases c1:x<=at_
   ·by_cases c2:at_<y
    ·go_wp2
     go_ret
     exact ⟨zaR (by rw [HU2.out,yg ⟨c1,c2⟩]),HB.out.trans ((HBk.out.alloc (by exact HBk.out.size) _).mono HB.out.size)⟩
    ·go_wp2
     go_roundw
     case rel=>exact ⟨k+1,by go_num,by omega,yb (by rw [HU2.out,yh (by omega)]),yb (HBk.out.alloc (by exact HBk.out.size) _)⟩
     case measure=>simp [intOf];omega
   ·have hd:decide (x<=at_)=false:=by simpa using c1
    go_wp2
    go_roundw
    case rel=>exact ⟨k+1,by go_num,by omega,yb (by rw [HU2.out,yh (by omega)]),yb (HBk.out.alloc (by exact HBk.out.size) _)⟩
    case measure=>simp [intOf];omega
  ·obtain rfl:k=n:=by omega
   have hu:=HU.out
   rw [show T.drop k=[] from by rw [HN.out];exact List.drop_length] at hu
   have HU2:=yb hu
   clear hu
   go_wp2
   go_ret
   exact ⟨zaR (by rw [HU2.out];rfl),HB.out.trans (HBk.out.mono HB.out.size)⟩
def hasS (T:List (Int×Int)) (x:Int×Int):Bool:=emp x||decide (x.2<=zbZ T x.1)
def zbu (tto:Int):Int->List (Int×Int)->List (Int×Int)
 | at_,[]=>if at_<tto then [(at_,tto)] else []
 | at_,z::L=>(if at_<min z.1 tto then [(at_,min z.1 tto)] else [])++zbu tto (max at_ (min z.2 tto)) L
def zcX (T:List (Int×Int)) (x:Int×Int):List (Int×Int):=if emp x=true then [] else zbu x.2 x.1 T
structure zcT (W:World) (ab ob base:Nat) (A:Int) (out:List (Int×Int)) (v:Value):Prop where
 a:W.heap[ab]?=some (.cells #[.int .i64 A] 3 (0,0))
 o:W.heap[ob]?=some (.cells #[v] 50 (0,0))
 row:W.ownsRow base 129 2 v out.length (spV out)
 ne:ob≠ab
 lt1:ab<base
 lt2:ob<base
 le:base<=W.heap.size
def PutMS (W:World) (ab ob base:Nat) (A tto:Int) (out:List (Int×Int)) (v:Value) (e:Ending) (w':World):Prop :=
 e=.returned (.tuple #[])/\∃v',zcT w' ab ob base A (out++if A<tto then [(A,tto)] else []) v'/\zaj (fun b=>b=ob\/v.ownBlock=some b) W w'
theorem zcT.cells {ab ob base:Nat} {A:Int} {out:List (Int×Int)} {v:Value} (h:zcT W ab ob base A out v) :
  W.cell? ⟨ab,0,none⟩=some (.int .i64 A)/\W.cell? ⟨ob,0,none⟩=some v/\W.frozen? ⟨ab,0,none⟩=false/\W.frozen? ⟨ob,0,none⟩=false :=
 ⟨by rw [cell_of_row W ab 0 _ _ _ h.a];rfl,by rw [cell_of_row W ob 0 _ _ _ h.o];rfl,frozen_of_row W ab 0 _ _ h.a,frozen_of_row W ob 0 _ _ h.o⟩
theorem zcT.alloc {ab ob base:Nat} {A:Int} {out:List (Int×Int)} {v:Value} (h:zcT W ab ob base A out v) (o:Obj):zcT (W.alloc o) ab ob base A out v :=
 ⟨zak _ h.a,zak _ h.o,h.row.alloc _,h.ne,h.lt1,h.lt2,by rw [zan];have:=h.le;omega⟩
theorem zcT.setA {ab ob base:Nat} {A:Int} {out:List (Int×Int)} {v:Value} (h:zcT W ab ob base A out v) (A':Int):zcT (W.setCell ⟨ab,0,none⟩ (.int .i64 A')) ab ob base A' out v :=
 ⟨by rw [heap_setCell_same W ab 0 _ _ _ h.a];rfl,by rw [heap_setCell_other _ _ _ _ h.ne];exact h.o,ownsRow_setCell_other h.row (a:=⟨ab,0,none⟩) (fun e=>by have:=(h.row.lt ab e).1;have:=h.lt1;omega) _,h.ne,h.lt1,h.lt2,by simpa [World.setCell] using h.le⟩
theorem putM_any (ab ob base:Nat) (A tto:Int) (out:List (Int×Int)) (v:Value) (W:World) (h:zcT W ab ob base A out v) (hn:out.length<=1000000) :
  Calls Tryz.prog 137 #[.int .i64 tto,.pointer (some ⟨ab,0,none⟩),.pointer (some ⟨ob,0,none⟩)] W (PutMS W ab ob base A tto out v):=by
 obtain ⟨k0,k1,f0,f1⟩:=h.cells
 obtain ⟨a,c,rfl,_,_⟩:=Row.of_owns h.row
 have hlo:ob<W.heap.size:=(Array.getElem?_eq_some_iff.1 h.o).1
 have hla:ab<W.heap.size:=(Array.getElem?_eq_some_iff.1 h.a).1
 have hob:=h.lt2
 have hab:=h.lt1
 have hle:=h.le
 have hne:=h.ne
 have H:=yb h
 clear h
 by_cases hlt:A<tto
 ·go_enter Tryz.func137,Tryz.ntmps137
  go_wp2_with (at_builtin;refine zav ETS rfl (.tmp 7) (.tmp 11) rfl base _ out.length _ rfl (H.out.row.alloc _) _ 1 _ _ rfl (zg7 _ _ _ _) (zbC [(A,tto)]) (by unfold maxLen;omega) (by omega) (by rw [zan];omega) ?_;intro v' w5 hO5 hg5 hnil5;obtain ⟨a5,c5,rfl,_,_⟩:=Row.of_owns hO5;have hO:=(hg5.block ob (by rw [zan];omega) (fun e=>by have:=(H.out.row.lt ob e.symm).1;omega)).trans ((Below.heap_alloc W _ ob hlo).trans H.out.o);have hA:=(hg5.block ab (by rw [zan];omega) (fun e=>by have:=(H.out.row.lt ab e.symm).1;omega)).trans ((Below.heap_alloc W _ ab hla).trans H.out.a);have e0:=cell_of_row w5 ob 0 _ _ _ hO;have e1:=frozen_of_row w5 ob 0 _ _ hO;have HO5:=yb hO5;have HG5:=yb hg5;have HO:=yb hO;have HA:=yb hA;clear hO5 hg5 hnil5 hO hA)
  go_end0
  refine ⟨rfl,.slice a5 (out.length+1) c5,⟨?_,?_,?_,hne,hab,hob,?_⟩,?_⟩
  ·rw [heap_setCell_other _ _ _ _ (fun e=>hne e.symm)];exact HA.out
  ·rw [heap_setCell_same w5 ob 0 _ _ _ HO.out];rfl
  ·rw [yg hlt,List.length_append,zdp]
   exact ownsRow_setCell_other HO5.out (a:=⟨ob,0,none⟩) (fun e=>by have:=(HO5.out.lt ob e).1;omega) _
  ·have h1:=HG5.out.size
   rw [zan] at h1
   have h2:(w5.setCell ⟨ob,0,none⟩ (.slice a5 (out.length+1) c5)).heap.size=w5.heap.size:=by simp [World.setCell]
   omega
  ·exact (((zaj.refl _ W).alloc _).grown HG5.out (fun k hk=>.inl (.inr hk))).setCell (.inl (.inl rfl)) _
 ·go_enter Tryz.func137,Tryz.ntmps137
  go_wp2
  go_end0
  exact ⟨rfl,_,by rw [yh (by omega),List.append_nil];exact H.out,zaj.refl _ _⟩
def MissEnd (M:List (Int×Int)) (w:World) (e:Ending) (w':World):Prop:=∃v,e=.returned v/\w'.ownsRow w.heap.size 129 2 v M.length (spV M)/\Below w.heap.size w w'
theorem zes (tto:Int):∀(L:List (Int×Int)) (A:Int),(zbu tto A L).length<=L.length+1
 | [],A=>by simp only [zbu];split<;>simp
 | z::L,A=>by
  have:=zes tto L (max A (min z.2 tto))
  simp only [zbu,List.length_append,List.length_cons]
  split<;>simp<;>omega
theorem missing_any (pv:Option Addr) (T:List (Int×Int)) (x y:Int) (w:World) (h:SetV w pv T) (hn:T.length<=100000) :
  Calls Tryz.prog 96 #[.pointer pv,.agg #[.int .i64 x,.int .i64 y]] w (MissEnd (zcX T (x,y)) w):=by
 have hv:zcX T (x,y)=if emp (x,y)=true then [] else zbu y x T:=rfl
 have hbx:(w.alloc (.cells #[.int .i64 x,.int .i64 y] 129)).heap[w.heap.size]?=some (.cells #[.int .i64 x,.int .i64 y] 129 (0,0)):=zac _ rfl
 have hB0:=zam w (.cells #[.int .i64 x,.int .i64 y] 129)
 have hV:=h.mono hB0
 have hem:=fun W=>zfO x y W
 generalize hbe:emp (x,y)=be at hv hem
 have HV:=yb hv
 have HEM:=yb hem
 clear hv hem h hbe
 go_enter Tryz.func96,Tryz.ntmps96
 go_wp2_with fail
 generalize hWW:w.alloc (.cells #[.int .i64 x,.int .i64 y] 129)=W at *
 refine (HEM.out _).mono ?_
 rintro e w1 ⟨rfl,rfl⟩
 have HB0:=yb hB0
 have HSV:=yb hV
 have HBX:=yb hbx
 have hws:=hB0.size
 have hwl:w.heap.size<W.heap.size:=(Array.getElem?_eq_some_iff.1 hbx).1
 clear hWW hB0 hV hbx
 cases be
 ·have hbW:=zam W (.cells #[.int .i64 x,.int .i64 y] 129)
  have hSV1:=HSV.out.mono hbW
  have hBX1:=zab hbW HBX.out
  have hB1:=HB0.out.trans (hbW.mono hws)
  have hs1:=hbW.size
  generalize W.alloc (.cells #[.int .i64 x,.int .i64 y] 129)=W1 at *
  have b0:W1.cell? ⟨w.heap.size,0,none⟩=some (.int .i64 x):=by rw [cell_of_row W1 _ 0 _ _ _ hBX1];rfl
  have b1:W1.cell? ⟨w.heap.size,1,none⟩=some (.int .i64 y):=by rw [cell_of_row W1 _ 1 _ _ _ hBX1];rfl
  have HSV1:=yb hSV1
  have HBX1:=yb hBX1
  have HB1:=yb hB1
  clear hbW hSV1 hBX1 hB1 HSV HBX HB0
  have hwl1:w.heap.size<W1.heap.size:=by omega
  have hwn1:¬w.heap.size=W1.heap.size:=by omega
  go_wp2_with fail
  have hbW2:=zbm W1 (.cells #[.slice none 0 0] 50) (.cells #[.int .i64 x] 3)
  have hO2:((W1.alloc (.cells #[.slice none 0 0] 50)).alloc (.cells #[.int .i64 x] 3)).heap[W1.heap.size]?=some (.cells #[.slice none 0 0] 50 (0,0)):=zak _ (zac _ rfl)
  have hA2:((W1.alloc (.cells #[.slice none 0 0] 50)).alloc (.cells #[.int .i64 x] 3)).heap[W1.heap.size+1]?=some (.cells #[.int .i64 x] 3 (0,0)):=zac _ (by rw [zan])
  have hsz2:((W1.alloc (.cells #[.slice none 0 0] 50)).alloc (.cells #[.int .i64 x] 3)).heap.size=W1.heap.size+1+1:=by rw [zan,zan]
  generalize (W1.alloc (.cells #[.slice none 0 0] 50)).alloc (.cells #[.int .i64 x] 3)=W2 at *
  obtain ⟨ob,hob⟩:∃ob,ob=W1.heap.size:=⟨_,rfl⟩
  have hs2:W2.heap.size=ob+2:=by rw [hob];omega
  have hwo:w.heap.size<ob:=by omega
  rw [<-hob] at hO2 hA2 |-
  obtain ⟨ab,hab⟩:∃ab,ab=ob+1:=⟨_,rfl⟩
  rw [<-hab] at hA2 |-
  have HAB:=yb hab
  have hao:ob<ab:=by omega
  have habs:ab<W2.heap.size:=by omega
  have HSV2:=yb (HSV1.out.mono hbW2)
  have HBX2:=yb (zab hbW2 HBX1.out)
  have HB2:=yb (HB1.out.trans (hbW2.mono (by omega)))
  have HO2:=yb hO2
  have HA2:=yb hA2
  have hws2:w.heap.size<=W2.heap.size:=by omega
  clear hO2 hA2 hbW2 hsz2 hob hab hs2 hwl1 hwn1 b0 b1 hs1 hws hwl HSV1 HBX1 HB1
  refine (zgv pv T W2 HSV2.out (by omega)).mono ?_
  rintro e W3 ⟨v3,rfl,hO3,hb3⟩
  obtain ⟨a3,c3,rfl,hr3,hbl3⟩:=Row.of_owns hO3
  have hlt3:∀z,a3=some z->z.block<W3.heap.size:=fun z hz=>(hO3.lt z.block (by simp [Value.ownBlock,hz])).2
  have hs3:=hb3.size
  obtain ⟨base,hbase⟩:∃base,base=W3.heap.size:=⟨_,rfl⟩
  have hM3:zcT W3 ab ob base x [] (.slice none 0 0):=⟨zab hb3 HA2.out,zab hb3 HO2.out,World.ownsRow_nil _ _ _ _,by omega,by omega,by omega,by omega⟩
  have hbb:W2.heap.size<=base:=by omega
  have hneq:∀z,a3=some z->¬(z.block=ob\/z.block=ab\/base<=z.block):=fun z hz h=>by have h1:=hbl3 z hz;have h2:=hlt3 z hz;omega
  have HM3:=yb hM3
  have HR3:=yb hr3
  have HNEQ:=yb hneq
  have HBX3:=yb (zab hb3 HBX2.out)
  have HB3:=yb (HB2.out.trans (hb3.mono hws2))
  have HBASE:=yb hbase
  have eg:∀args w,(callFunc 137 args).run Tryz.prog w=.ok (.enter 137 args) w:=enters_of Tryz.func137 (by kernel_rfl) rfl
  have hvm:zcX T (x,y)=zbu y x T:=HV.out
  have HVM:=yb hvm
  have hml:=zes y T x
  obtain ⟨n,hnT⟩:∃n,n=T.length:=⟨_,rfl⟩
  have HN:=yb hnT
  rw [<-hnT] at hr3 hn hml HR3 |-
  have HML:=yb hml
  clear hO3 hr3 hb3 hbl3 hlt3 hM3 hneq hbase hvm hml hnT HSV2 HBX2 HO2 HA2
  go_wp2
  go_loopw [18] (fun vi wr=>∃(k:Nat) (A:Int) (out:List (Int×Int)) (vo:Value),vi=.int .i64 k/\k<=n/\Hid (zbu y x T=out++zbu y A (T.drop k))/\Hid (zcT wr ab ob base A out vo)/\Hid (zaj (fun b=>b=ob\/b=ab\/base<=b) W3 wr)) (fun vi _=>n-(intOf vi).toNat)
  case atStart=>exact ⟨0,x,[],_,rfl,Nat.zero_le _,yb rfl,HM3,yb (zaj.refl _ _)⟩
  case round =>
   obtain ⟨k,A,out,vo,rfl,hk,HE,HM,HK⟩:=hrel
   have hkb:wr.heap[w.heap.size]?=some (.cells #[.int .i64 x,.int .i64 y] 129 (0,0)):=HK.out.obj HBX3.out (by have:=HBASE.out;omega)
   have hb1:wr.cell? ⟨w.heap.size,1,none⟩=some (.int .i64 y):=by rw [cell_of_row wr _ 1 _ _ _ hkb];rfl
   have hwr:w.heap.size<wr.heap.size:=(Array.getElem?_eq_some_iff.1 hkb).1
   have hol:out.length<=1000000:=by
    have h1:=congrArg List.length HE.out
    rw [List.length_append] at h1
    have:=HML.out;omega
   have HKB:=yb hkb
   clear hkb
   by_cases hlt:k<n
   ·obtain ⟨b,off,rfl,_,hc⟩:=SRow.at (HR3.out.keeps HK.out HNEQ.out) k hlt
    obtain ⟨hc0,hc1⟩:=hc k hlt
    have hkT:k<T.length:=by rw [<-HN.out];exact hlt
    have hE:=HE.out
    rw [zcD hkT] at hE
    obtain ⟨z1,z2,hz⟩:∃z1 z2,T.getD k (0,0)=(z1,z2):=⟨_,_,rfl⟩
    rw [hz] at hc0 hc1 hE
    simp only [zbu] at hc0 hc1 hE
    rw [<-List.append_assoc] at hE
    have HE2:=yb hE
    have hwrn:¬w.heap.size=wr.heap.size:=by omega
    clear hc hE hz
    go_wp2_with fail
    refine (putM_any ab ob base A (min z1 y) out vo _ (HM.out.alloc _) hol).mono ?_
    rintro e w5 ⟨rfl,v5,hM5,hK5⟩
    have hvo:∀b,vo.ownBlock=some b->base<=b/\b<wr.heap.size:=HM.out.row.lt
    have hbox:w5.heap[wr.heap.size]?=some (.cells #[.int .i64 z1,.int .i64 z2] 129 (0,0)):=hK5.obj (zac _ rfl) (fun h=>by
     have h1:=HM.out.le
     have h2:=HM.out.lt2
     rcases h with h|h
     ·omega
     ·have:=(hvo _ h).2;omega)
    have hbxx:w5.heap[w.heap.size]?=some (.cells #[.int .i64 x,.int .i64 y] 129 (0,0)):=hK5.obj (zak _ HKB.out) (fun h=>by
     rcases h with h|h
     ·omega
     ·have:=(hvo _ h).1;omega)
    obtain ⟨k0,_,f0,_⟩:=hM5.cells
    have k1:w5.cell? ⟨wr.heap.size,1,none⟩=some (.int .i64 z2):=by rw [cell_of_row w5 _ 1 _ _ _ hbox];rfl
    have k2:w5.cell? ⟨w.heap.size,1,none⟩=some (.int .i64 y):=by rw [cell_of_row w5 _ 1 _ _ _ hbxx];rfl
    have HM5:=yb (hM5.setA (max A (min z2 y)))
    have HK5:=yb ((HK.out.alloc (.cells #[.int .i64 z1,.int .i64 z2] 129)).trans hK5 (fun b h=>by
     rcases h with h|h
     ·exact .inl (.inl h)
     ·exact .inl (.inr (.inr (hvo b h).1))))
    clear hM5 hK5 hvo hbox hbxx
    go_wp2
    go_roundw
    case rel=>exact ⟨k+1,max A (min z2 y),_,v5,by go_num,by omega,HE2,HM5,yb (HK5.out.setCell (.inl (.inr (.inl rfl))) _)⟩
    case measure=>simp [intOf];omega
   ·obtain rfl:k=n:=by omega
    have hE:=HE.out
    rw [show T.drop k=[] from by rw [HN.out];exact List.drop_length,zbu] at hE
    have HE2:=yb hE
    clear hE
    go_wp2_with fail
    refine (putM_any ab ob base A y out vo _ HM.out hol).mono ?_
    rintro e w5 ⟨rfl,v5,hM5,hK5⟩
    have hvo:∀b,vo.ownBlock=some b->base<=b/\b<wr.heap.size:=HM.out.row.lt
    obtain ⟨_,k1,_,_⟩:=hM5.cells
    have HM5:=yb hM5
    have HK5:=yb (HK.out.trans hK5 (fun b h=>by
     rcases h with h|h
     ·exact .inl (.inl h)
     ·exact .inl (.inr (.inr (hvo b h).1))))
    clear hM5 hK5 hvo
    go_wp2
    go_ret
    refine ⟨v5,rfl,?_,HB3.out.trans (HK5.out.below (B:=w.heap.size) HB3.out.size (fun b h=>by omega))⟩
    rw [HVM.out,HE2.out]
    exact zbf HM5.out.row (by omega)
 ·go_wp2
  go_ret
  have hv2:zcX T (x,y)=[]:=HV.out
  exact ⟨_,rfl,by rw [hv2];exact World.ownsRow_nil _ _ _ _,HB0.out.alloc (by omega) _⟩
end Go.Proofs.YtfafdeemfeaedaaGreat
namespace Go.Proofs.YtfafdeemfeaedaaGreat
open Go.RowKit Go.Maps
def zb2 (C:Nat->UInt8) (at_ n:Nat):List UInt8:=(List.range n).map fun i=>C (at_+i)
theorem zgj (C:Nat->UInt8) (at_ n:Nat):(zb2 C at_ n).length=n:=by simp [zb2]
theorem bytesC_add (C:Nat->UInt8) (at_ n m:Nat):zb2 C at_ (n+m)=zb2 C at_ n++zb2 C (at_+n) m:=by
 unfold zb2
 apply List.ext_getElem?
 intro j
 by_cases h:j<n
 ·rw [List.getElem?_append_left (by simpa using h)]
  simp [h,show j<n+m by omega]
 ·rw [List.getElem?_append_right (by simpa using h)]
  by_cases h2:j<n+m
  ·simp [h2,show j-n<m by omega,show at_+n+(j-n)=at_+j by omega]
  ·simp [h2,show ¬j-n<m by omega]
theorem zeX (b:Int):∀(T:List (Int×Int)) (a:Int),(∀x∈T,0<=x.1)->a<=zbZ T a/\(∀j,a<=j->j<zbZ T a->cov T j)/\((∀x∈T,x.2<=b)->a<=b->zbZ T a<=b)
 | [],a,_=>⟨Int.le_refl _,fun j h1 h2=>by simp only [zbZ] at h2;omega,fun _ h=>h⟩
 | x::T,a,h=>by
  obtain ⟨g1,g2,g3⟩:=zeX b T a (fun y hy=>h y (List.mem_cons_of_mem _ hy))
  have h0:=h x (List.mem_cons_self ..)
  simp only [zbZ]
  by_cases hc:x.1<=a/\a<x.2
  ·rw [yg hc]
   refine ⟨by omega,fun j h1 h2=>?_,fun hb _=>hb x (List.mem_cons_self ..)⟩
   rw [za0]
   exact .inl ⟨h0,by omega,h2⟩
  ·rw [yh hc]
   refine ⟨g1,fun j h1 h2=>?_,fun hb ha=>g3 (fun y hy=>hb y (List.mem_cons_of_mem _ hy)) ha⟩
   rw [za0]
   exact .inr (g2 j h1 h2)
def ReadEnd (C:Nat->UInt8) (at_ n tot:Nat) (w:World) (e:Ending) (w':World):Prop :=
 ∃v,e=.returned (.tuple #[v,.bool (decide (at_+n=tot))])/\w'.ownsRow w.heap.size 5 1 v n ((zb2 C at_ n).map u8C)/\Below w.heap.size w w'
theorem read_any {w:World} {C:Nat->UInt8} (h:SrcQ w U p tot N T C) (hT:T.length<=100000) (at_:Nat) (hat:at_<=tot) (most:Int) (h0:0<=most) (h64:most<=9223372036854775807)
  {n:Nat} (hn:(n:Int)=min most (zbZ T at_-at_)) :
  Calls Tryz.prog 55 #[.pointer (some ⟨p,0,none⟩),.int .i64 at_,.int .i64 most] w (ReadEnd C at_ n tot w):=by
 have HI:=yb (is_any h)
 have HQ:=yb h
 obtain ⟨S,v0,mb,nn,f,hs,-⟩:=h
 have HS:=yb hs
 obtain ⟨-,c1,c2,c3⟩:=hs.cells
 have HUP:=yb (upto_any (some ⟨p,2,none⟩) T at_ w hs.set.toV (by omega))
 obtain ⟨u1,u2,u3⟩:=zeX tot T at_ (fun x hx=>(hs.form.full x hx).1)
 have u4:=u3 hs.in_ (by omega)
 have htb:=hs.totb
 have HCOV:=yb (fun j (hj:at_<=j) (hj2:j<at_+n)=>u2 (j:Int) (by omega) (by omega))
 obtain ⟨up,hup⟩:∃up,zbZ T at_=up:=⟨_,rfl⟩
 rw [hup] at HUP hn u1 u4
 have hd1:decide ((at_:Int)<0)=false:=ye (by omega)
 have hd2:decide ((tot:Int)<at_)=false:=ye (by omega)
 have hd2n:decide (tot<at_)=false:=ye (by omega)
 have hd3:decide (most<0)=false:=ye (by omega)
 have hnt:at_+n<=tot:=by omega
 have hnn:min most (up-at_)=(n:Int):=hn.symm
 have hmk:=info_parts zcz.info
 have h5:=hn
 clear hs u2 u3 hup hn hT
 go_enter Tryz.func55,Tryz.ntmps55
 go_wp2_with (go_at_call 70;refine HI.out.mono ?_;rintro e w' ⟨rfl,rfl⟩)
 refine HUP.out.mono ?_
 rintro e w1 ⟨rfl,hb1⟩
 obtain ⟨i0,hi0,hz0,hz1,hz2⟩:=hmk
 have HZ2:=yb hz2
 clear hz2
 have HS1:=yb (HS.out.mono hb1)
 have HB1:=yb hb1
 have hw1:=hb1.size
 clear hb1 c1 c2 c3 h5
 go_wp2_with (at_make;refine wpList_make_own _ rfl (.const (.int .i64 0)) (.tmp 41) 22 rfl w1.heap.size 5 i0 (.int .u8 0) 1 Tryz.underlying22 hi0 hz0 hz1 .i64 .i64 n n rfl rfl rfl (by rw [HZ2.out];omega) (by unfold maxLen;omega) (yp _) ?_;intro w2 hO2 hg2;have HO2:=yb hO2;have HB2:=yb (zf8 hg2 (yp _) (fun k hk=>by cases hk));clear hO2 hg2)
 go_loopw [9] (fun v wr=>∃(j:Nat) (a:Option Addr) (cap:Nat),v=.slice a j cap/\j<=n/\Hid (wr.ownsRow w1.heap.size 5 1 (.slice a j cap) j ((zb2 C at_ j).map u8C))/\Hid (Below w1.heap.size w1 wr)) (fun v _=>match v with | .slice _ j _=>n-j|_=>0)
 case atStart=>exact ⟨0,_,n,rfl,Nat.zero_le _,yb HO2.out,HB2⟩
 case round =>
  obtain ⟨j,a,cap,rfl,hj,HO,HB⟩:=hrel
  have HSR:=yb (HS1.out.mono HB.out)
  obtain ⟨-,c1,-,c3⟩:=HSR.out.cells
  have hw2:=HB.out.size
  by_cases hlt:j<n
  ·obtain ⟨K,hK⟩:∃K,K=(at_+j) / 4096:=⟨_,rfl⟩
   obtain ⟨O,hO⟩:∃O,O=(at_+j) % 4096:=⟨_,rfl⟩
   obtain ⟨Q,hQ⟩:∃Q,Q=at_+j:=⟨_,rfl⟩
   have hsum:(at_:Int)+(j:Int)=(Q:Int):=by omega
   have hq:(Q:Int) / 4096=(K:Int):=by omega
   have hrm:(Q:Int) % 4096=(O:Int):=by omega
   have hQ1:Q<=2147483647:=by omega
   have hO1:O<4096:=by omega
   have HKI:=yb (show i64K (K:Int) from ⟨by omega,by omega⟩)
   obtain ⟨g,hg⟩:∃g,f (K:Int)=some g:=by
    have h1:=HSR.out.known (at_+j) (HCOV.out (at_+j) (by omega) (by omega))
    rw [<-hK] at h1
    cases hf:f (K:Int) with
    | none=>exact absurd hf h1
    | some g=>exact ⟨g,rfl⟩
   have HF:=yb hg
   have HG:=yb (HSR.out.mem.blk K g hg)
   obtain ⟨m,hm⟩:∃m:Nat,m=min (4096-O) (n-j):=⟨_,rfl⟩
   have hmi:min ((4096-O:Nat):Int) ((n:Int)-j)=(m:Int):=by omega
   have hml:O+m<=4096:=by omega
   have hmn:j+m<=n:=by omega
   have hm0:0<m:=by omega
   have HKO:=yb (show 4096*K+O=at_+j by omega)
   have hji:decide ((j:Int)<n)=true:=yd (by omega)
   have hjn:decide (j<n)=true:=yd hlt
   have HROW:=yb (show Row wr 1 (some ⟨g,O,none⟩) m (4096-O) ((zb2 C (at_+j) m).map u8C) from
    ⟨by rw [List.length_map,zgj,Nat.mul_one],by omega,by unfold maxLen;omega,fun h=>(by cases h),fun _=>⟨g,O,rfl,(Array.getElem?_eq_some_iff.1 HG.out).1,fun i u hi=>by
     have hil:i<m:=by have:=(List.getElem?_eq_some_iff.1 hi).1;simpa [zgj] using this
     rw [cell_of_row _ _ _ _ _ _ HG.out]
     rw [List.getElem?_toArray,zfe _ (by omega)]
     rw [<-hi,List.getElem?_map]
     unfold zb2
     simp [hil]
     have:=HKO.out
     rw [show 4096*K+(O+i)=at_+j+i by omega]⟩⟩)
   have HONE:=yb (show ∀v∈(zb2 C (at_+j) m).map u8C,v.oneCell'=true from fun v hv=>by
    obtain ⟨x,-,rfl⟩:=List.mem_map.1 hv;rfl)
   have HADD:=yb (show (zb2 C at_ (j+m)).map u8C=(zb2 C at_ j).map u8C++(zb2 C (at_+j) m).map u8C by rw [bytesC_add,List.map_append])
   clear hK hO hg hm hlt hQ
   go_wp2_with (first
    |(at_lookup;refine wpList_lookF rfl (.tmp 60) (.tmp 61) rfl HSR.out.mem.map rfl rfl HKI.out HF.out ?_)
    |(at_builtin;refine zav zcz rfl (.tmp 65) (.tmp 74) rfl w1.heap.size _ j _ rfl HO.out _ m _ _ rfl HROW.out HONE.out (by unfold maxLen;omega) (by omega) hw2 ?_;intro v' w5 hO5 hg5 hnil5;obtain ⟨a5,cap5,hv5,-⟩:=Row.of_owns hO5;subst hv5;have HO5:=yb hO5;have HB5:=yb (HB.out.grown hg5 hw2 (fun q hq=>(HO.out.lt q hq).1));clear hO5 hg5 hnil5))
   clear hsum hq hrm hmi hnn
   go_roundw
   case rel=>exact ⟨j+m,a5,cap5,rfl,hmn,yb (by rw [HADD.out];exact HO5.out),HB5⟩
   case measure =>
    show n-(j+m)<n-j
    omega
  ·obtain rfl:j=n:=by omega
   have i1:IntKind.i64.wrap ((at_:Int)+j)=(at_:Int)+j:=IntWalk.i64_in _ (by omega)
   have HBB:=yb (fun q=>HB1.out.trans ((zah HB.out q).mono hw1))
   have HOO:=yb (fun q=>zbf (zaO HO.out (zah (Below.refl _ _) q)) hw1)
   clear hnn
   go_wp2
   go_quiet (fail)
   go_wp2
   go_ret2
   refine ⟨_,?_,HOO.out _,HBB.out _⟩
   show Ending.returned (.tuple #[.slice a j cap,.bool ((at_:Int)+j==(tot:Int))])=_
   rw [show ((at_:Int)+j==(tot:Int))=decide (at_+j=tot) by
    rw [Bool.eq_iff_iff,beq_iff_eq,decide_eq_true_iff];omega]
theorem first_any {w:World} {C:Nat->UInt8} (h:SrcQ w U p tot N T C) (hT:T.length<=100000) (at_:Int) :
  Calls Tryz.prog 38 #[.pointer (some ⟨p,0,none⟩),.int .i64 at_] w fun e w'=>e=.returned (.int .i64 (min (tot:Int) (zbZ T (max 0 at_))))/\Below w.heap.size w w':=by
 have HI:=yb (is_any h)
 obtain ⟨S,v0,mb,nn,f,hs,-⟩:=h
 obtain ⟨-,c1,-,-⟩:=hs.cells
 have HUP:=yb (fun (W:World) (h:Below w.heap.size w W)=>upto_any (some ⟨p,2,none⟩) T (max 0 at_) W (hs.set.toV.mono h) (by omega))
 have hp:=hs.set.lt p hs.set.own
 obtain ⟨V,hV⟩:∃V,zbZ T (max 0 at_)=V:=⟨_,rfl⟩
 obtain ⟨m,hm⟩:∃m,max 0 at_=m:=⟨_,rfl⟩
 rw [hV] at HUP |-
 rw [hm] at HUP
 clear hs hV
 go_enter Tryz.func38,Tryz.ntmps38
 go_wp2_with (go_at_call 70;refine HI.out.mono ?_;rintro e w' ⟨rfl,rfl⟩)
 go_region_held3 (fun w'=>w'.cell? ⟨p,1,none⟩=some (.int .i64 tot)) (first|assumption|exact c1|exact cell?_keep (by assumption) (by assumption))
  ((go_at_call 71;refine (HUP.out _ ?_).mono ?_;exact ((Below.refl _ _).drew);rintro e w3 ⟨rfl,hb3⟩))
 all_goals go_wp2
 all_goals go_ret
 all_goals exact ⟨rfl,(Below.refl _ _).drew.trans hb3⟩
end Go.Proofs.YtfafdeemfeaedaaGreat
namespace Go.Proofs.YtfafdeemfeaedaaGreat
open Go.RowKit Go.Sort
theorem joinS_any (ad:Addr) (n cap:Nat) (L:List (Int×Int)) (gap:Int) (w:World) (hr:SRow w (some ad) n cap L) (hf:Fit L) (hn:n<=1000000) (hg1:gap<=9223372036854775807) :
  Calls Tryz.prog 138 #[.slice (some ad) n cap,.int .i64 gap] w (JoinEnd gap L w):=by
 have hcl:=cloneS (some ad) n cap (spV L) w hr (zbC L) (by omega)
 have HC:=yb hcl
 have HF:=yb hf
 have hLn:=hr.len
 have HLN:=yb hLn
 clear hcl hf hr hLn
 go_enter Tryz.func138,Tryz.ntmps138
 go_wp2_with fail
 refine HC.out.mono ?_
 rintro e w1 ⟨v,rfl,hO1,hb1,hnn⟩
 obtain ⟨a1,c1,rfl,hr1,hbl1⟩:=Row.of_owns hO1
 have ha1:a1≠none:=fun e=>by subst e;have hc:=hr1.2.2.2.1 rfl;have h0:n=0:=(by have:=hr1.2.1;omega);subst hc h0;exact hnn (by simp) rfl
 obtain ⟨x1,rfl⟩:=Option.ne_none_iff_exists'.1 ha1
 obtain ⟨g,rfl⟩:∃g,x1=⟨g,0,none⟩:=by
  rcases hO1.2 with ⟨h3,_⟩|⟨g,cp,cur,h3,_⟩
  ·cases h3
  ·simp only [Value.slice.injEq,Option.some.injEq] at h3;exact ⟨g,h3.1⟩
 have hgw:w.heap.size<=g:=(hO1.lt g rfl).1
 have hgl1:=(hO1.lt g rfl).2
 have HB1:=yb hb1
 have hsz1:=hb1.size
 have HO1:=yb hO1
 clear hO1 hr1 hbl1 ha1 hb1 hnn
 go_wp2_with fail
 refine (delete_any _ g n c1 L w1 HO1.out).mono ?_
 rintro e w2 ⟨k,rfl,hO2,hK2⟩
 have hk:k=(full L).length:=by have:=hO2.1;rw [zbS] at this;omega
 have hkn:k<=n:=by rw [hk,<-HLN.out];exact List.length_filter_le _ _
 have HB2:=yb (HB1.out.trans (hK2.below (B:=w.heap.size) hsz1 (fun b hb=>by omega)))
 have HO2:=yb hO2
 have hs2:=hK2.size
 clear hO2 hK2 hk
 go_wp2_with fail
 refine (sort_any _ g k c1 (full L) w2 HO2.out (by omega)).mono ?_
 rintro e w3 ⟨rfl,S,hP,hS,hO3,hg3⟩
 have hSm:=full_mem hP HF.out
 have hsr:=zhl hO3
 have hSl:=hsr.len
 have HB3:=yb (HB2.out.grown hg3 HB2.out.size (fun q hq=>by cases hq;exact hgw))
 have HSR:=yb hsr
 have HP:=yb hP
 have HS:=yb hS
 have HSM:=yb hSm
 have HSL:=yb hSl
 have hs3:=hg3.size
 have hgl3:=(hO3.lt g rfl).2
 clear hO3 hg3 hSm hsr hP hS hSl
 go_wp2
 obtain ⟨gm,hgm⟩:∃gm,gm=max 0 gap:=⟨_,rfl⟩
 have hgm0:0<=gm:=by omega
 have hgm1:gm<=9223372036854775807:=by omega
 have HGM:=yb hgm
 rw [show max 0 gap=gm from hgm.symm]
 clear hgm
 go_loopw [6,19] (fun vo vi wr=>∃(j:Nat) (out:List (Int×Int)),vi=.int .i64 j/\j<=k/\out.length<=j/\Hid (JoinAt gm S j out)/\Hid (wr.ownsRow w3.heap.size 129 2 vo out.length (spV out))/\Hid (Below w3.heap.size w3 wr)) (fun _ vi _=>k-(intOf vi).toNat)
 case atStart=>exact ⟨0,[],rfl,Nat.zero_le _,yp _,yb (.inl ⟨rfl,rfl⟩),yb (World.ownsRow_nil _ _ _ _),yb (Below.refl _ _)⟩
 case round =>
  obtain ⟨j,out,rfl,hjk,hoj,HJ,HO,HB⟩:=hrel
  have hsw:=HB.out.size
  by_cases hlt:j<k
  ·obtain ⟨b9,o9,hb9,_,hc9⟩:=SRow.at (HSR.out.mono HB.out) j hlt
   simp only [Option.some.injEq,Addr.mk.injEq] at hb9
   obtain ⟨rfl,rfl,_⟩:=hb9
   obtain ⟨hc0,hc1⟩:=hc9 j hlt
   have hjS:j<S.length:=by rw [HSL.out];exact hlt
   obtain ⟨x,y,hxy⟩:∃x y,S.getD j (0,0)=(x,y):=⟨_,_,rfl⟩
   obtain ⟨m0,m1,m2⟩:=HSM.out (S.getD j (0,0)) (by simp [List.getD,hjS])
   rw [hxy] at hc0 hc1 m0 m1 m2
   simp only [Nat.zero_add] at hc0 hc1 m0 m1 m2
   have HXY:=yb hxy
   have HOA:=yb (HO.out.alloc (.cells #[.int .i64 x,.int .i64 y] 129))
   clear hc9 hxy
   rcases HJ.out with ⟨hj0,rfl⟩|⟨front,f,b,n0,n1,n2,rfl,hjoin⟩
   ·obtain ⟨aO,cO,rfl,_,_⟩:=Row.of_owns HO.out
    have HJ0:=yb hj0
    clear hj0
    have hd0:decide ((0:Int)<0)=false:=rfl
    go_wp2
    go_quiet (fail)
    have hO2:((wr.alloc (.cells #[.int .i64 x,.int .i64 y] 129)).drewN nq).ownsRow w3.heap.size 129 2 (.slice aO 0 cO) 0 (spV []):=zaO HOA.out (zah (Below.refl _ _) nq)
    have k0:((wr.alloc (.cells #[.int .i64 x,.int .i64 y] 129)).drewN nq).cell? ⟨wr.heap.size,0,none⟩=some (.int .i64 x):=(cell_of_row (wr.alloc _) wr.heap.size 0 _ _ _ (zac (w:=wr) _ rfl)).trans rfl
    have k1:((wr.alloc (.cells #[.int .i64 x,.int .i64 y] 129)).drewN nq).cell? ⟨wr.heap.size,1,none⟩=some (.int .i64 y):=(cell_of_row (wr.alloc _) wr.heap.size 1 _ _ _ (zac (w:=wr) _ rfl)).trans rfl
    have hBW:Below w3.heap.size w3 ((wr.alloc (.cells #[.int .i64 x,.int .i64 y] 129)).drewN nq):=zah (HB.out.alloc (by omega) _) nq
    have hszW:=hBW.size
    generalize (wr.alloc (.cells #[.int .i64 x,.int .i64 y] 129)).drewN nq=W at *
    have HO2:=yb hO2
    have HBW:=yb hBW
    clear hO2 hBW
    go_wp2_with (at_builtin;refine zav ETS rfl (.tmp 54) (.tmp 56) rfl w3.heap.size _ 0 _ rfl (HO2.out.alloc _) _ 1 _ _ rfl (zg7 _ _ _ _) (zbC [(x,y)]) (by unfold maxLen;omega) (by omega) (by rw [zan];omega) ?_;intro v' w5 hO5 hg5 hnil5;have HO5:=yb hO5;have HG5:=yb hg5;clear hO5 hg5 hnil5)
    go_roundw
    case rel =>
     refine ⟨j+1,[(x,y)],by go_num,by omega,by simp,?_,HO5,?_⟩
     ·rw [HJ0.out];exact yb (joinAt_first (by omega) (by rw [<-HJ0.out];exact HXY.out) m0 m1 m2)
     ·exact yb ((HBW.out.alloc hszW _).grown HG5.out (by rw [zan];omega) (fun q hq=>(HO2.out.lt q hq).1))
    case measure=>simp [intOf];omega
   ·obtain ⟨gO,cO,rfl,hgO⟩:=own_shape HO.out (by simp)
    obtain ⟨q,hq⟩:∃q,q=front.length:=⟨_,rfl⟩
    have hql:(front++[(f,b)]).length=q+1:=by rw [hq];simp
    rw [hql] at hoj HO HOA |-
    have hcell:=zdn HOA.out q (by omega)
    have hlast:(front++[(f,b)]).getD q (0,0)=(f,b):=by rw [hq];exact last_get _ _
    rw [hlast] at hcell
    obtain ⟨_,d1⟩:=hcell
    simp only at d1
    have fr1:=zdJ HOA.out (q*2+1)
    have c0:(wr.alloc (.cells #[.int .i64 x,.int .i64 y] 129)).cell? ⟨wr.heap.size,0,none⟩=some (.int .i64 x):=(cell_of_row (wr.alloc _) wr.heap.size 0 _ _ _ (zac (w:=wr) _ rfl)).trans rfl
    have c1:(wr.alloc (.cells #[.int .i64 x,.int .i64 y] 129)).cell? ⟨wr.heap.size,1,none⟩=some (.int .i64 y):=(cell_of_row (wr.alloc _) wr.heap.size 1 _ _ _ (zac (w:=wr) _ rfl)).trans rfl
    have hgOw:gO<wr.heap.size:=(HO.out.lt gO rfl).2
    have hszA:=zan wr (.cells #[.int .i64 x,.int .i64 y] 129)
    have HBA:=yb (HB.out.alloc (by omega) (.cells #[.int .i64 x,.int .i64 y] 129))
    have HQ:=yb hq
    have HJN:=yb hjoin
    have HLAST:=yb hlast
    have hd0:decide ((0:Int)<(q:Int)+1)=true:=by rw [decide_eq_true_iff];omega
    have hix:(q:Int)+1-1=(q:Int):=by omega
    have hov:-9223372036854775808<=x-b:=by omega
    have hov2:x-b<=9223372036854775807:=by omega
    clear hq hjoin hlast hql
    by_cases hc:x-b<=gm
    ·have hcd:decide (x-b<=gm)=true:=by simpa using hc
     go_wp2
     go_quiet (fail)
     have hO2:((wr.alloc (.cells #[.int .i64 x,.int .i64 y] 129)).drewN nq).ownsRow w3.heap.size 129 2 (.slice (some ⟨gO,0,none⟩) (q+1) cO) (q+1) (spV (front++[(f,b)])):=zaO HOA.out (zah (Below.refl _ _) nq)
     have k0:((wr.alloc (.cells #[.int .i64 x,.int .i64 y] 129)).drewN nq).cell? ⟨wr.heap.size,0,none⟩=some (.int .i64 x):=(cell_of_row (wr.alloc _) wr.heap.size 0 _ _ _ (zac (w:=wr) _ rfl)).trans rfl
     have k1:((wr.alloc (.cells #[.int .i64 x,.int .i64 y] 129)).drewN nq).cell? ⟨wr.heap.size,1,none⟩=some (.int .i64 y):=(cell_of_row (wr.alloc _) wr.heap.size 1 _ _ _ (zac (w:=wr) _ rfl)).trans rfl
     have hBW:Below w3.heap.size w3 ((wr.alloc (.cells #[.int .i64 x,.int .i64 y] 129)).drewN nq):=zah (HB.out.alloc (by omega) _) nq
     have hszW:=hBW.size
     generalize (wr.alloc (.cells #[.int .i64 x,.int .i64 y] 129)).drewN nq=W at *
     have HO2:=yb hO2
     have HBW:=yb hBW
     clear hO2 hBW
     have hcell2:=zdn HO2.out q (by omega)
     rw [HLAST.out] at hcell2
     have e1:=hcell2.2
     have fr2:=zdJ HO2.out (q*2+1)
     simp only at e1
     have hmx:(if b<y then y else b)=max b y:=by omega
     have HMX:=yb hmx
     have hql1:(q:Int)<(q:Int)+1:=by omega
     have hwr1:IntKind.i64.wrap (q:Int)=(q:Int):=IntWalk.i64_in _ (by omega)
     clear hcell2 hmx d1 fr1 c0 c1
     go_wp2
     refine wp_region_still_tail 14 (by kernel_rfl) (by kernel_rfl) ?_
     simp only [List.take_succ_cons,List.take_zero,List.drop_succ_cons,List.drop_zero]
     repeat still_step
     refine wpStill_nil ?_
     change wpList _ _ _ _ _ (W.drewN 1)
     go_wp2
     go_roundw
     case rel =>
      refine ⟨j+1,front++[(f,max b y)],by go_num,by omega,by have:=HQ.out;simp;omega,yb (joinAt_mrg hjS HXY.out n0 n1 n2 m2 hc HJN.out),yb ?_,?_⟩
      ·have h5:=zg2 (zaO HO2.out (zah (Below.refl _ _) 1)) (q*2+1) (.int .i64 (max b y))
       rw [spV_set2 _ q f b (max b y) HLAST.out,show (front++[(f,b)]).set q (f,max b y)=front++[(f,max b y)] from by rw [HQ.out,last_set]] at h5
       rw [show (front++[(f,max b y)]).length=q+1 from by rw [HQ.out];simp]
       exact h5
      ·exact yb ((zah HBW.out 1).setCell hgO _)
     case measure=>simp [intOf];omega
    ·have hcd:decide (x-b<=gm)=false:=by simpa using hc
     go_wp2
     go_quiet (fail)
     have hO2:((wr.alloc (.cells #[.int .i64 x,.int .i64 y] 129)).drewN nq).ownsRow w3.heap.size 129 2 (.slice (some ⟨gO,0,none⟩) (q+1) cO) (q+1) (spV (front++[(f,b)])):=zaO HOA.out (zah (Below.refl _ _) nq)
     have k0:((wr.alloc (.cells #[.int .i64 x,.int .i64 y] 129)).drewN nq).cell? ⟨wr.heap.size,0,none⟩=some (.int .i64 x):=(cell_of_row (wr.alloc _) wr.heap.size 0 _ _ _ (zac (w:=wr) _ rfl)).trans rfl
     have k1:((wr.alloc (.cells #[.int .i64 x,.int .i64 y] 129)).drewN nq).cell? ⟨wr.heap.size,1,none⟩=some (.int .i64 y):=(cell_of_row (wr.alloc _) wr.heap.size 1 _ _ _ (zac (w:=wr) _ rfl)).trans rfl
     have hBW:Below w3.heap.size w3 ((wr.alloc (.cells #[.int .i64 x,.int .i64 y] 129)).drewN nq):=zah (HB.out.alloc (by omega) _) nq
     have hszW:=hBW.size
     generalize (wr.alloc (.cells #[.int .i64 x,.int .i64 y] 129)).drewN nq=W at *
     have HO2:=yb hO2
     have HBW:=yb hBW
     clear hO2 hBW
     go_wp2_with (at_builtin;refine zav ETS rfl (.tmp 54) (.tmp 56) rfl w3.heap.size _ (q+1) _ rfl (HO2.out.alloc _) _ 1 _ _ rfl (zg7 _ _ _ _) (zbC [(x,y)]) (by unfold maxLen;omega) (by omega) (by rw [zan];omega) ?_;intro v' w5 hO5 hg5 hnil5;have HO5:=yb hO5;have HG5:=yb hg5;clear hO5 hg5 hnil5)
     go_roundw
     case rel =>
      refine ⟨j+1,front++[(f,b)]++[(x,y)],by go_num,by omega,by have:=HQ.out;simp;omega,yb (joinAt_app hjS HXY.out m0 m1 m2 (by omega) HJN.out),yb ?_,?_⟩
      ·have h5:=HO5.out
       rw [show spV (front++[(f,b)]++[(x,y)])=spV (front++[(f,b)])++spV [(x,y)] from zdp _ _,show (front++[(f,b)]++[(x,y)]).length=q+1+1 from by rw [HQ.out];simp]
       exact h5
      ·exact yb ((HBW.out.alloc hszW _).grown HG5.out (by rw [zan];omega) (fun q hq=>(HO2.out.lt q hq).1))
     case measure=>simp [intOf];omega
  ·obtain rfl:j=k:=by omega
   have HJE:=yb (joinAt_end (by rw [HSL.out];exact HJ.out))
   go_wp2
   go_ret
   refine ⟨S,_,HP.out,HS.out,rfl,?_,?_⟩
   ·rw [<-HGM.out,<-HJE.out];exact zbf HO.out (by have:=HB3.out.size;omega)
   ·exact HB3.out.trans (HB.out.mono HB3.out.size)
theorem sort_nil (fv:Value) (w:World):Calls Tryz.prog 167 #[.slice none 0 0,fv] w fun e w'=>e=.returned (.tuple #[])/\w'=w:=AnyF.slices_SortFunc_none Tryz.sortSpan none 0 fv w
theorem clone_nilS (w:World):Calls Tryz.prog 141 #[.slice none 0 0] w fun e w'=>e=.returned (.slice none 0 0)/\w=w':=by
 have hnil:=fun W:World=>Lib.run_eql_slice_nil (P:=Tryz.prog) W 50 129 none 0 0 0 0 Tryz.underlying50
 go_enter Tryz.func141,Tryz.ntmps141
 go_wp2
 go_ret
 exact ⟨rfl,rfl⟩
theorem joinS_nil (gap:Int) (w:World) (_hg1:gap<=9223372036854775807):Calls Tryz.prog 138 #[.slice none 0 0,.int .i64 gap] w (JoinEnd gap [] w):=by
 go_enter Tryz.func138,Tryz.ntmps138
 go_wp2_with fail
 refine (clone_nilS _).mono ?_
 rintro e w1 ⟨rfl,rfl⟩
 go_wp2_with fail
 refine (delete_nil _).mono ?_
 rintro e w2 ⟨rfl,hb⟩
 have HB:=yb hb
 clear hb
 go_wp2_with fail
 refine (sort_nil _ _).mono ?_
 rintro e w3 ⟨rfl,rfl⟩
 go_wp2
 refine wp_loop_once ?_
 go_wp2
 go_ret
 exact ⟨[],_,List.Perm.refl _,List.Pairwise.nil,rfl,World.ownsRow_nil _ _ _ _,HB.out⟩
theorem join_any (a:Option Addr) (n cap:Nat) (L:List (Int×Int)) (gap:Int) (w:World) (hr:SRow w a n cap L) (hf:Fit L) (hn:n<=1000000) (hg1:gap<=9223372036854775807) :
  Calls Tryz.prog 138 #[.slice a n cap,.int .i64 gap] w (JoinEnd gap L w):=by
 cases a with
 | some ad=>exact joinS_any ad n cap L gap w hr hf hn hg1
 | none =>
  have hl:=SRow.len hr
  obtain ⟨h1,h2,h3,h4,h5⟩:=hr
  obtain rfl:=h4 rfl
  obtain rfl:n=0:=by omega
  have:L=[]:=List.eq_nil_of_length_eq_zero hl
  subst this
  exact joinS_nil gap w hg1
def SetNextG (w:World) (S:Nat->Prop) (p o:Nat) (cs:Array Value) (ty:TypeId) (T:List (Int×Int)) (w':World):Prop:=∃S' v,zcq w' S' p o (cs.setIfInBounds o v) ty T v/\zaj S w w'/\∀b,S' b->S b\/w.heap.size<=b
def PutS (T:List (Int×Int)) (x:Int×Int) (T':List (Int×Int)):Prop:=∃S:List (Int×Int),S.Perm (full (T++[x]))/\S.Pairwise (fun x y=>x.1<=y.1)/\T'=zcm 0 S
def zhg (w:World) (S:Nat->Prop) (p o:Nat) (cs:Array Value) (ty:TypeId) (T:List (Int×Int)) (x:Int×Int) (e:Ending) (w':World):Prop:=e=.returned (.tuple #[])/\∃T',PutS T x T'/\SetNextG w S p o cs ty T' w'
theorem put_endG {w w5 w6:World} {o cap c6:Nat} {cs:Array Value} {x:Int×Int} {v:Value} {a6:Option Addr} {C D:Obj} {n:Nat} (hw:zcq w S p o cs ty T v) (hWW:w.alloc C=W)
  (h5:w5.ownsRow 0 129 2 (.slice (some ⟨g,0,none⟩) n cap) n xs/\(W.alloc D).drew.grownBy w5 v.ownBlock/\(v.ownBlock=some g\/g=(W.alloc D).drew.heap.size)/\g<w5.heap.size)
  (h6:R.Perm (full (T++[x]))/\R.Pairwise (fun x y=>x.1<=y.1)/\w6.ownsRow w5.heap.size 129 2 (.slice a6 (zcm (max 0 0) R).length c6) (zcm (max 0 0) R).length (spV (zcm (max 0 0) R))/\Below w5.heap.size w5 w6/\w6.heap[p]?=some (.cells cs ty (0,0))) :
  zhg w S p o cs ty T x (.returned (.tuple #[])) (w6.setCell ⟨p,o,none⟩ (.slice a6 (zcm 0 R).length c6)):=by
 obtain ⟨_,hg5,_,_⟩:=h5
 obtain ⟨hP,hS,hO6,hB6,hblk6⟩:=h6
 rw [Int.max_self] at hO6
 subst hWW
 have hp:=hw.lt p hw.own
 have hsz:w.heap.size<=w5.heap.size:=by
  have h1:=hg5.size
  have h2:((w.alloc C).alloc D).drew.heap.size=w.heap.size+1+1:=by show ((w.alloc C).alloc D).heap.size=_;rw [zan,zan]
  omega
 have hk5:zaj S w w5:=(((zaj.refl S w).alloc C).alloc D).drewN 1 |>.grown hg5 (fun k hk=>.inl (hw.at_ k hk).1)
 have hk6:zaj S w w6:=hk5.trans (zaj.of_below (S:=fun b=>w5.heap.size<=b) hB6 (fun b h=>h)) (fun b h=>.inr (by omega))
 have hs6:=hB6.size
 have hoc:o<cs.size:=(Array.getElem?_eq_some_iff.1 hw.cel).1
 refine ⟨rfl,zcm 0 R,⟨R,hP,hS,rfl⟩,fun b=>S b\/(w5.heap.size<=b/\b<w6.heap.size),.slice a6 (zcm 0 R).length c6,⟨?_,?_,?_,fun b hb=>?_,.inl hw.own,fun b hb=>?_⟩,hk6.setCell (.inl hw.own) _,fun b hb=>?_⟩
 ·exact heap_setCell_same w6 p o _ _ _ hblk6
 ·simp [hoc]
 ·exact zbf (ownsRow_setCell_other hO6 (a:=⟨p,o,none⟩) (fun e=>by have:=(hO6.lt p e).1;omega) _) (Nat.zero_le _)
 ·have:=hO6.lt b hb
  exact ⟨.inr this,by omega⟩
 ·have hs7:(w6.setCell ⟨p,o,none⟩ (.slice a6 (zcm 0 R).length c6)).heap.size=w6.heap.size:=by simp [World.setCell]
  rw [hs7]
  rcases hb with hb|hb
  ·have:=hw.lt b hb;omega
  ·exact hb.2
 ·rcases hb with hb|hb
  ·exact .inl hb
  ·exact .inr (by omega)
theorem put_anyG (p o:Nat) (S:Nat->Prop) (cs:Array Value) (ty:TypeId) (v:Value) (T:List (Int×Int)) (x y:Int) (w:World) (hw:zcq w S p o cs ty T v) (hf:Fit (T++[(x,y)])) (hn:T.length<=100000) :
  Calls Tryz.prog 98 #[.pointer (some ⟨p,o,none⟩),.agg #[.int .i64 x,.int .i64 y]] w (zhg w S p o cs ty T (x,y)):=by
 obtain ⟨a,c,rfl,hr,_⟩:=Row.of_owns hw.row
 have hp:=hw.lt p hw.own
 have hbW:(w.alloc (.cells #[.int .i64 x,.int .i64 y] 129)).heap[p]?=some (.cells cs ty (0,0)):=zak _ hw.blk
 have hOW:=hw.row.alloc (.cells #[.int .i64 x,.int .i64 y] 129)
 have hbx:(w.alloc (.cells #[.int .i64 x,.int .i64 y] 129)).heap[w.heap.size]?=some (.cells #[.int .i64 x,.int .i64 y] 129 (0,0)):=zac _ rfl
 have hszW:=zan w (.cells #[.int .i64 x,.int .i64 y] 129)
 have HW:=yb hw
 have HF:=yb hf
 clear hw hr hf
 go_enter Tryz.func98,Tryz.ntmps98
 go_wp2
 generalize hWW:w.alloc (.cells #[.int .i64 x,.int .i64 y] 129)=W at *
 have HWW:=yb hWW
 have k0:W.cell? ⟨p,o,none⟩=some (.slice a T.length c):=by rw [cell_of_row W p o _ _ _ hbW];exact HW.out.cel
 have kf:W.frozen? ⟨p,o,none⟩=false:=frozen_of_row W p o _ _ hbW
 have b0:W.cell? ⟨w.heap.size,0,none⟩=some (.int .i64 x):=by rw [cell_of_row W _ 0 _ _ _ hbx];rfl
 have b1:W.cell? ⟨w.heap.size,1,none⟩=some (.int .i64 y):=by rw [cell_of_row W _ 1 _ _ _ hbx];rfl
 have HOW:=yb hOW
 have HBW:=yb hbW
 have HSZ:=yb hszW
 have hpW:p<W.heap.size:=by have:=HSZ.out;omega
 have hpn:¬p=W.heap.size:=by omega
 obtain ⟨i0,hi,hz0,hz1,hz2⟩:=info_parts ETS.info
 clear hWW hOW hbW hbx hszW
 go_region_law (first
  |(refine step_append_lies _ rfl (.tmp 10) (.tmp 12) 50 rfl 0 129 i0 (.agg #[.int .i64 0,.int .i64 0]) 2 16 Tryz.underlying50 hi hz0 hz1 hz2 rfl (by decide) (.slice a T.length c) T.length (spV T) (by simp [Act.eval]) (by exact HOW.out.alloc _) ⟨W.heap.size,0,none⟩ 1 1 [.int .i64 x,.int .i64 y] (by simp [Act.eval]) rfl (by exact World.news_of_block (zac (w:=W) _ rfl)) (zbC [(x,y)]) (by omega) (by unfold maxLen;omega) (by omega) (Nat.zero_le _) _ rfl ?_;intro g cap w5 hO5 hg5 hg6 hg7)
  |(go_simp;go_at_call 138;refine (join_any (some ⟨g,0,none⟩) (T.length+1) cap (T++[(x,y)]) 0 _ (by show Row _ _ _ _ _ (spV (T++[(x,y)]));rw [zdp];exact (Row.of_own hO5).2) HF.out (by omega) (by omega)).mono ?_;rintro e w6 ⟨R,v6,hP6,hS6,rfl,hO6,hB6⟩;obtain ⟨a6,c6,rfl,_,_⟩:=Row.of_owns hO6;have blk6:=zab hB6 ((hg5.block p (by show p<(W.alloc _).heap.size;rw [zan];have:=HSZ.out;omega) (fun e=>(HW.out.at_ p e.symm).2 rfl)).trans ((Below.heap_alloc W _ p (by have:=HSZ.out;omega)).trans HBW.out));have k6:=(cell_of_row w6 p o _ _ _ blk6).trans HW.out.cel;have f6:=frozen_of_row w6 p o _ _ blk6;have H5:=yb (And.intro hO5 (And.intro hg5 (And.intro hg6 hg7)));have H6:=yb (And.intro hP6 (And.intro hS6 (And.intro hO6 (And.intro hB6 blk6))));clear hO5 hg5 hg6 hg7 hP6 hS6 hO6 hB6 blk6))
 all_goals go_end0
 all_goals exact put_endG HW.out HWW.out H5.out H6.out
def SetQ (w:World) (S:Nat->Prop) (p:Nat) (T:List (Int×Int)):Prop:=∃v,zcq w S p 0 #[v] 143 T v
theorem SetQ.keeps {w:World} (h:SetQ w S p T) (hk:zaj U w w') (hU:∀b,S b->¬U b):SetQ w' S p T:=by
 obtain ⟨v,hw⟩:=h
 exact ⟨v,hw.keeps hk hU⟩
theorem SetQ.mono {w:World} (h:SetQ w S p T) (hb:Below w.heap.size w w'):SetQ w' S p T:=by
 obtain ⟨v,hw⟩:=h
 exact ⟨v,hw.mono hb⟩
theorem SetQ.lt {w:World} (h:SetQ w S p T):∀b,S b->b<w.heap.size:=by
 obtain ⟨v,hw⟩:=h
 exact hw.lt
theorem SetQ.toV {w:World} (h:SetQ w S p T):SetV w (some ⟨p,0,none⟩) T:=by
 obtain ⟨v,hw⟩:=h
 exact hw.toV
theorem zd4 {x:Int×Int} (h:PutS T x T'):Form T'/\∀k,cov T' k↔cov T k\/cov [x] k:=by
 obtain ⟨S,hp,hs,rfl⟩:=h
 obtain ⟨h1,h2⟩:=join_form (fun y hy=>by
  have h1:=List.mem_filter.1 (hp.mem_iff.1 hy)
  exact zbG.1 (by simpa using h1.2)) hs
 exact ⟨h1,fun k=>by rw [h2 k,cov_perm hp k,full,cov_filter,zgH]⟩
theorem zhk:∀ {T:List (Int×Int)} (_:Form T) (a:Int),(cov T a->a<zbZ T a/\(∀j,a<=j->j<zbZ T a->cov T j)/\¬cov T (zbZ T a))/\(¬cov T a->zbZ T a=a)
 | [],_,a=>⟨fun h=>absurd h (zbJ a),fun _=>rfl⟩
 |(f,b)::T,h,a=>by
  have hf:=h.full _ (List.mem_cons_self ..)
  simp only at hf
  have hp:=(List.pairwise_cons.1 h.apart).1
  have he:=form_end h
  obtain ⟨i1,i2⟩:=zhk h.tail a
  simp only [zbZ]
  by_cases hc:f<=a/\a<b
  ·rw [yg hc]
   refine ⟨fun _=>⟨hc.2,fun j h1 h2=>(za0 _ _ _).2 (.inl ⟨hf.1,by simp only;omega,h2⟩),he⟩,fun hn=>absurd ((za0 _ _ _).2 (.inl ⟨hf.1,hc.1,hc.2⟩)) hn⟩
  ·rw [yh hc]
   have hcc:cov ((f,b)::T) a↔cov T a:=by
    rw [za0]
    exact ⟨fun h=>h.elim (fun h=>absurd ⟨h.2.1,h.2.2⟩ hc) id,.inr⟩
   rw [hcc]
   refine ⟨fun hca=>?_,i2⟩
   obtain ⟨j1,j2,j3⟩:=i1 hca
   refine ⟨j1,fun j h1 h2=>(za0 _ _ _).2 (.inr (j2 j h1 h2)),fun hcu=>?_⟩
   rcases (za0 _ _ _).1 hcu with h1|h1
   ·obtain ⟨x,hx,k0,k1,k2⟩:=hca
    have:=hp x hx
    simp only at h1 this
    omega
   ·exact j3 h1
theorem has_iff (h:Form T) {x:Int×Int} (he:emp x=false):hasS T x=true↔∀j,x.1<=j->j<x.2->cov T j:=by
 obtain ⟨e0,e1⟩:=zbG.1 he
 obtain ⟨i1,i2⟩:=zhk h x.1
 unfold hasS
 rw [he,Bool.false_or,decide_eq_true_iff]
 by_cases hc:cov T x.1
 ·obtain ⟨j1,j2,j3⟩:=i1 hc
  constructor
  ·exact fun hle j a b=>j2 j a (by omega)
  ·intro hall
   by_cases hlt:zbZ T x.1<x.2
   ·exact absurd (hall _ (by omega) hlt) j3
   ·omega
 ·rw [i2 hc]
  exact ⟨fun hle=>by omega,fun hall=>absurd (hall x.1 (Int.le_refl _) e1) hc⟩
theorem zdz (tto:Int):∀ {L:List (Int×Int)} (_:Form L) (A:Int),0<=A ->
  (∀z∈zbu tto A L,A<=z.1/\z.1<z.2/\z.2<=tto)/\(zbu tto A L).Pairwise (fun z z'=>z.2<=z'.1)/\∀j,cov (zbu tto A L) j↔A<=j/\j<tto/\¬cov L j
 | [],_,A,hA=>by
  simp only [zbu]
  split
  ·rename_i h
   refine ⟨fun z hz=>(by simp at hz;subst hz;simp only;omega),by simp,fun j=>?_⟩
   rw [za0]
   have h1:=zbJ j
   constructor
   ·rintro (⟨_,h2,h3⟩|h2)
    ·exact ⟨h2,h3,h1⟩
    ·exact absurd h2 h1
   ·rintro ⟨h2,h3,_⟩;exact .inl ⟨hA,h2,h3⟩
  ·rename_i h
   refine ⟨fun z hz=>(by cases hz),List.Pairwise.nil,fun j=>⟨fun h2=>absurd h2 (zbJ j),fun h2=>by omega⟩⟩
 |(f,b)::L,h,A,hA=>by
  have hf:=h.full _ (List.mem_cons_self ..)
  simp only at hf
  have hp:=(List.pairwise_cons.1 h.apart).1
  obtain ⟨i1,i2,i3⟩:=zdz tto h.tail (max A (min b tto)) (by omega)
  have hlow:∀j,cov L j->b<j:=fun j hc=>by
   obtain ⟨x,hx,k0,k1,k2⟩:=hc
   have:=hp x hx
   simp only at this
   omega
  have key:∀j,(A<=j/\j<min f tto)\/cov (zbu tto (max A (min b tto)) L) j↔A<=j/\j<tto/\¬cov ((f,b)::L) j:=by
   intro j
   rw [i3 j,za0]
   have hl:=hlow j
   constructor
   ·rintro (⟨h1,h2⟩|⟨h1,h2,h3⟩)
    ·refine ⟨h1,by omega,fun hc=>?_⟩
     rcases hc with hc|hc
     ·simp only at hc;omega
     ·have:=hl hc;omega
    ·refine ⟨by omega,h2,fun hc=>?_⟩
     rcases hc with hc|hc
     ·simp only at hc;omega
     ·exact h3 hc
   ·rintro ⟨h1,h2,h3⟩
    by_cases hj:j<f
    ·exact .inl ⟨h1,by omega⟩
    ·have hjb:b<=j:=by
      by_cases hb:j<b
      ·exact absurd (Or.inl ⟨hf.1,by simp only;omega,hb⟩) h3
      ·omega
     exact .inr ⟨by omega,h2,fun hc=>h3 (.inr hc)⟩
  simp only [zbu]
  by_cases hc:A<min f tto
  ·rw [yg hc]
   refine ⟨fun z hz=>?_,?_,fun j=>?_⟩
   ·rcases List.mem_append.1 hz with h1|h1
    ·simp at h1;subst h1;simp only;omega
    ·have:=i1 z h1;omega
   ·rw [List.pairwise_append]
    refine ⟨by simp,i2,fun z hz z' hz'=>?_⟩
    simp at hz
    subst hz
    have:=i1 z' hz'
    simp only;omega
   ·rw [zgH,<-key j]
    have h1:=zbJ j
    rw [za0]
    constructor
    ·rintro ((⟨_,h2,h3⟩|h2)|h2)
     ·exact .inl ⟨h2,h3⟩
     ·exact absurd h2 h1
     ·exact .inr h2
    ·rintro (⟨h2,h3⟩|h2)
     ·exact .inl (.inl ⟨hA,h2,h3⟩)
     ·exact .inr h2
  ·rw [yh hc,List.nil_append]
   refine ⟨fun z hz=>by have:=i1 z hz;omega,i2,fun j=>?_⟩
   rw [<-key j]
   exact ⟨.inr,fun h=>h.elim (fun h=>by omega) id⟩
theorem missS_spec (h:Form T) (x:Int×Int):(∀z∈zcX T x,emp x=false/\emp z=false/\x.1<=z.1/\z.1<z.2/\z.2<=x.2)/\(zcX T x).Pairwise (fun z z'=>z.2<=z'.1)/\(∀z∈zcX T x,¬cov T z.1) /\
  (emp x=false->∀j,x.1<=j->j<x.2->cov T j\/cov (zcX T x) j):=by
 unfold zcX
 cases he:emp x with
 | true=>simp
 | false =>
  obtain ⟨e0,e1⟩:=zbG.1 he
  simp only [Bool.false_eq_true,if_false]
  obtain ⟨i1,i2,i3⟩:=zdz x.2 h x.1 e0
  refine ⟨fun z hz=>?_,i2,fun z hz=>?_,fun _ j h1 h2=>?_⟩
  ·have:=i1 z hz
   exact ⟨trivial,zbG.2 ⟨by omega,this.2.1⟩,this.1,this.2.1,this.2.2⟩
  ·have h1:=i1 z hz
   exact ((i3 z.1).1 ⟨z,hz,by omega,Int.le_refl _,h1.2.1⟩).2.2
  ·by_cases hc:cov T j
   ·exact .inl hc
   ·exact .inr ((i3 j).2 ⟨h1,h2,hc⟩)
theorem tl_len (gap:Int):∀(r:List (Int×Int)) (b:Int),(tl gap b r).2.length<=r.length
 | [],b=>by simp [tl]
 | x::r,b=>by
  simp only [tl]
  split
  ·have:=tl_len gap r (max b x.2);simp only [List.length_cons];omega
  ·have:=tl_len gap r x.2;simp only [List.length_cons];omega
theorem join_len (gap:Int) (L:List (Int×Int)):(zcm gap L).length<=L.length:=by
 cases L with
 | nil=>simp [zcm]
 | cons x r=>have:=tl_len gap r x.2;simp only [zcm,List.length_cons];omega
theorem tl_le (gap M:Int):∀(r:List (Int×Int)) (b:Int),b<=M->(∀x∈r,x.2<=M)->(tl gap b r).1<=M/\∀x∈(tl gap b r).2,x.2<=M
 | [],b,hb,_=>⟨hb,fun x hx=>by simp [tl] at hx⟩
 | x::r,b,hb,h=>by
  have hx:=h x (List.mem_cons_self ..)
  simp only [tl]
  split
  ·exact tl_le gap M r (max b x.2) (by omega) (fun y hy=>h y (List.mem_cons_of_mem _ hy))
  ·obtain ⟨i1,i2⟩:=tl_le gap M r x.2 hx (fun y hy=>h y (List.mem_cons_of_mem _ hy))
   refine ⟨hb,fun y hy=>?_⟩
   rcases List.mem_cons.1 hy with h1|h1
   ·subst h1;exact i1
   ·exact i2 y h1
theorem join_le (gap M:Int) (L:List (Int×Int)) (h:∀x∈L,x.2<=M):∀x∈zcm gap L,x.2<=M:=by
 cases L with
 | nil=>intro x hx;simp [zcm] at hx
 | cons y r =>
  obtain ⟨i1,i2⟩:=tl_le gap M r y.2 (h y (List.mem_cons_self ..)) (fun z hz=>h z (List.mem_cons_of_mem _ hz))
  intro x hx
  simp only [zcm] at hx
  rcases List.mem_cons.1 hx with h1|h1
  ·subst h1;exact i1
  ·exact i2 x h1
theorem zgM {x:Int×Int} (h:PutS T x T'):T'.length<=T.length+1:=by
 obtain ⟨S,hp,_,rfl⟩:=h
 have h1:=join_len 0 S
 have h2:=hp.length_eq
 have h3:(full (T++[x])).length<=(T++[x]).length:=List.length_filter_le _ _
 rw [List.length_append] at h3
 simp at h3
 omega
theorem putS_le {x:Int×Int} (h:PutS T x T') (M:Int) (hT:∀z∈T,z.2<=M) (hx:x.2<=M):∀z∈T',z.2<=M:=by
 obtain ⟨S,hp,_,rfl⟩:=h
 refine join_le 0 M S (fun z hz=>?_)
 have h1:=(List.mem_filter.1 (hp.mem_iff.1 hz)).1
 rcases List.mem_append.1 h1 with h2|h2
 ·exact hT z h2
 ·simp at h2;subst h2;exact hx
structure SetOk (T:List (Int×Int)) (n:Nat) (C:Int->Prop):Prop where
 form:Form T
 cov_:∀k,cov T k↔C k
 len:T.length<=n
 le:∀z∈T,z.2<=9223372036854775807
theorem SetOk.put {n:Nat} {C C':Int->Prop} {x:Int×Int} (h:SetOk T n C) (hP:PutS T x T') (hx:x.2<=9223372036854775807) (hC:∀k,C' k↔C k\/cov [x] k):SetOk T' (n+1) C':=by
 obtain ⟨h1,h2⟩:=zd4 hP
 exact ⟨h1,fun k=>by rw [h2 k,h.cov_ k,hC k],by have:=zgM hP;have:=h.len;omega,putS_le hP _ h.le hx⟩
theorem SetOk.nil:SetOk [] 0 (fun _=>False):=⟨zdI,fun k=>⟨fun h=>absurd h (zbJ k),fun h=>h.elim⟩,by simp,fun z h=>(by cases h)⟩
theorem getD_mem2 {l:List (Int×Int)} (hk:k<l.length):l.getD k (0,0)∈l:=by
 rw [show l.getD k (0,0)=l[k] from by simp [List.getD,hk]]
 exact List.getElem_mem hk
def inB (z:Int×Int) (i:Nat):Bool:=decide (0<=z.1)&&decide (z.1<=(i:Int))&&decide ((i:Int)<z.2)
theorem zee (z:Int×Int) (i:Nat):inB z i=true↔0<=z.1/\z.1<=(i:Int)/\(i:Int)<z.2:=by simp [inB,and_assoc]
def marks (L:List (Int×Int)) (i:Nat):Bool:=L.any fun z=>inB z i
theorem marks_iff (L:List (Int×Int)) (i:Nat):marks L i=true↔cov L (i:Int):=by
 simp only [marks,List.any_eq_true,zee,cov]
structure SpSt (B:Nat->Bool) (k:Nat) (out:List (Int×Int)) (from_:Int):Prop where
 form:Form out
 len:out.length<=k
 bd:∀z∈out,z.2<=(k:Int)
 st:(from_=-1/\(∀z∈out,z.2<(k:Int))/\∀j,cov out j↔0<=j/\j<(k:Int)/\B j.toNat=true) \/
  (∃f:Nat,from_=(f:Int)/\f<k/\(∀z∈out,z.2<(f:Int))/\(∀i,f<=i->i<k->B i=true)/\∀j,cov out j↔0<=j/\j<(f:Int)/\B j.toNat=true)
theorem SpSt.zero (B:Nat->Bool):SpSt B 0 [] (-1):=⟨zdI,yp _,fun z h=>(by cases h),.inl ⟨rfl,fun z h=>(by cases h),fun j=>⟨fun h=>absurd h (zbJ j),fun h=>by omega⟩⟩⟩
theorem SpSt.rng {B:Nat->Bool} {out:List (Int×Int)} {f:Int} (h:SpSt B k out f):-1<=f/\f<(k:Int):=by
 rcases h.st with ⟨h1,_⟩|⟨g,h1,h2,_⟩<;>omega
theorem SpSt.on {B:Nat->Bool} {out:List (Int×Int)} {f:Int} (h:SpSt B k out f) (hB:B k=true) (hf:0<=f):SpSt B (k+1) out f:=by
 rcases h.st with ⟨h1,_⟩|⟨g,h1,h2,h3,h4,h5⟩
 ·omega
 ·exact ⟨h.form,by have:=h.len;omega,fun z hz=>by have:=h.bd z hz;omega,.inr ⟨g,h1,by omega,h3,fun i a b=>by
   by_cases e:i=k
   ·subst e;exact hB
   ·exact h4 i a (by omega),h5⟩⟩
theorem SpSt.none {B:Nat->Bool} {out:List (Int×Int)} {f:Int} (h:SpSt B k out f) (hB:B k=false) (hf:f<0):SpSt B (k+1) out (-1):=by
 rcases h.st with ⟨_,h2,h3⟩|⟨g,h1,_⟩
 ·refine ⟨h.form,by have:=h.len;omega,fun z hz=>by have:=h.bd z hz;omega,.inl ⟨rfl,fun z hz=>by have:=h2 z hz;omega,fun j=>?_⟩⟩
  rw [h3 j]
  constructor
  ·exact fun ⟨a,b,c⟩=>⟨a,by omega,c⟩
  ·rintro ⟨a,b,c⟩
   refine ⟨a,?_,c⟩
   by_cases e:j=(k:Int)
   ·subst e
    rw [Int.toNat_natCast,hB] at c
    cases c
   ·omega
 ·omega
structure SpOf (n:Nat) (m:Nat->Bool) (out:List (Int×Int)):Prop where
 form:Form out
 len:out.length<=n+1
 bd:∀z∈out,z.2<=(n:Int)+1
 cov_:∀j,cov out j↔0<=j/\j<(n:Int)/\m j.toNat=true
theorem SpSt.fin {m:Nat->Bool} {n:Nat} {out:List (Int×Int)} {f:Int} (h:SpSt (fun i=>decide (i<n)&&m i) (n+1) out f):SpOf n m out:=by
 have hb:=h.bd
 rcases h.st with ⟨_,h2,h3⟩|⟨g,_,h2,_,h4,_⟩
 ·refine ⟨h.form,h.len,fun z hz=>by have:=hb z hz;omega,fun j=>?_⟩
  rw [h3 j]
  simp only [Bool.and_eq_true,decide_eq_true_eq]
  constructor
  ·exact fun ⟨a,b,c,d⟩=>⟨a,by omega,d⟩
  ·exact fun ⟨a,b,d⟩=>⟨a,by omega,by omega,d⟩
 ·have:=h4 n (by omega) (by omega)
  simp at this
def cntB (m:Nat->Bool):Nat->Int
 | 0=>0
 | k+1=>cntB m k+if m k=true then 1 else 0
theorem zgh {m m':Nat->Bool}:∀(k:Nat),(∀i,i<k->m i=m' i)->cntB m k=cntB m' k
 | 0,_=>rfl
 | k+1,h=>by
  simp only [cntB]
  rw [zgh k (fun i hi=>h i (by omega)),h k (by omega)]
theorem cntB_none:∀(k:Nat),cntB (fun _=>false) k=0
 | 0=>rfl
 | k+1=>by simp [cntB,cntB_none k]
theorem cntB_or {m m':Nat->Bool}:∀(k:Nat),(∀i,i<k->¬(m i=true/\m' i=true))->cntB (fun i=>m i||m' i) k=cntB m k+cntB m' k
 | 0,_=>rfl
 | k+1,h=>by
  have h1:=cntB_or k (fun i hi=>h i (by omega))
  have h2:=h k (by omega)
  simp only [cntB]
  rw [h1]
  by_cases h3:m k=true<;>by_cases h4:m' k=true
  ·exact absurd ⟨h3,h4⟩ h2
  ·simp only [h3,h4,Bool.true_or,if_true,if_false,Bool.false_eq_true];omega
  ·simp only [h3,h4,Bool.or_true,if_true,if_false,Bool.false_eq_true];omega
  ·simp only [h3,h4,Bool.or_self,if_false,Bool.false_eq_true];omega
theorem cntB_in {a b:Int} (h0:0<=a) (h1:a<b):∀(k:Nat),cntB (inB (a,b)) k=max 0 (min (k:Int) b-a)
 | 0=>by simp only [cntB];omega
 | k+1=>by
  have:=cntB_in h0 h1 k
  have hi:=zee (a,b) k
  simp only at hi
  simp only [cntB]
  rw [this]
  by_cases hc:inB (a,b) k=true
  ·have h2:=hi.1 hc
   rw [yg hc];omega
  ·rw [yh hc]
   have h2:¬(a<=(k:Int)/\(k:Int)<b):=fun h=>hc (hi.2 ⟨h0,h⟩)
   omega
theorem sumS_cnt:∀ {T:List (Int×Int)} (N:Nat),Form T->(∀z∈T,z.2<=(N:Int))->sumS T=cntB (marks T) N
 | [],N,_,_=>by
  rw [show marks []=fun _=>false from rfl,cntB_none];rfl
 |(a,b)::T,N,h,hb=>by
  have hf:=h.full _ (List.mem_cons_self ..)
  have hb1:=hb _ (List.mem_cons_self ..)
  have hp:=(List.pairwise_cons.1 h.apart).1
  simp only at hf hb1 hp
  have ih:=sumS_cnt N h.tail (fun z hz=>hb z (List.mem_cons_of_mem _ hz))
  have e:marks ((a,b)::T)=fun i=>inB (a,b) i||marks T i:=by
   funext i;simp [marks]
  rw [e,cntB_or N (fun i _=>fun ⟨h1,h2⟩=>by
   obtain ⟨x,hx,k0,k1,k2⟩:=(marks_iff T i).1 h2
   have h3:=(zee _ _).1 h1
   have:=hp x hx
   simp only at h3
   omega),<-ih,cntB_in hf.1 hf.2]
  show (b-a)+sumS T=_
  omega
def zeH (T:List (Int×Int)) (m:Nat->Bool):Prop:=∀j,cov T j↔0<=j/\j<301/\m j.toNat=true
theorem zeH.at {m:Nat->Bool} (h:zeH T m) (hi:i<301):marks T i=m i:=by
 rw [Bool.eq_iff_iff,marks_iff,h]
 rw [Int.toNat_natCast]
 exact ⟨fun h=>h.2.2,fun h=>⟨by omega,by omega,h⟩⟩
theorem zeH.bd {m:Nat->Bool} (h:zeH T m) (hf:Form T):∀z∈T,z.2<=301:=fun z hz=>by
 obtain ⟨h0,h1⟩:=hf.full z hz
 have:=((h (z.2-1)).1 ⟨z,hz,h0,by omega,by omega⟩).2.1
 omega
theorem zeH.size {m:Nat->Bool} (h:zeH T m) (hf:Form T):sumS T=cntB m 301:=by
 rw [sumS_cnt 301 hf (fun z hz=>h.bd hf z hz)]
 exact zgh 301 fun i hi=>h.at hi
def hasR (m:Nat->Bool) (x:Int×Int):Nat->Bool
 | 0=>true
 | k+1=>hasR m x k&&!(inB x k&&!m k)
theorem hasR_iff (m:Nat->Bool) (x:Int×Int):∀k,hasR m x k=true↔∀i,i<k->inB x i=true->m i=true
 | 0=>⟨fun _ i hi=>by omega,fun _=>rfl⟩
 | k+1=>by
  simp only [hasR,Bool.and_eq_true,hasR_iff m x k]
  constructor
  ·rintro ⟨h1,h2⟩ i hi hx
   by_cases e:i=k
   ·subst e;rw [hx] at h2;simpa using h2
   ·exact h1 i (by omega) hx
  ·intro h
   refine ⟨fun i hi hx=>h i (by omega) hx,?_⟩
   cases hx:inB x k with
   | false=>rfl
   | true=>rw [h k (by omega) hx];rfl
theorem zeH.has {m:Nat->Bool} (h:zeH T m) (hf:Form T) {x:Int×Int} (hx:x.2<=300):hasS T x=hasR m x 301:=by
 rw [Bool.eq_iff_iff,hasR_iff]
 cases he:emp x with
 | true =>
  have h1:=emp_true.1 he
  refine ⟨fun _ i _ hi=>?_,fun _=>by unfold hasS;rw [he];rfl⟩
  have:=(zee _ _).1 hi
  omega
 | false =>
  obtain ⟨e0,e1⟩:=zbG.1 he
  rw [has_iff hf he]
  constructor
  ·intro hall i hi hin
   obtain ⟨a,b,c⟩:=(zee _ _).1 hin
   have:=((h _).1 (hall i b c)).2.2
   rwa [Int.toNat_natCast] at this
  ·intro hall j a b
   refine (h j).2 ⟨by omega,by omega,hall j.toNat (by omega) ((zee _ _).2 ⟨e0,?_,?_⟩)⟩<;>rw [Int.toNat_of_nonneg (by omega)]<;>assumption
theorem zgA (tto:Int):∀ {L:List (Int×Int)} (_:Form L) (A:Int),∀z∈zbu tto A L,z.2<tto->cov L z.2
 | [],_,A,z,hz,hlt=>by
  simp only [zbu] at hz
  split at hz
  ·simp at hz;subst hz;simp only at hlt;omega
  ·cases hz
 |(f,b)::L,h,A,z,hz,hlt=>by
  have hf:=h.full _ (List.mem_cons_self ..)
  simp only at hf
  simp only [zbu] at hz
  rcases List.mem_append.1 hz with h1|h1
  ·split at h1
   ·simp at h1
    subst h1
    simp only at hlt |-
    rw [za0]
    exact .inl ⟨hf.1,by simp only;omega,by simp only;omega⟩
   ·cases h1
  ·rw [za0]
   exact .inr (zgA tto h.tail _ z h1 hlt)
theorem miss_form (h:Form T) (x:Int×Int):Form (zcX T x)/\∀j,cov (zcX T x) j↔emp x=false/\x.1<=j/\j<x.2/\¬cov T j:=by
 unfold zcX
 cases he:emp x with
 | true=>exact ⟨by simpa using zdI,fun j=>⟨fun hc=>absurd (by simpa using hc) (zbJ j),fun hc=>by simp at hc⟩⟩
 | false =>
  obtain ⟨e0,e1⟩:=zbG.1 he
  simp only [Bool.false_eq_true,if_false,true_and]
  obtain ⟨i1,i2,i3⟩:=zdz x.2 h x.1 e0
  refine ⟨⟨fun z hz=>?_,List.pairwise_iff_getElem.2 fun i j hi hj hij=>?_⟩,i3⟩
  ·have:=i1 z hz
   exact ⟨by omega,this.2.1⟩
  ·have h1:=List.pairwise_iff_getElem.1 i2 i j hi hj hij
   have h2:=i1 _ (List.getElem_mem hj)
   by_cases e:((zbu x.2 x.1 T)[i]).2=((zbu x.2 x.1 T)[j]).1
   ·exfalso
    have h3:=zgA x.2 h x.1 _ (List.getElem_mem hi) (by omega)
    rw [e] at h3
    exact ((i3 _).1 ⟨_,List.getElem_mem hj,by omega,Int.le_refl _,h2.2.1⟩).2.2 h3
   ·omega
end Go.Proofs.YtfafdeemfeaedaaGreat
namespace Go.Proofs.YtfafdeemfeaedaaGreat
open Go.RowKit
def zeS (bs:List UInt8) (at_:Nat) (z:Int×Int):List UInt8:=(bs.drop (z.1.toNat-at_)).take (z.2.toNat-z.1.toNat)
def putM (bs:List UInt8) (at_:Nat):(Nat->UInt8)->List (Int×Int)->Nat->UInt8
 | C,[]=>C
 | C,z::M=>putM bs at_ (putC C z.1.toNat (zeS bs at_ z)) M
theorem putM_snoc (bs:List UInt8) (at_:Nat):∀(M:List (Int×Int)) (C:Nat->UInt8) (z:Int×Int),putM bs at_ C (M++[z])=putC (putM bs at_ C M) z.1.toNat (zeS bs at_ z)
 | [],_,_=>rfl
 | _::M,_,z=>putM_snoc bs at_ M _ z
def InSp (bs:List UInt8) (at_:Nat) (M:List (Int×Int)):Prop:=∀z∈M,(at_:Int)<=z.1/\z.1<z.2/\z.2<=(at_:Int)+bs.length
theorem chunk_len {bs:List UInt8} {at_:Nat} {z:Int×Int} (h:(at_:Int)<=z.1/\z.1<z.2/\z.2<=(at_:Int)+bs.length):(zeS bs at_ z).length=z.2.toNat-z.1.toNat:=by
 unfold zeS;rw [List.length_take,ym];omega
theorem putM_at {bs:List UInt8} {at_:Nat}:∀(M:List (Int×Int)) (C:Nat->UInt8),InSp bs at_ M->∀i:Nat,(cov M i->putM bs at_ C M i=bs.getD (i-at_) 0)/\(¬cov M i->putM bs at_ C M i=C i)
 | [],C,_,i=>⟨fun h=>absurd h (zbJ _),fun _=>rfl⟩
 | z::M,C,h,i=>by
  obtain ⟨g1,g2⟩:=putM_at M (putC C z.1.toNat (zeS bs at_ z)) (fun y hy=>h y (List.mem_cons_of_mem _ hy)) i
  have hz:=h z (List.mem_cons_self ..)
  have hl:=chunk_len hz
  have hp:(z.1<=i/\(i:Int)<z.2)->putC C z.1.toNat (zeS bs at_ z) i=bs.getD (i-at_) 0:=fun hi=>by
   unfold putC
   rw [yg (by rw [hl];omega)]
   unfold zeS
   rw [List.getD_eq_getElem?_getD,List.getElem?_take,yg (by omega),List.getElem?_drop,List.getD_eq_getElem?_getD,show z.1.toNat-at_+(i-z.1.toNat)=i-at_ by omega]
  have hn:¬(z.1<=i/\(i:Int)<z.2)->putC C z.1.toNat (zeS bs at_ z) i=C i:=fun hi=>by
   unfold putC
   rw [yh (by rw [hl];omega)]
  show (cov (z::M) i->putM bs at_ (putC C z.1.toNat (zeS bs at_ z)) M i=_)/\(¬cov (z::M) i->putM bs at_ (putC C z.1.toNat (zeS bs at_ z)) M i=_)
  rw [za0]
  refine ⟨fun hc=>?_,fun hc=>?_⟩
  ·by_cases hM:cov M i
   ·exact g1 hM
   ·rw [g2 hM]
    rcases hc with hc|hc
    ·exact hp ⟨hc.2.1,hc.2.2⟩
    ·exact absurd hc hM
  ·rw [g2 (fun e=>hc (.inr e))]
   exact hn (fun e=>hc (.inl ⟨by omega,e.1,e.2⟩))
def newC (T:List (Int×Int)) (C:Nat->UInt8) (at_:Nat) (bs:List UInt8) (C':Nat->UInt8):Prop:=∀i:Nat,(cov T i->C' i=C i)/\(¬cov T i->at_<=i->i<at_+bs.length->C' i=bs.getD (i-at_) 0)
theorem miss_in (h:Form T) (at_:Nat) (bs:List UInt8):InSp bs at_ (zcX T ((at_:Int),(at_:Int)+bs.length))/\∀i:Nat,cov (zcX T ((at_:Int),(at_:Int)+bs.length)) i↔(at_<=i/\i<at_+bs.length/\¬cov T i):=by
 obtain ⟨h1,h2⟩:=missS_spec h ((at_:Int),(at_:Int)+bs.length)
 obtain ⟨g1,g2⟩:=miss_form h ((at_:Int),(at_:Int)+bs.length)
 refine ⟨fun z hz=>?_,fun i=>?_⟩
 ·obtain ⟨-,-,a,b,c⟩:=h1 z hz
  exact ⟨a,b,c⟩
 ·rw [g2,zbG]
  simp only
  by_cases hc:cov T (i:Int)
  ·simp [hc]
  ·simp only [hc,not_false_eq_true,and_true]
   omega
theorem putM_new (h:Form T) (C:Nat->UInt8) (at_:Nat) (bs:List UInt8):newC T C at_ bs (putM bs at_ C (zcX T ((at_:Int),(at_:Int)+bs.length))):=by
 obtain ⟨h1,h2⟩:=miss_in h at_ bs
 intro i
 obtain ⟨g1,g2⟩:=putM_at _ C h1 i
 exact ⟨fun hc=>g2 (fun e=>((h2 i).1 e).2.2 hc),fun hc a b=>g1 ((h2 i).2 ⟨a,b,hc⟩)⟩
end Go.Proofs.YtfafdeemfeaedaaGreat
namespace Go.Proofs.YtfafdeemfeaedaaGreat
open Go.RowKit Go.Maps Go.Sort
structure zfL (W:World) (mb n:Nat) (f:Int->Option Nat) (C':Nat->UInt8) (c:Nat) (D:List (Int×Int)) (wr:World) (n':Nat) (f':Int->Option Nat):Prop where
 mem:Mem wr mb n' f' C'
 keep:zaj (MemS mb f) W wr
 old:∀(k g:Nat),f k=some g->f' k=some g
 new:∀(k g:Nat),f' k=some g->f k=some g\/W.heap.size<=g
 num:n'<=n+c
 had:∀z∈D,∀i:Nat,z.1<=i->(i:Int)<z.2->f' ((i / 4096:Nat):Int)≠none
theorem zfL.memS {n:Nat} {f:Int->Option Nat} {C':Nat->UInt8} {c:Nat} {D:List (Int×Int)} {wr:World} {f':Int->Option Nat} (h:zfL W mb n f C' c D wr n' f') :
  ∀b,MemS mb f' b->MemS mb f b\/W.heap.size<=b:=by
 rintro b (rfl|⟨k,hk⟩)
 ·exact .inl (.inl rfl)
 ·rcases h.new k b hk with h1|h1
  ·exact .inl (.inr ⟨k,h1⟩)
  ·exact .inr h1
theorem zfL.start {n:Nat} {f:Int->Option Nat} {C:Nat->UInt8} (h:Mem W mb n f C):zfL W mb n f C 0 [] W n f :=
 ⟨h,zaj.refl _ _,fun _ _ h=>h,fun _ _ h=>.inl h,yp _,fun z hz=>by cases hz⟩
theorem zfL.step {n:Nat} {f:Int->Option Nat} {C':Nat->UInt8} {c:Nat} {D:List (Int×Int)} {wr:World} {f':Int->Option Nat} (h:zfL W mb n f C' c D wr n' f') (hk1:zaj (fun b=>wr.heap.size<=b) wr w1)
  {z:Int×Int} {l:List UInt8} {e:Ending} (hA:z.1=A) (hz:z.2=A+l.length) (hl:l.length<=m) (hw:WrEnd w1 mb n' f' C' A l e w2) :
  ∃n2 f2,zfL W mb n f (putC C' A l) (c+m) (D++[z]) w2 n2 f2:=by
 obtain ⟨-,n2,f2,hm,hn,hk,ho,hnw,hh⟩:=hw
 have s0:=h.keep.size
 have s1:=hk1.size
 refine ⟨n2,f2,hm,(h.keep.trans hk1 (fun b hb=>.inr (by omega))).trans hk (fun b hb=>h.memS b hb),fun k g e=>ho k g (h.old k g e),fun k g e=>?_,by have:=h.num;omega,fun y hy i h1 h2=>?_⟩
 ·rcases hnw k g e with h1|h1
  ·exact h.new k g h1
  ·exact .inr (by omega)
 ·rcases List.mem_append.1 hy with hy|hy
  ·have h3:=h.had y hy i h1 h2
   cases hf:f' ((i / 4096:Nat):Int) with
   | none=>exact absurd hf h3
   | some g=>rw [ho _ g hf];simp
  ·simp only [List.mem_singleton] at hy
   subst hy
   exact hh i (by omega) (by omega)
def SPutEnd (w:World) (U:Nat->Prop) (p tot N:Nat) (T:List (Int×Int)) (C:Nat->UInt8) (at_:Nat) (bs:List UInt8) (e:Ending) (w':World):Prop :=
 e=.returned (.int .i64 0)/\∃U' T' C',SrcQ w' U' p tot N T' C'/\PutS T ((at_:Int),(at_:Int)+bs.length) T'/\newC T C at_ bs C'/\zaj U w w'/\∀b,U' b->U b\/w.heap.size<=b
theorem sput_fin {w w3 wr wd:World} {M:List (Int×Int)} {v0:Value} {n c:Nat} {f f':Int->Option Nat} {C:Nat->UInt8} {at_:Nat} {bs:List UInt8} {e:Ending} (hs:IsSrc w S p tot T v0 mb n f C) (hU:∀b,U b↔(S b\/MemS mb f b))
  (hB:Below w.heap.size w w3) (hT:zfL w3 mb n f (putM bs at_ C M) c M wr n' f') (hd:zaj (fun b=>wr.heap.size<=b) wr wd) (hM:M=zcX T ((at_:Int),(at_:Int)+bs.length)) (hA:at_+bs.length<=tot) (hN:n+c<=N)
  (hp:zhg wd S p 2 (srcC tot v0 mb) 146 T ((at_:Int),(at_:Int)+bs.length) e w'):SPutEnd w U p tot N T C at_ bs (.returned (.int .i64 0)) w':=by
 obtain ⟨-,T',hP,S',v',hset,hk,hS'⟩:=hp
 obtain ⟨hF,hcov⟩:=zd4 hP
 have hBk:zaj (fun b=>w.heap.size<=b) w w3:=zaj.of_below hB (fun _ h=>h)
 have s1:=hB.size
 have s2:=hT.keep.size
 have s3:=hd.size
 have hm:=hT.memS
 have hml:=hT.mem.lt
 have hsm:∀b,MemS mb f' b->¬S b:=fun b hb hSb=>by
  rcases hm b hb with h1|h1
  ·exact hs.ap b h1 hSb
  ·have:=hs.set.lt b hSb;omega
 refine ⟨rfl,fun b=>S' b\/MemS mb f' b,T',putM bs at_ C M,⟨S',v',mb,n',f',⟨?_,?_,?_,hF,?_,?_,hs.totb⟩,by have:=hT.num;omega,fun b=>Iff.rfl⟩,hP,by rw [hM];exact putM_new hs.form C at_ bs,?_,?_⟩
 ·have:(srcC tot v0 mb).setIfInBounds 2 v'=srcC tot v' mb:=by simp [srcC]
  rw [<-this];exact hset
 ·exact (hT.mem.keeps hd (fun b hb hn=>by have:=hml b hb;omega)).keeps hk hsm
 ·intro b hb hSb
  rcases hS' b hSb with h1|h1
  ·exact hsm b hb h1
  ·have:=hml b hb;omega
 ·intro z hz
  have hz1:=hF.full z hz
  have hc:cov T' (z.2-1):=⟨z,hz,hz1.1,by omega,by omega⟩
  rcases (hcov _).1 hc with h1|h1
  ·obtain ⟨y,hy,_,_,h2⟩:=h1
   have:=hs.in_ y hy;omega
  ·obtain ⟨y,hy,_,_,h2⟩:=h1
   simp only [List.mem_singleton] at hy
   subst hy
   simp only at h2;omega
 ·intro i hi
  by_cases h0:cov T i
  ·have h1:=hs.known i h0
   cases hf:f ((i / 4096:Nat):Int) with
   | none=>exact absurd hf h1
   | some g=>rw [hT.old _ g hf];simp
  ·rcases (hcov _).1 hi with h1|h1
   ·exact absurd h1 h0
   ·obtain ⟨y,hy,h2,h3,h4⟩:=h1
    simp only [List.mem_singleton] at hy
    subst hy
    simp only at h2 h3 h4
    have h5:cov M i:=by rw [hM];exact ((miss_in hs.form at_ bs).2 i).2 ⟨by omega,by omega,h0⟩
    obtain ⟨z,hz,_,h6,h7⟩:=h5
    exact hT.had z hz i h6 h7
 ·have k1:zaj U w wr:=((zaj.refl U w).trans hBk (fun b hb=>.inr hb)).trans hT.keep (fun b hb=>.inl ((hU b).2 (.inr hb)))
  exact (k1.trans hd (fun b hb=>.inr (by omega))).trans hk (fun b hb=>.inl ((hU b).2 (.inl hb)))
 ·rintro b (hb|hb)
  ·rcases hS' b hb with h1|h1
   ·exact .inl ((hU b).2 (.inl h1))
   ·exact .inr (by omega)
  ·rcases hm b hb with h1|h1
   ·exact .inl ((hU b).2 (.inr h1))
   ·exact .inr (by omega)
theorem row_sub {w:World} {b0 o0 cap:Nat} {bs:List UInt8} (h:Row w 1 (some ⟨b0,o0,none⟩) bs.length cap (bs.map u8C)) (u v:Nat) (huv:u<v) (hv:v<=bs.length) :
  Row w 1 (some ⟨b0,o0+u,none⟩) ((bs.drop u).take (v-u)).length (cap-u) (((bs.drop u).take (v-u)).map u8C):=by
 obtain ⟨b1,o1,hab,hbw,hcell⟩:=h.at 0 0 (by omega)
 cases hab
 have hc:=h.2.1
 refine ⟨by simp,by simp;omega,by have:=h.2.2.1;omega,fun h=>(by cases h),fun _=>⟨b0,o0+u,rfl,hbw,fun j x hj=>?_⟩⟩
 rw [List.getElem?_map] at hj
 obtain ⟨y,hy,rfl⟩:=Option.map_eq_some_iff.1 hj
 rw [List.getElem?_take] at hy
 split at hy
 ·rw [List.getElem?_drop] at hy
  have hlt:=(List.getElem?_eq_some_iff.1 hy).1
  have h2:=hcell (u+j) hlt
  rw [<-Nat.add_assoc] at h2
  rw [h2]
  simp [List.getD,hy]
 ·cases hy
theorem sput_any {w:World} {C:Nat->UInt8} (h:SrcQ w U p tot N T C) (hT:T.length<=1000) (at_:Nat) {a:Option Addr} {cap:Nat} {bs:List UInt8} (hr:Row w 1 a bs.length cap (bs.map u8C)) (ha:0<bs.length->∀x,a=some x->¬U x.block)
  (hA:at_+bs.length<=tot) {N':Nat} (hN:N+(T.length+1)*bs.length<=N') (hN':N'<=1000000000) :
  Calls Tryz.prog 59 #[.pointer (some ⟨p,0,none⟩),.int .i64 at_,.slice a bs.length cap] w (SPutEnd w U p tot N' T C at_ bs):=by
 have HI:=yb (is_any h)
 have HQ:=yb h
 obtain ⟨S,v0,mb,n,f,hs,hnN,hU⟩:=h
 have HS:=yb hs
 have HU:=yb hU
 have HR:=yb hr
 have HAL:=yb ha
 obtain ⟨-,c1,c2,c3⟩:=hs.cells
 have htb:=hs.totb
 have hp:=hs.set.lt p hs.set.own
 obtain ⟨x,hx⟩:∃x:Int,x=(at_:Int)+bs.length:=⟨_,rfl⟩
 have HX:=yb hx
 have hd1:decide ((at_:Int)<0)=false:=ye (by omega)
 have hd2:decide ((tot:Int)<at_)=false:=ye (by omega)
 have hd3:decide ((tot:Int)-at_<bs.length)=false:=ye (by omega)
 have hd2n:decide (tot<at_)=false:=ye (by omega)
 have hcap:=hr.2.1
 have hmx:=hr.i64
 have HTL:=yb hT
 have HNN:=yb hN
 have HN1:=yb hN'
 have HnN:=yb hnN
 clear hs hU hr ha hT hN hN' hnN
 go_enter Tryz.func59,Tryz.ntmps59
 go_wp2_with (go_at_call 70;refine HI.out.mono ?_;rintro e w' ⟨rfl,rfl⟩)
 rw [<-hx]
 obtain ⟨W,hW⟩:∃W,W=w.alloc (.cells #[.int .i64 at_,.int .i64 x] 129):=⟨_,rfl⟩
 have hbx:W.heap[w.heap.size]?=some (.cells #[.int .i64 at_,.int .i64 x] 129 (0,0)):=by rw [hW];exact zac _ rfl
 have hB:Below w.heap.size w W:=by rw [hW];exact zam _ _
 have hsz:W.heap.size=w.heap.size+1:=by rw [hW,zan]
 rw [<-hW]
 clear hW
 have HSW:=yb (HS.out.mono hB)
 have HMI:=yb (fun W' (hb:Below W.heap.size W W')=>missing_any (some ⟨p,2,none⟩) T at_ x W' ((HSW.out.mono hb).set.toV) (by have:=HTL.out;omega))
 have hml:=zes x T at_
 obtain ⟨M,hM⟩:∃M,M=zcX T ((at_:Int),x):=⟨_,rfl⟩
 have hMl:M.length<=T.length+1:=by
  rw [hM];unfold zcX
  split
  ·simp
  ·exact hml
 have hMl2:M.length<=1001:=by have:=HTL.out;omega
 rw [<-hM] at HMI
 have HML:=yb hMl
 have HM:=yb hM
 clear hM hml hMl
 have q0:W.cell? ⟨w.heap.size,0,none⟩=some (.int .i64 at_):=by rw [cell_of_row W _ 0 _ _ _ hbx];rfl
 have q1:W.cell? ⟨w.heap.size,1,none⟩=some (.int .i64 x):=by rw [cell_of_row W _ 1 _ _ _ hbx];rfl
 have HBX:=yb hbx
 have HB:=yb hB
 clear hbx hB c1 c2 c3
 clear hd1 hd2 hd3 hd2n hmx hx
 go_region_held3 (fun w'=>w'.cell? ⟨w.heap.size,0,none⟩=some (.int .i64 at_)/\w'.cell? ⟨w.heap.size,1,none⟩=some (.int .i64 x)) (first|assumption|exact ⟨q0,q1⟩|exact ⟨cell?_keep (by assumption) q0,cell?_keep (by assumption) q1⟩)
  ((go_at_call 96;refine (HMI.out _ ((Below.refl _ _).drew)).mono ?_;rintro e w3 ⟨v3,rfl,hO3,hb3⟩;obtain ⟨a3,cap3,hv3,-⟩:=Row.of_owns hO3;subst hv3;have hb4:Below W.heap.size W w3:=(Below.refl _ _).drew.trans hb3))
 have HO3:=yb (show w3.ownsRow W.heap.size 129 2 (Value.slice a3 M.length cap3) M.length (spV M) from hO3)
 have HB3:=yb hb4
 have HS3:=yb (HSW.out.mono hb4)
 have HBX3:=yb (zab hb4 HBX.out)
 have hs3:=hb4.size
 clear hO3 hb3 hb4 q0 q1
 obtain ⟨_,_,hz3,hr3,hbl3⟩:=Row.of_owns HO3.out
 cases hz3
 have HR3:=yb (show SRow w3 a3 M.length cap3 M from hr3)
 have HNEQ:=yb (show ∀z,a3=some z->¬MemS mb f z.block from fun z hz hm=>by
  have h1:=hbl3 z hz
  have h2:=HS.out.mem.lt _ hm
  omega)
 have HIN:=yb (show ∀k,k<M.length->∃F G:Nat,M.getD k (0,0)=((F:Int),(G:Int))/\at_<=F/\F<G/\G<=at_+bs.length from fun k hk=>by
  have h1:=(miss_in HS.out.form at_ bs).1 (M.getD k (0,0)) (by rw [<-HX.out,<-HM.out];exact getD_mem2 hk)
  exact ⟨(M.getD k (0,0)).1.toNat,(M.getD k (0,0)).2.toNat,Prod.ext (by simp only;omega) (by simp only;omega),by omega,by omega,by omega⟩)
 have hUS:∀b,MemS mb f b->U b:=fun b hb=>(HU.out b).2 (.inr hb)
 have HCL3:=yb (show w3.cell? ⟨p,3,none⟩=some (.map (some mb)) from HS3.out.cells.2.2.2)
 have hpm:¬MemS mb f p:=fun hm=>HS.out.ap p hm HS.out.set.own
 have HPM:=yb hpm
 have HUS:=yb hUS
 have HRW:=yb (HR.out.mono (HB.out.trans (HB3.out.mono (by omega))))
 clear hr3 hbl3 hpm hUS
 go_wp2
 go_loopw [47] (fun vi wr=>∃(k:Nat) (n':Nat) (f':Int->Option Nat),vi=.int .i64 k/\k<=M.length/\Hid (zfL w3 mb n f (putM bs at_ C (M.take k)) (k*bs.length) (M.take k) wr n' f')) (fun vi _=>M.length-(intOf vi).toNat)
 case atStart=>exact ⟨0,n,f,rfl,Nat.zero_le _,yb (by rw [Nat.zero_mul];exact zfL.start HS3.out.mem)⟩
 case round =>
  obtain ⟨k,n',f',rfl,hk,HT⟩:=hrel
  by_cases hlt:k<M.length
  ·obtain ⟨F,G,hz,hF,hFG,hG⟩:=HIN.out k hlt
   obtain ⟨b,off,rfl,_,hc⟩:=SRow.at (HR3.out.keeps HT.out.keep HNEQ.out) k hlt
   obtain ⟨hc0,hc1⟩:=hc k hlt
   rw [hz] at hc0 hc1
   simp only at hc0 hc1
   have HZ:=yb hz
   clear hc hz
   obtain ⟨b0,o0,rfl,_,_⟩:=HRW.out.at 0 0 (by omega)
   obtain ⟨u,hu⟩:∃u:Nat,u=F-at_:=⟨_,rfl⟩
   obtain ⟨v,hv⟩:∃v:Nat,v=G-at_:=⟨_,rfl⟩
   have hui:(F:Int)-at_=(u:Int):=by omega
   have hvi:(G:Int)-at_=(v:Int):=by omega
   have huv:u<v:=by omega
   have hvl:v<=bs.length:=by omega
   have hucap:u<cap:=by omega
   have hvcap:v<=cap:=by omega
   have hcmx:cap<=maxLen:=HR.out.2.2.1
   have hblk1:(wr.alloc (.cells #[.int .i64 F,.int .i64 G] 129)).heap[wr.heap.size]?=some (.cells #[.int .i64 F,.int .i64 G] 129 (0,0)):=zac _ rfl
   have hk1:zaj (fun b=>wr.heap.size<=b) wr (wr.alloc (.cells #[.int .i64 F,.int .i64 G] 129)):=(zaj.refl _ _).alloc _
   go_wp2_with fail
   generalize wr.alloc (.cells #[.int .i64 F,.int .i64 G] 129)=W1 at *
   have e0:W1.cell? ⟨wr.heap.size,0,none⟩=some (.int .i64 F):=by rw [cell_of_row W1 _ 0 _ _ _ hblk1];rfl
   have e1:W1.cell? ⟨wr.heap.size,1,none⟩=some (.int .i64 G):=by rw [cell_of_row W1 _ 1 _ _ _ hblk1];rfl
   have HK1:=yb hk1
   have HBL1:=yb hblk1
   have HUU:=yb (And.intro hu hv)
   clear hk1 hblk1 hu hv
   have iu:IntKind.i64.wrap (u:Int)=(u:Int):=IntWalk.i64_in _ (by unfold maxLen at hcmx;omega)
   have iv:IntKind.i64.wrap (v:Int)=(v:Int):=IntWalk.i64_in _ (by unfold maxLen at hcmx;omega)
   have hmx0:max (v:Int) 0=(v:Int):=by omega
   have hcne:¬cap=u:=by omega
   have huv':u<=v:=by omega
   have HTM:=yb (HT.out.memS)
   have hlen:((bs.drop u).take (v-u)).length=v-u:=by simp;omega
   have hW1s:=HK1.out.size
   have hws3:w3.heap.size<=wr.heap.size:=HT.out.keep.size
   have hpw:p<wr.heap.size:=by omega
   have hb0:b0<w3.heap.size:=by
    obtain ⟨b1,o1,hb1,hb2,_⟩:=HRW.out.at 0 0 (by omega)
    cases hb1;exact hb2
   have K1d:zaj (fun b=>wr.heap.size<=b) wr W1.drew:=HK1.out.drewN 1
   have hb0U:¬MemS mb f b0:=fun e=>HAL.out (by omega) _ rfl (HUS.out b0 e)
   have HW5:=yb (write_any (p:=p) (HT.out.mem.keeps K1d (fun b hb hn=>by have:=HT.out.mem.lt b hb;omega)) (K1d.cell (HT.out.keep.cell HCL3.out HPM.out) (by omega))
    (fun e=>by
     rcases HTM.out p e with h1|h1
     ·exact HPM.out h1
     ·have:=hs3;omega) F (cap:=cap-u) (bs:=(bs.drop u).take (v-u))
    (row_sub ((HRW.out.keeps HT.out.keep (fun y hy=>by cases hy;exact hb0U)).keeps K1d (fun y hy=>by cases hy;show ¬wr.heap.size<=b0;omega)) u v huv hvl)
    (fun y hy e=>by
     cases hy
     rcases HTM.out b0 e with h1|h1
     ·exact hb0U h1
     ·omega)
    (by rw [hlen];have:=HUU.out;omega)
    (by
     rw [hlen]
     have h1:=HT.out.num
     have h2:(k+1)*bs.length<=(T.length+1)*bs.length:=Nat.mul_le_mul_right _ (by have:=HML.out;omega)
     rw [Nat.add_mul,Nat.one_mul] at h2
     have h3:=HNN.out
     have h4:=HN1.out
     have h5:=HnN.out
     omega))
   rw [hlen] at HW5
   have HLEN:=yb hlen
   have HKD:=yb K1d
   clear hlen K1d hb0U
   go_still_tail 13,(by kernel_rfl)
   go_wp2_with fail
   refine HW5.out.mono ?_
   intro e w5 hw5
   obtain ⟨n2,f2,hT2⟩:=HT.out.step HKD.out (z:=((F:Int),(G:Int))) (m:=bs.length) rfl (by rw [HLEN.out];have:=HUU.out;simp only;omega) (by rw [HLEN.out];omega) hw5
   obtain ⟨rfl,-⟩:=hw5
   have hT3:zfL w3 mb n f (putM bs at_ C (M.take (k+1))) ((k+1)*bs.length) (M.take (k+1)) w5 n2 f2:=by
    rw [zbz M k hlt,HZ.out,putM_snoc,Nat.add_mul,Nat.one_mul]
    have e1:zeS bs at_ ((F:Int),(G:Int))=(bs.drop u).take (v-u):=by
     have:=HUU.out
     unfold zeS
     simp only [Int.toNat_natCast]
     rw [this.1,this.2,show G-at_-(F-at_)=G-F by omega]
    rw [e1]
    exact hT2
   have HT3:=yb hT3
   clear hT2 hT3 iu iv hmx0 hcne hui hvi
   go_wp2
   go_roundw
   case rel=>exact ⟨k+1,n2,f2,by go_num,by omega,HT3⟩
   case measure=>simp [intOf];omega
  ·obtain rfl:k=M.length:=by omega
   have hbw:¬MemS mb f w.heap.size:=fun e=>by have:=HS.out.mem.lt _ e;omega
   have hbx:=HT.out.keep.obj HBX3.out hbw
   have q0:wr.cell? ⟨w.heap.size,0,none⟩=some (.int .i64 at_):=by rw [cell_of_row wr _ 0 _ _ _ hbx];rfl
   have q1:wr.cell? ⟨w.heap.size,1,none⟩=some (.int .i64 x):=by rw [cell_of_row wr _ 1 _ _ _ hbx];rfl
   have hset:=HS3.out.set.keeps HT.out.keep (fun b hb e=>HS.out.ap b e hb)
   have HP:=yb (put_anyG p 2 S _ _ v0 T at_ x wr.drew (hset.mono (Below.refl _ _).drew) (fun z hz=>by
    rcases List.mem_append.1 hz with hz|hz
    ·have h1:=HS.out.form.full z hz
     have h2:=HS.out.in_ z hz
     omega
    ·simp only [List.mem_singleton] at hz
     subst hz
     have:=HX.out
     simp only
     omega) (by have:=HTL.out;omega))
   have HFIN:=yb (show ∀e w',zhg wr.drew S p 2 (srcC tot v0 mb) 146 T ((at_:Int),x) e w'->SPutEnd w U p tot N' T C at_ bs (.returned (.int .i64 0)) w' from fun e w' he=>by
    have h0:=HT.out
    rw [List.take_length] at h0
    rw [HX.out] at he
    refine sput_fin HS.out HU.out (HB.out.trans (HB3.out.mono (by omega))) h0 ((zaj.refl _ wr).drewN 1) (by rw [HM.out,HX.out]) hA ?_ he
    have h2:M.length*bs.length<=(T.length+1)*bs.length:=Nat.mul_le_mul_right _ HML.out
    have h3:=HNN.out
    have h5:=HnN.out
    omega)
   clear hbw hbx hset
   go_wp2_with fail
   go_still_tail 4,(by kernel_rfl)
   go_wp2_with fail
   refine HP.out.mono ?_
   intro e w5 hw5
   have HF:=yb (HFIN.out _ _ hw5)
   obtain ⟨rfl,-⟩:=hw5
   go_wp2
   go_ret
   exact HF.out
theorem row_block {w:World} {sz:Nat} {a:Option Addr} {n cap:Nat} (h:Row w sz a n cap xs) (hn:0<n):∀x,a=some x->x.block<w.heap.size:=by
 obtain ⟨b,o,rfl,hb,-⟩:=h.2.2.2.2 hn
 intro x hx
 cases hx
 exact hb
def zhj (bs:List UInt8) (w:World) (e:Ending) (w':World):Prop :=
 ∃p U T C,e=.returned (.pointer (some ⟨p,0,none⟩))/\SrcQ w' U p bs.length bs.length T C/\T.length<=1/\Form T/\(∀i:Nat,cov T i↔i<bs.length)/\(∀i:Nat,i<bs.length->C i=bs.getD i 0)/\Below w.heap.size w w'
theorem whole_any {w:World} {a:Option Addr} {cap:Nat} {bs:List UInt8} (hr:Row w 1 a bs.length cap (bs.map u8C)) (hl:bs.length<=10000) :
  Calls Tryz.prog 39 #[.slice a bs.length cap] w (zhj bs w):=by
 have HN:=yb (new_any bs.length w (by omega))
 have HR:=yb hr
 have hmx:=hr.i64
 clear hr
 go_enter Tryz.func39,Tryz.ntmps39
 go_wp2_with (go_at_call 58;refine HN.out.mono ?_;rintro e w1 ⟨p,U,rfl,hQ,hB,hU,hp⟩)
 have HQ:=yb hQ
 have HB:=yb hB
 have HU:=yb hU
 have HP:=yb (sput_any hQ (by simp) 0 (HR.out.mono hB) (fun hn x hx hUx=>by
  have h1:=row_block HR.out hn x hx
  have h2:=hU _ hUx
  omega) (by omega) (N':=bs.length) (by simp) (by omega))
 clear hQ hB hU hp
 go_wp2_with fail
 refine HP.out.mono ?_
 rintro e w2 ⟨rfl,U',T',C',hQ',hPS,hC,hK,hU'⟩
 obtain ⟨hF,hcov⟩:=zd4 hPS
 have hc:∀i:Nat,cov T' i↔i<bs.length:=fun i=>by
  rw [hcov]
  constructor
  ·rintro (h1|⟨y,hy,-,-,h2⟩)
   ·exact absurd h1 (zbJ _)
   ·simp only [List.mem_singleton] at hy
    subst hy
    simp only at h2
    omega
  ·intro hi
   exact .inr ⟨_,List.mem_singleton.2 rfl,by simp,by simp,by simp only;omega⟩
 have HFIN:=yb (show zhj bs w (.returned (.pointer (some ⟨p,0,none⟩))) w2 from
  ⟨p,U',T',C',rfl,hQ',by have:=zgM hPS;simpa using this,hF,hc,fun i hi=>by
   have:=(hC i).2 (zbJ _) (by omega) (by omega)
   simpa using this,HB.out.trans (hK.below HB.out.size HU.out)⟩)
 clear hQ' hPS hC hK hU' hF hcov hc
 go_wp2
 go_ret
 exact HFIN.out
theorem cov_one (a b:Nat) (i:Nat):cov [((a:Int),(b:Int))] i↔a<=i/\i<b:=by
 rw [za0]
 constructor
 ·rintro (h|h)
  ·simp only at h;omega
  ·exact absurd h (zbJ _)
 ·intro h
  exact .inl ⟨by simp only;omega,by simp only;omega,by simp only;omega⟩
theorem SrcQ.form {w:World} {C:Nat->UInt8} (h:SrcQ w U p tot N T C):Form T/\(∀x∈T,x.2<=(tot:Int))/\tot<=2147483647:=by
 obtain ⟨S,v,mb,n,f,h,-,hU⟩:=h
 exact ⟨h.form,h.in_,h.totb⟩
theorem SrcQ.keeps {w:World} {V:Nat->Prop} {C:Nat->UInt8} (h:SrcQ w U p tot N T C) (hk:zaj V w w') (hV:∀b,U b->¬V b):SrcQ w' U p tot N T C:=by
 obtain ⟨S,v,mb,n,f,h,hn,hU⟩:=h
 exact ⟨S,v,mb,n,f,⟨h.set.keeps hk (fun b hb=>hV b ((hU b).2 (.inl hb))),h.mem.keeps hk (fun b hb=>hV b ((hU b).2 (.inr hb))),h.ap,h.form,h.in_,h.known,h.totb⟩,hn,hU⟩
def okS (n:Nat) (z:Int×Int):Prop:=0<=z.1/\z.1<=z.2/\z.2<=(n:Int)
def cvS (n:Nat) (L:List (Int×Int)) (i:Int):Prop:=∃z∈L,okS n z/\z.1<=i/\i<z.2
theorem cvS_snoc (n:Nat) (L:List (Int×Int)) (z:Int×Int) (i:Int):cvS n (L++[z]) i↔cvS n L i\/(okS n z/\z.1<=i/\i<z.2):=by
 constructor
 ·rintro ⟨x,hx,h⟩
  rcases List.mem_append.1 hx with hx|hx
  ·exact .inl ⟨x,hx,h⟩
  ·simp only [List.mem_singleton] at hx
   subst hx
   exact .inr h
 ·rintro (⟨x,hx,h⟩|h)
  ·exact ⟨x,List.mem_append.2 (.inl hx),h⟩
  ·exact ⟨z,List.mem_append.2 (.inr (by simp)),h⟩
structure OrdS (w0 w:World) (U:Nat->Prop) (p:Nat) (bs:List UInt8) (k:Nat) (L:List (Int×Int)):Prop where
 src:∃N T C,SrcQ w U p bs.length N T C/\(∀i:Nat,cov T i↔cvS bs.length L i)/\(∀i:Nat,cov T i->C i=bs.getD i 0)/\T.length<=k/\N<=24800*k
 lo:∀b,U b->w0.heap.size<=b
theorem OrdS.mono {w:World} {bs:List UInt8} (h:OrdS w0 w U p bs k L) (hb:Below w.heap.size w w'):OrdS w0 w' U p bs k L:=by
 obtain ⟨⟨N,T,C,h1,h2⟩,h3⟩:=h
 exact ⟨⟨N,T,C,h1.mono hb,h2⟩,h3⟩
theorem OrdS.keeps {w:World} {V:Nat->Prop} {bs:List UInt8} (h:OrdS w0 w U p bs k L) (hk:zaj V w w') (hV:∀b,U b->¬V b):OrdS w0 w' U p bs k L:=by
 obtain ⟨⟨N,T,C,h1,h2⟩,h3⟩:=h
 exact ⟨⟨N,T,C,h1.keeps hk hV,h2⟩,h3⟩
theorem OrdS.lt {w:World} {bs:List UInt8} (h:OrdS w0 w U p bs k L):∀b,U b->b<w.heap.size:=by
 obtain ⟨⟨N,T,C,h1,h2⟩,h3⟩:=h
 exact h1.lt
theorem OrdS.skip {w:World} {bs:List UInt8} {z:Int×Int} (h:OrdS w0 w U p bs k L) (hz:¬okS bs.length z):OrdS w0 w U p bs (k+1) (L++[z]):=by
 obtain ⟨⟨N,T,C,h1,h2,h3,h4,h5⟩,h6⟩:=h
 refine ⟨⟨N,T,C,h1,fun i=>?_,h3,by omega,by omega⟩,h6⟩
 rw [h2 i,cvS_snoc]
 exact ⟨.inl,fun h=>h.elim id fun h=>absurd h.1 hz⟩
def chB (bs:List UInt8) (u v:Nat):List UInt8:=(bs.drop u).take (v-u)
theorem chB_len {bs:List UInt8} {v:Nat} (hv:v<=bs.length):(chB bs u v).length=v-u:=by simp [chB];omega
theorem chB_get {bs:List UInt8} {v:Nat} (h1:u<=i) (h2:i<v):(chB bs u v).getD (i-u) 0=bs.getD i 0:=by
 unfold chB
 rw [List.getD_eq_getElem?_getD,List.getD_eq_getElem?_getD,List.getElem?_take,yg (by omega),List.getElem?_drop,show u+(i-u)=i by omega]
theorem ord_put {w:World} {bs:List UInt8} (h:OrdS w0 w U p bs k L) (hk:k<=30) (hl:bs.length<=800) (hbel:Below w0.heap.size w0 w) {v:Nat} (huv:u<=v) (hv:v<=bs.length) {a:Option Addr} {cap:Nat}
  (hr:Row w0 1 a (v-u) cap ((chB bs u v).map u8C)) :
  Calls Tryz.prog 59 #[.pointer (some ⟨p,0,none⟩),.int .i64 u,.slice a (v-u) cap] w fun e w'=>e=.returned (.int .i64 0)/\∃U',OrdS w0 w' U' p bs (k+1) (L++[((u:Int),(v:Int))])/\zaj U w w'/\∀b,U' b->U b\/w.heap.size<=b:=by
 obtain ⟨⟨N,T,C,h1,h2,h3,h4,h5⟩,h6⟩:=h
 have hcl:=chB_len (bs:=bs) (u:=u) (v:=v) hv
 have hm:(T.length+1)*(chB bs u v).length<=31*800:=Nat.mul_le_mul (by omega) (by omega)
 rw [<-hcl] at hr |-
 refine (sput_any h1 (by omega) u (hr.mono hbel) (fun hn x hx hUx=>?_) (by omega) (N':=24800*(k+1)) (by omega) (by omega)).mono ?_
 ·have g1:=row_block hr hn x hx
  have g2:=h6 _ hUx
  omega
 ·rintro e w' ⟨rfl,U',T',C',g1,g2,g3,g4,g5⟩
  obtain ⟨hF,hcov⟩:=zd4 g2
  have hs:=hbel.size
  have hone:∀i:Nat,cov [((u:Int),(u:Int)+((chB bs u v).length:Int))] i↔u<=i/\i<v:=fun i=>by
   have:=cov_one u v i
   rwa [show (u:Int)+((chB bs u v).length:Int)=(v:Int) by omega]
  refine ⟨rfl,U',⟨⟨24800*(k+1),T',C',g1,fun i=>?_,fun i hi=>?_,by have:=zgM g2;omega,yp _⟩,fun b hb=>(g5 b hb).elim (h6 b) (fun e=>by omega)⟩,g4,g5⟩
  ·rw [hcov i,h2 i,cvS_snoc,hone i]
   refine or_congr Iff.rfl ⟨fun h=>⟨⟨by omega,by omega,by omega⟩,by omega,by omega⟩,fun h=>by omega⟩
  ·obtain ⟨c1,c2⟩:=g3 i
   by_cases hc:cov T i
   ·rw [c1 hc];exact h3 i hc
   ·have:=(hone i).1 (((hcov i).1 hi).resolve_left hc)
    rw [c2 hc (by omega) (by omega),chB_get (by omega) (by omega)]
def knL (n:Nat) (L:List (Int×Int)):List Bool:=(List.range n).map fun (i:Nat)=>L.any fun z=>decide (0<=z.1)&&decide (z.1<=z.2)&&decide (z.2<=(n:Int))&&decide (z.1<=(i:Int))&&decide ((i:Int)<z.2)
theorem knL_len (n:Nat) (L:List (Int×Int)):(knL n L).length=n:=by simp [knL]
theorem knL_get {n:Nat} (hi:i<n):(knL n L).getD i false=true↔cvS n L i:=by
 have:(knL n L).getD i false=L.any fun z=>decide (0<=z.1)&&decide (z.1<=z.2)&&decide (z.2<=(n:Int))&&decide (z.1<=(i:Int))&&decide ((i:Int)<z.2):=by
  simp [knL,List.getD_eq_getElem?_getD,hi]
 rw [this,List.any_eq_true]
 constructor
 ·rintro ⟨z,hz,h⟩
  simp only [Bool.and_eq_true,decide_eq_true_eq] at h
  exact ⟨z,hz,⟨h.1.1.1.1,h.1.1.1.2,h.1.1.2⟩,h.1.2,h.2⟩
 ·rintro ⟨z,hz,⟨h1,h2,h3⟩,h4,h5⟩
  refine ⟨z,hz,?_⟩
  simp only [Bool.and_eq_true,decide_eq_true_eq]
  exact ⟨⟨⟨⟨h1,h2⟩,h3⟩,h4⟩,h5⟩
structure KnS (w:World) (U:Nat->Prop) (p:Nat) (bs:List UInt8) (kn:List Bool):Prop where
 src:∃N T C,SrcQ w U p bs.length N T C/\(∀i:Nat,i<bs.length->(cov T i↔kn.getD i false=true))/\(∀i:Nat,cov T i->C i=bs.getD i 0)/\T.length<=100
 len:kn.length=bs.length
theorem KnS.mono {w:World} {bs:List UInt8} {kn:List Bool} (h:KnS w U p bs kn) (hb:Below w.heap.size w w'):KnS w' U p bs kn:=by
 obtain ⟨⟨N,T,C,h1,h2⟩,h3⟩:=h
 exact ⟨⟨N,T,C,h1.mono hb,h2⟩,h3⟩
theorem OrdS.kn {w:World} {bs:List UInt8} (h:OrdS w0 w U p bs k L) (hk:k<=100):KnS w U p bs (knL bs.length L):=by
 obtain ⟨⟨N,T,C,h1,h2,h3,h4,h5⟩,h6⟩:=h
 exact ⟨⟨N,T,C,h1,fun i hi=>by rw [h2 i,knL_get hi],h3,by omega⟩,knL_len _ _⟩
theorem whole_kn {w:World} {bs:List UInt8} {e:Ending} (h:zhj bs w e w'):∃p U,e=.returned (.pointer (some ⟨p,0,none⟩))/\KnS w' U p bs (List.replicate bs.length true)/\Below w.heap.size w w':=by
 obtain ⟨p,U,T,C,rfl,h1,h2,h3,h4,h5,h6⟩:=h
 refine ⟨p,U,rfl,⟨⟨_,T,C,h1,fun i hi=>?_,fun i hi=>h5 i ((h4 i).1 hi),by omega⟩,by simp⟩,h6⟩
 rw [h4 i]
 simp [List.getD_eq_getElem?_getD,hi]
theorem upto_is2 {n a b:Nat} (hF:Form T) (hin:∀x∈T,x.2<=(n:Int)) (h1:a<=b) (h2:b<=n) (h3:∀i:Nat,a<=i->i<b->cov T i) (h4:b<n->¬cov T b):zbZ T a=b:=by
 obtain ⟨g1,g2,g3⟩:=zeX n T a (fun x hx=>(hF.full x hx).1)
 have g4:=g3 hin (by omega)
 obtain ⟨u,hu⟩:∃u:Nat,zbZ T a=(u:Int):=⟨(zbZ T a).toNat,by omega⟩
 have hn:¬cov T (zbZ T a):=by
  obtain ⟨h1,h2⟩:=zhk hF (a:Int)
  by_cases h0:cov T a
  ·exact (h1 h0).2.2
  ·rw [h2 h0];exact h0
 rw [hu] at g1 g2 g4 hn |-
 have e1:¬u<b:=fun e=>hn (h3 u (by omega) e)
 have e2:¬b<u:=fun e=>h4 (by omega) (g2 (b:Int) (by omega) (by omega))
 omega
theorem upto_next {n:Nat} {kn:List Bool} (hF:Form T) (hin:∀x∈T,x.2<=(n:Int)) (hl:kn.length=n) (hc:∀i:Nat,i<n->(cov T i↔kn.getD i false=true)) {a:Nat} (ha:a<=n):zbZ T a=(zaU kn a:Nat):=by
 obtain ⟨b1,b2⟩:=zdf (kn:=kn) (a:=a) (by omega)
 have hw:∀(l:List Bool) (i:Nat),i<(l.takeWhile id).length->l.getD i false=true:=by
  intro l
  induction l with
  | nil=>intro i hi;simp at hi
  | cons x l ih =>
   intro i hi
   cases x
   ·simp at hi
   ·cases i with
    | zero=>rfl
    | succ i=>simp at hi;simpa using ih i (by omega)
 have hs:∀(l:List Bool),(l.takeWhile id).length<l.length->l.getD (l.takeWhile id).length false=false:=by
  intro l
  induction l with
  | nil=>intro h;simp at h
  | cons x l ih =>
   intro h
   cases x
   ·rfl
   ·simp at h;simpa using ih (by omega)
 refine upto_is2 hF hin b1 (by omega) (fun i h1 h2=>?_) (fun h=>?_)
 ·refine (hc i (by omega)).2 ?_
  have:=hw (kn.drop a) (i-a) (by unfold zaU at h2;omega)
  rw [List.getD_eq_getElem?_getD,List.getElem?_drop,show a+(i-a)=i by omega] at this
  rwa [List.getD_eq_getElem?_getD]
 ·intro hcv
  have h4:=(hc (zaU kn a) h).1 hcv
  have h5:=hs (kn.drop a) (by rw [ym];unfold zaU at h;omega)
  rw [List.getD_eq_getElem?_getD,List.getElem?_drop] at h5
  rw [List.getD_eq_getElem?_getD] at h4
  unfold zaU at h4
  rw [h4] at h5
  cases h5
theorem ktotal {w:World} {bs:List UInt8} {kn:List Bool} (h:KnS w U p bs kn):Calls Tryz.prog 54 #[.pointer (some ⟨p,0,none⟩)] w fun e w'=>e=.returned (.int .i64 (bs.length:Nat))/\w=w':=by
 obtain ⟨⟨N,T,C,h1,-⟩,-⟩:=h
 exact total_any h1
theorem kfirst {w:World} {bs:List UInt8} {kn:List Bool} (h:KnS w U p bs kn) {a:Nat} (ha:a<=bs.length) :
  Calls Tryz.prog 38 #[.pointer (some ⟨p,0,none⟩),.int .i64 a] w fun e w'=>e=.returned (.int .i64 (zaU kn a:Nat))/\Below w.heap.size w w':=by
 obtain ⟨⟨N,T,C,h1,h2,h3,h4⟩,h5⟩:=h
 obtain ⟨hF,hin,htb⟩:=h1.form
 have hu:=upto_next hF hin h5 h2 ha
 obtain ⟨b1,b2⟩:=zdf (kn:=kn) (a:=a) (by omega)
 have:=first_any h1 (by omega) (a:Int)
 rw [show max (0:Int) (a:Int)=(a:Int) by omega,hu,show min (bs.length:Int) (zaU kn a:Nat)=(zaU kn a:Nat) by omega] at this
 exact this
theorem kread {w:World} {bs:List UInt8} {kn:List Bool} (h:KnS w U p bs kn) {a:Nat} (ha:a<=bs.length) {most:Int} (hm:(bs.length:Int)-a<=most) (h64:most<=9223372036854775807) :
  Calls Tryz.prog 55 #[.pointer (some ⟨p,0,none⟩),.int .i64 a,.int .i64 most] w fun e w'=>∃v,e=.returned (.tuple #[v,.bool (zaU kn a==bs.length)]) /\
   w'.ownsRow w.heap.size 5 1 v ((bs.drop a).take (zaU kn a-a)).length (((bs.drop a).take (zaU kn a-a)).map u8C)/\Below w.heap.size w w':=by
 obtain ⟨⟨N,T,C,h1,h2,h3,h4⟩,h5⟩:=h
 obtain ⟨hF,hin,htb⟩:=h1.form
 have hu:=upto_next hF hin h5 h2 ha
 obtain ⟨b1,b2⟩:=zdf (kn:=kn) (a:=a) (by omega)
 obtain ⟨m,hm2⟩:∃m,m=zaU kn a-a:=⟨_,rfl⟩
 have hlen:((bs.drop a).take m).length=m:=by rw [List.length_take,ym];omega
 have hcv:∀j:Nat,a<=j->j<a+m->cov T j:=by
  obtain ⟨g1,g2,g3⟩:=zeX bs.length T a (fun x hx=>(hF.full x hx).1)
  intro j hj hj2
  exact g2 j (by omega) (by rw [hu];omega)
 have hby:zb2 C a m=(bs.drop a).take m:=by
  unfold zb2
  apply List.ext_getElem?
  intro j
  by_cases hj:j<m
  ·have e1:((List.range m).map fun i=>C (a+i))[j]?=some (C (a+j)):=by simp [hj]
   have hjl:a+j<bs.length:=by omega
   rw [e1,h3 _ (hcv _ (by omega) (by omega))]
   simp [hj,hjl,List.getD]
  ·rw [List.getElem?_eq_none (by simp;omega),List.getElem?_eq_none (by rw [hlen];omega)]
 rw [<-hm2,hlen,<-hby]
 refine (read_any h1 (by omega) a (by omega) most (by omega) h64 (n:=m) (by rw [hu];omega)).mono ?_
 rintro e w' ⟨v,rfl,hO,hB⟩
 refine ⟨v,?_,hO,hB⟩
 rw [show decide (a+m=bs.length)=(zaU kn a==bs.length) by rw [show a+m=zaU kn a by omega];by_cases h:zaU kn a=bs.length<;>simp [h]]
end Go.Proofs.YtfafdeemfeaedaaGreat
namespace Go.Proofs.YtfafdeemfeaedaaGreat
open Go.RowKit Go.Sort
theorem KnS.srcI {w:World} {bs:List UInt8} {kn:List Bool} (h:KnS w U p bs kn):SrcI w p bs kn :=
 ⟨h.len,fun W hW=>ktotal (h.mono hW),fun W hW a ha=>kfirst (h.mono hW) ha,fun W hW a most ha hm h64=>(kread (h.mono hW) ha hm h64).mono fun e w' ⟨v,he,hO,hB⟩=>by
  obtain ⟨x,c,rfl,-,-⟩:=zas hO
  exact ⟨x,c,he,(Row.of_own hO).2,hB⟩⟩
theorem slice_mid {a:Option Addr} {cap:Nat} {bs:List UInt8} (hr:Row W 1 a bs.length cap (bs.map u8C)) {v:Nat} (huv:u<=v) (hv:v<=bs.length) :
  ∃a' c',(∀W':World,(Instr.slice 22 (.slice a bs.length cap) (some (.int .i64 (u:Int))) (some (.int .i64 (v:Int))) none).run Tryz.prog W'=.ok (.slice a' (v-u) c') W')/\Row W 1 a' (v-u) c' ((chB bs u v).map u8C):=by
 have hcp:=hr.2.1
 have hcm:=hr.2.2.1
 have ht':Tryz.prog.underlying 22=some (.slice (Tryz.prog.elem 22)):=by simp [Program.elem,Tryz.underlying22]
 have he:Tryz.prog.elem 22=5:=by simp [Program.elem,Tryz.underlying22]
 refine ⟨if cap=u then a else a.map fun x=>x.add (u*1),cap-u,fun W'=>?_,?_⟩
 ·rw [run_slice_lh W' 22 _ _ _ ht' .i64 .i64 _ _ (by omega) (by omega) (by omega),he,szByte]
  cases a with
  | none=>simp [Result.andThen,sliced]
  | some x=>by_cases hc:cap=u<;>simp [Result.andThen,sliced,hc]
 ·refine ⟨by rw [List.length_map,chB_len hv];omega,by omega,by omega,fun h=>?_,fun h0=>?_⟩
  ·split at h
   ·omega
   ·cases a with
    | none=>have:=hr.2.2.2.1 rfl;omega
    | some x=>cases h
  ·obtain ⟨b,o,rfl,hb,hc⟩:=hr.2.2.2.2 (by omega)
   rw [yh (by omega)]
   refine ⟨b,o+u,by simp [Addr.add],hb,fun j x hj=>?_⟩
   have hx:(bs.map u8C)[u+j]?=some x:=by
    rw [List.getElem?_map] at hj |-
    obtain ⟨y,hy,hyx⟩:=Option.map_eq_some_iff.1 hj
    unfold chB at hy
    rw [List.getElem?_take] at hy
    split at hy
    ·rw [List.getElem?_drop] at hy;rw [hy];exact congrArg some hyx
    ·cases hy
   rw [Nat.add_assoc]
   exact hc _ _ hx
theorem sparse_any {w:World} {a:Option Addr} {cap n sc:Nat} {bs:List UInt8} (hr:Row w 1 a bs.length cap (bs.map u8C)) (hl:bs.length<=800) (hs:SRow w sa n sc L) (hn:n<=30) :
  Calls Tryz.prog 21 #[.slice a bs.length cap,.slice sa n sc] w fun e w'=>∃p U,e=.returned (.pointer (some ⟨p,0,none⟩))/\KnS w' U p bs (knL bs.length L)/\Below w.heap.size w w':=by
 have HN:=yb (new_any bs.length w (by omega))
 have HR:=yb hr
 have HS:=yb hs
 have HLN:=yb hs.len
 have hcapb:=hr.i64c
 clear hr hs
 go_enter Tryz.func21,Tryz.ntmps21
 go_wp2_with fail
 refine HN.out.mono ?_
 rintro e w1 ⟨p,U0,rfl,hQ,hb1,hU,hUp⟩
 have HO1:=yb (show OrdS w w1 U0 p bs 0 [] from ⟨⟨0,[],fun _=>0,hQ,fun i=>⟨fun h=>absurd h (zbJ _),fun ⟨z,hz,_⟩=>(by cases hz)⟩,fun i h=>absurd h (zbJ _),yp _,Nat.zero_le _⟩,hU⟩)
 have HB1:=yb hb1
 clear hQ hb1 hU hUp HN
 go_wp2_with fail
 go_loopw [7] (fun v7 wr=>∃(k:Nat) (U:Nat->Prop),v7=.int .i64 k/\k<=n/\Hid (OrdS w wr U p bs k (L.take k))/\Hid (Below w.heap.size w wr)) (fun v _=>n-(intOf v).toNat)
 case atStart=>exact ⟨0,U0,rfl,Nat.zero_le _,HO1,HB1⟩
 case round =>
  obtain ⟨k,U,rfl,hk,HO,HB⟩:=hrel
  by_cases hlt:k<n
  ·have hcd:decide ((k:Int)<(n:Int))=true:=yd (by omega)
   have hcd2:decide (k<n)=true:=yd hlt
   obtain ⟨b,off,rfl,-,hc⟩:=SRow.at (HS.out.mono HB.out) k hlt
   obtain ⟨c0,c1⟩:=hc k hlt
   have HTK:=yb (show L.take (k+1)=L.take k++[L.getD k (0,0)] from zbz L k (by have:=HLN.out;omega))
   obtain ⟨⟨x,y⟩,hxy⟩:∃z,z=L.getD k (0,0):=⟨_,rfl⟩
   rw [<-hxy] at c0 c1 HTK
   clear hxy hc
   simp only at c0 c1
   have HT1:=yb (zac (w:=wr) (b:=wr.heap.size) (.cells #[.int .i64 x,.int .i64 y] 129) rfl)
   have HO2:=yb (HO.out.mono (zam wr (.cells #[.int .i64 x,.int .i64 y] 129)))
   have HB2:=yb (HB.out.alloc HB.out.size (.cells #[.int .i64 x,.int .i64 y] 129))
   have HUT:=yb (show ¬U wr.heap.size from fun h=>by have:=HO.out.lt _ h;omega)
   clear HO HB
   go_upto_region 6 with fail
   generalize wr.heap.size=T at *
   generalize World.alloc _ _=W1 at *
   clear c0 c1
   obtain ⟨⟨t0,t1⟩,-⟩:=zaA HT1.out
   by_cases hok:okS bs.length (x,y)
   ·obtain ⟨h1,h2,h3⟩:=hok
    simp only at h1 h2 h3
    obtain ⟨u,rfl⟩:=Int.eq_ofNat_of_zero_le h1
    obtain ⟨v,rfl⟩:=Int.eq_ofNat_of_zero_le (show 0<=y by omega)
    have huv:u<=v:=by omega
    have hvl:v<=bs.length:=by omega
    have d2:decide (u<=v)=true:=yd huv
    have d2i:decide ((u:Int)<=v)=true:=yd (by omega)
    have d3:decide (v<=bs.length)=true:=yd hvl
    have d3i:decide ((v:Int)<=bs.length)=true:=yd (by omega)
    obtain ⟨a',c',hsl,hrow⟩:=slice_mid HR.out huv hvl
    have HPUT:=yb (ord_put (HO2.out.mono (Below.refl _ W1).drew) (by omega) hl HB2.out.drew huv hvl hrow)
    have e0:=cell?_keep (Below.refl _ W1).drew t0
    have e1:=cell?_keep (Below.refl _ W1).drew t1
    clear hrow h1 h2 h3
    go_wp2_with fail
    go_region_held3 (fun w'=>w'.cell? ⟨T,0,none⟩=some (.int .i64 (u:Nat))/\w'.cell? ⟨T,1,none⟩=some (.int .i64 (v:Nat))) (first|assumption|exact ⟨e0,e1⟩|exact ⟨hk5.cell e0 HUT.out,hk5.cell e1 HUT.out⟩)
     ((go_at_call 59;refine HPUT.out.mono ?_;rintro e w5 ⟨rfl,U',hT5,hk5,hU5⟩))
    all_goals (try go_wp2_with fail)
    all_goals go_roundw
    case rel=>exact ⟨k+1,U',by go_num,hlt,yb (by rw [HTK.out];exact hT5),yb (HB2.out.drew.trans (hk5.below HB2.out.drew.size (fun b hb=>HO2.out.lo b hb)))⟩
    case measure=>simp [intOf];omega
   ·have HSK:=yb (HO2.out.skip hok)
    by_cases h1:0<=x
    ·have d1:decide (0<=x)=true:=yd h1
     by_cases h2:x<=y
     ·have d2:decide (x<=y)=true:=yd h2
      have d3:decide (y<=(bs.length:Int))=false:=ye (fun h=>hok ⟨h1,h2,h⟩)
      clear hok
      go_wp2_with fail
      go_roundw
      case rel=>exact ⟨k+1,U,by go_num,hlt,yb (by rw [HTK.out];exact HSK.out),HB2⟩
      case measure=>simp [intOf];omega
     ·have d2:decide (x<=y)=false:=ye h2
      clear hok
      go_wp2_with fail
      go_roundw
      case rel=>exact ⟨k+1,U,by go_num,hlt,yb (by rw [HTK.out];exact HSK.out),HB2⟩
      case measure=>simp [intOf];omega
    ·have d1:decide (0<=x)=false:=ye h1
     clear hok
     go_wp2_with fail
     go_roundw
     case rel=>exact ⟨k+1,U,by go_num,hlt,yb (by rw [HTK.out];exact HSK.out),HB2⟩
     case measure=>simp [intOf];omega
  ·have hcd:decide ((k:Int)<(n:Int))=false:=ye (by omega)
   have hcd2:decide (k<n)=false:=ye hlt
   have HE:=yb (show KnS wr U p bs (knL bs.length L) by
    have h:=HO.out.kn (by omega)
    rwa [List.take_of_length_le (by have:=HLN.out;omega)] at h)
   go_wp2_with fail
   go_ret
   exact ⟨p,U,rfl,HE.out,HB.out⟩
end Go.Proofs.YtfafdeemfeaedaaGreat
namespace Go.Proofs.YtfafdeemfeaedaaGreat
open Go.RowKit
theorem tabF_neg {t:Tab} {n:Int} (h:n<1\/(t.ps.length:Int)<n\/t.ps.getD (n-1).toNat 0<0):tabF t n=(0,false):=by unfold tabF;rw [yg h]
theorem tabF_pos {t:Tab} {n:Int} (h:¬(n<1\/(t.ps.length:Int)<n\/t.ps.getD (n-1).toNat 0<0)):tabF t n=(t.ps.getD (n-1).toNat 0,true):=by unfold tabF;rw [yh h]
def FndEnd (w:World) (V:Int×Bool) (e:Ending) (w':World):Prop:=e=.returned (.tuple #[.int .i64 V.1,.bool V.2])/\Below w.heap.size w w'
theorem tfind_any {w:World} {a:Option Addr} {c:Nat} {ps:List Int} (h:Row w 1 a ps.length c (ps.map (Value.int .i64))) (r0 n:Int) (hn:n<=9223372036854775807) :
  Calls Tryz.prog 32 #[.agg #[.slice a ps.length c,.int .i64 r0],.int .i64 n] w (FndEnd w (tabF ⟨ps,r0⟩ n)):=by
 have hi:=h.i64
 have HB1:=yb (zam w (.cells #[.slice a ps.length c,.int .i64 r0] 74))
 have HA:=yb (h.mono HB1.out)
 obtain ⟨B,hB⟩:∃B,B=w.heap.size:=⟨_,rfl⟩
 have HX1:=yb (zac (w:=w) (b:=B) (.cells #[.slice a ps.length c,.int .i64 r0] 74) hB)
 have HN:=yb (fun h=>tabF_neg (t:=⟨ps,r0⟩) (n:=n) h)
 have HP:=yb (fun h=>tabF_pos (t:=⟨ps,r0⟩) (n:=n) h)
 generalize tabF ⟨ps,r0⟩ n=V at *
 simp only at HN HP
 clear h
 go_enter Tryz.func32,Tryz.ntmps32
 go_upto_region 1 with fail
 try rw [<-hB]
 generalize World.alloc _ _=W1 at *
 clear hB
 obtain ⟨⟨p0,p1⟩,-⟩:=zaA HX1.out
 by_cases h1:n<1
 ·have d1:decide (n<1)=true:=yd h1
  have HE:=yb (HN.out (.inl h1))
  clear HN HP h1
  go_wp2_with fail
  go_ret2
  rw [HE.out]
  exact ⟨rfl,HB1.out⟩
 have d1:decide (n<1)=false:=ye h1
 by_cases h2:(ps.length:Int)<n
 ·have d2:decide ((ps.length:Int)<n)=true:=yd h2
  have HE:=yb (HN.out (.inr (.inl h2)))
  clear HN HP h1 h2
  go_wp2_with fail
  go_ret2
  rw [HE.out]
  exact ⟨rfl,HB1.out⟩
 have d2:decide ((ps.length:Int)<n)=false:=ye h2
 obtain ⟨k,rfl⟩:∃k:Nat,n=(k:Int)+1:=⟨(n-1).toNat,by omega⟩
 have hk:k<ps.length:=by omega
 rw [show ((k:Int)+1-1).toNat=k by omega] at HN HP
 have hkk:(k:Int)+1-1=(k:Int):=by omega
 obtain ⟨b,o,rfl,-,hc⟩:=HA.out.at 0 k hk
 have c0:=hc k hk
 have hki:(k:Int)<(ps.length:Int):=by omega
 clear hc
 generalize ps.getD k 0=x at *
 by_cases h3:x<0
 ·have d3:decide (x<0)=true:=yd h3
  have HE:=yb (HN.out (.inr (.inr h3)))
  clear HN HP h1 h2 h3
  go_wp2_with fail
  go_ret2
  rw [HE.out]
  exact ⟨rfl,HB1.out⟩
 ·have d3:decide (x<0)=false:=ye h3
  have HE:=yb (HP.out (by rintro (h|h|h);exact h1 h;exact h2 h;exact h3 h))
  clear HN HP h1 h2 h3
  go_wp2_with fail
  go_ret2
  rw [HE.out]
  exact ⟨rfl,HB1.out⟩
def wk17:List UInt8:=[120,114,101,102,10,48,32,50,10,48,48,48,48,48,48,48,48,48,48,32,54,53,53,51,53,32,102,32,10,48,48,48,48,48,48,48,48,48,55,32,48,48,48,48,48,32,110,32,10,
 116,114,97,105,108,101,114,60,60,47,82,111,111,116,32,49,32,48,32,82,47,83,105,122,101,32,50,62,62,10,115,116,97,114,116,120,114,101,102,10,48,10,37,37,69,79,70,10]
def kn17:List Bool:=List.replicate wk17.length true
theorem wk17_load:loadV wk17 kn17=(⟨[7],1⟩,0,0):=by kernel_rfl
theorem wk17_start:zbj wk17 kn17=(0,0,0):=by kernel_rfl
theorem wk17_secs:(zcf wk17 kn17 33 [] [] 0).1.length=1/\(zcf wk17 kn17 33 [] [] 0).2=(0,0):=⟨by kernel_rfl,by kernel_rfl⟩
theorem wk17_find:tabF ⟨[7],1⟩ 1=(7,true):=by kernel_rfl
theorem works17 (w:World):Calls Tryz.prog 19 #[] w fun e w'=>e=.returned (.bool true)/\Below w.heap.size w w':=by
 have HWH:=yb (whole_any (row_bsX (w:=w) wk17 5 (by decide)) (by decide))
 have hcv:=fun (W:World) (C:Array Value) (n c:Nat)=>Lib.run_convert_bytes_const (P:=Tryz.prog) W 22 5 C n c Tryz.underlying22 Tryz.underlying5
 obtain ⟨zs,hzs⟩:∃zs,zs=wk17.map fun c=>(c.toNat:Int):=⟨_,rfl⟩
 have HZ:=yb hzs
 have HL97:=yb (show 97=zs.length by rw [hzs];rfl)
 have HZM:=yb (show zs.map (Value.int .u8)=wk17.map u8C by rw [hzs,List.map_map];rfl)
 clear hzs
 rw [show wk17.length=97 from rfl] at HWH
 go_enter Tryz.func19,Tryz.ntmps19
 go_upto_region 2 with (refine Go.wpList_buildFlat rfl 22 5 97 _ rfl .u8 zs Tryz.underlying22 (by kernel_rfl) (by kernel_rfl) HL97.out (by decide) (by decide) (by rw [HZ.out];kernel_rfl) ?_)
 rw [HZM.out,<-HL97.out]
 clear HZ HL97 HZM
 go_wp2_with fail
 refine HWH.out.mono ?_
 rintro e w1 h1
 obtain ⟨p,U,rfl,hK,hb1⟩:=whole_kn h1
 have HI:=yb hK.srcI
 have HB1:=yb ((zam w _).trans (hb1.mono (by rw [zan];omega)))
 have HL:=yb (load_any HI.out (by decide))
 rw [show List.replicate wk17.length true=kn17 from rfl] at HI HL
 rw [wk17_load] at HL
 clear h1 hK hb1 hcv HWH
 go_wp2_with fail
 refine HL.out.mono ?_
 rintro e w2 ⟨pa,pc,rfl,hrow,-,hb2⟩
 have hb2a:=hb2.alloc hb2.size (.cells #[.slice pa 1 pc,.int .i64 1] 74)
 have HX2:=yb hb2a
 have HT2:=yb (zac (w:=w2) (b:=w2.heap.size) (.cells #[.slice pa 1 pc,.int .i64 1] 74) rfl)
 have HB2:=yo HB1 hb2a
 have HF:=yb (tfind_any (ps:=[7]) (hrow.mono (zam w2 (.cells #[.slice pa 1 pc,.int .i64 1] 74))) 1 1 (by omega))
 rw [wk17_find] at HF
 unfold FndEnd at HF
 simp only [List.length_singleton] at HF |-
 clear hb2 hb2a hrow HL HB1
 go_upto_region 4 with fail
 generalize w2.heap.size=T at *
 generalize World.alloc _ _=W2 at *
 obtain ⟨⟨t0,t1⟩,-⟩:=zaA HT2.out
 go_wp2_with fail
 refine HF.out.mono ?_
 rintro e w3 ⟨rfl,hb3⟩
 have HX3:=yo HX2 hb3
 have HT3:=yb (zab hb3 HT2.out)
 have HB3:=yo HB2 hb3
 have HS:=yb (zeP (HI.out.mono HX3.out) (by decide) 0)
 clear hb3 HX2 HT2 HB2 HF t0 t1
 go_wp2_with fail
 refine HS.out.mono ?_
 rintro e w4 ⟨lv,rfl,hlv,hb4⟩
 obtain ⟨la,lc,rfl,-,-,-⟩:=hlv.len
 rw [wk17_secs.1,wk17_secs.2]
 have HX4:=yo HX3 hb4
 have HT4:=yb (zab hb4 HT3.out)
 have HB4:=yo HB3 hb4
 have HST:=yb (start_any (HI.out.mono HX4.out) (by decide))
 rw [wk17_start] at HST
 clear hb4 HX3 HT3 HB3 HS hlv
 go_wp2_with fail
 refine HST.out.mono ?_
 rintro e w5 ⟨rfl,hb5⟩
 have HT5:=yb (zab hb5 HT4.out)
 have HB5:=yo HB4 hb5
 clear hb5 HX4 HT4 HB4 HST
 obtain ⟨⟨t0,t1⟩,-⟩:=zaA HT5.out
 go_wp2_with fail
 go_ret
 exact ⟨rfl,HB5.out⟩
end Go.Proofs.YtfafdeemfeaedaaGreat
