/-
  Our texts Lex4 to Lex9, in one.
-/
import Derived.Test.YtcmoehknppjkiaaGreatDoorPkB2
import Derived.StillTailTactics
import Derived.ScopeJumps
import Derived.WalkMore
import Derived.Deep.LoopGhost
import Derived.Laws.IdiomStrings
set_option maxRecDepth 8000
set_option maxHeartbeats 8000000
namespace Go.Proofs.YtcmoehknppjkiaaGreatDoor
open Go.RowKit
theorem zfg {S:Nat->Prop} {w:World} {a:Addr} (h:S a.block) (n:Nat):zak S w (w.freeze a n):=by
 unfold World.freeze
 split
 ·exact zak.refl _ _
 ·exact ⟨rfl,rfl,rfl,by simp,fun b _ hn=>by
   simp only [Array.getElem?_modify];rw [yh (fun e:a.block=b=>hn (e▸h))]⟩
set_option maxRecDepth 100000 in
theorem ze1 {w:World} {S:Nat->Prop} {p:Nat} {X:Src} {out:List UInt8} {k:Nat} (h:ScQ w S p X out k) :
  Calls Tryz.prog 55 #[.pointer (some ⟨p,0,none⟩)] w fun e w'=>e=.returned (.string (mkB out))/\zak S w w'/\w'.heap[p]?=w.heap[p]?:=by
 obtain ⟨ad,v,h⟩:=h;obtain ⟨-,c1,-⟩:=h.cells
 by_cases h0:out=[]
 ·have hv:=h.nil_ h0
  subst h0;subst hv;have Yr:=fun (W:World) (q:Option Addr)=>Lib.run_unsafeString_none (P:=Tryz.prog) W 158 3 9 q;have c1':w.drew.cell? ⟨p,1,none⟩=some (.slice none 0 0):=c1;have Ys:(Builtin.unsafeSliceData_ #[28] 158 #[.slice none 0 0]).run Tryz.prog w.drew=.ok (.pointer none) w.drew:=rfl;have HK:=yb (show zak S w w.drew/\w.drew.heap[p]?=w.heap[p]? from ⟨(zak.refl S w).drewN 1,rfl⟩);clear h;go_enter Tryz.func55,Tryz.ntmps55
  go_wp2
  go_region
  all_goals
   go_wp2;go_ret;exact ⟨rfl,HK.out⟩
 ·have Yt:out.length≠0:=by simpa using h0
  obtain ⟨g,cap,cur,rfl,YP,hg,YQ,Yu,Yv,Zs⟩:∃g cap cur,v=.slice (some ⟨g,0,none⟩) out.length cap/\p+1<=g/\w.heap[g]?=some (.cells cur 5 (0,0))/\out.length<=cap/\cap<=maxLen/\cur.size=cap*1/\cur.toList.take (out.length*1)=out.map u8C:=by
   rcases h.row.2 with ⟨_,hz⟩|⟨g,cap,cur,hv,r⟩
   ·exact absurd hz Yt
   ·exact ⟨g,cap,cur,hv,r⟩
  have c1':w.drew.cell? ⟨p,1,none⟩=some (.slice (some ⟨g,0,none⟩) out.length cap):=c1
  have Ys:(Builtin.unsafeSliceData_ #[28] 158 #[.slice (some ⟨g,0,none⟩) out.length cap]).run Tryz.prog w.drew=.ok (.pointer (some ⟨g,0,none⟩)) w.drew :=
   Lib.run_unsafeSliceData_row _ _ _ _ _ _ (by omega)
  have Yr:(Builtin.unsafeString_ #[158,3] 9 #[.pointer (some ⟨g,0,none⟩),.int .i64 out.length]).run Tryz.prog w.drew=.ok (.string ⟨out.toArray⟩) (w.drew.freeze ⟨g,0,none⟩ out.length):=by
   refine Lib.run_unsafeString_row w.drew 158 3 9 5 Tryz.underlying158 cellsByte g cur.size (by have Yw:w.drew.heap[g]?=some (.cells cur 5 (0,0)):=hg;simp [World.shape?,Yw]) out h0 (by omega) (by unfold maxLen at Yu;omega) ?_;intro j x hx;exact h.row.cells (g:=g) rfl j (u8C x) (by simp [hx])
  have HK:=yb (show zak S w (w.drew.freeze ⟨g,0,none⟩ out.length)/\(w.drew.freeze ⟨g,0,none⟩ out.length).heap[p]?=w.heap[p]? from ⟨zak.trans ((zak.refl S w).drewN 1) (zfg (S:=S) (h.at_ g rfl) _) (fun _ hx=>.inl hx),((zfg (S:=fun b=>b=g) (w:=w.drew) (a:=⟨g,0,none⟩) rfl out.length).block p (h.lt p h.own).2 (fun e=>by omega)).trans rfl⟩);clear h Zs Yv hg;go_enter Tryz.func55,Tryz.ntmps55
  go_wp2
  go_region
  all_goals
   go_wp2;go_ret;exact ⟨rfl,HK.out⟩
def zeG (w:World) (S:Nat->Prop) (p:Nat) (X:Src) (V:Option (List UInt8×Nat)) (e:Ending) (w':World):Prop :=
 match V with
 | none=>e=.returned (.bool false)/\∃out k,zar w S p X out k w'
 | some (out,k)=>e=.returned (.bool true)/\zar w S p X out k w'
theorem zay {l:List UInt8} {k:Nat} (h:k<l.length):l.drop k=l.getD k 0::l.drop (k+1):=by rw [List.drop_eq_getElem_cons h];simp [List.getD,h]
theorem zbm {l:List UInt8} {k:Nat} (h:¬k<l.length):l.drop k=[]:=List.drop_of_length_le (by omega)
theorem zar.drew {w:World} {S:Nat->Prop} {p:Nat} {X:Src} {out:List UInt8} {k:Nat} (q:Nat) {w':World} (h:zar (w.drewN q) S p X out k w'):zar w S p X out k w' :=
 zar.trans ((zak.refl S w).drewN q) (fun _ h=>.inl h) h
theorem line_any {w:World} {S:Nat->Prop} {p:Nat} {X:Src} {out:List UInt8} {k:Nat} (h:ScQ w S p X out k) :
  Calls Tryz.prog 186 #[.pointer (some ⟨p,0,none⟩),.int .u8 13] w (zeG w S p X ((zee X.yq (X.bs.drop k)).map fun j=>(out,k+j))):=by
 have hP:=zdf h;obtain ⟨V,hV⟩:∃V,V=(zee X.yq (X.bs.drop k)).map fun j=>(out,k+j):=⟨_,rfl⟩;rw [<-hV];unfold zfl at hP
 by_cases hk:k<X.bs.length
 ·rw [yg hk] at hP
  rw [zay hk] at hV;simp only [zee,Option.map_some] at hV;have HQ:=yb h;have HP:=yb hP;have Zt:X.bs.length<=400000:=by obtain ⟨_,_,h⟩:=h;exact h.small
  unfold u8C at HP
  by_cases h10:X.bs.getD k 0=10
  ·rw [yg h10] at hV
   have HV:=yb hV;rw [h10] at HP;clear hV hP h h10;go_enter Tryz.func186,Tryz.ntmps186
   go_wp2_with fail
   refine HP.out.mono ?_;rintro e w1 ⟨rfl,q,rfl⟩;have h1:=HQ.out.drewN q;obtain ⟨ad,v,h1⟩:=h1;obtain ⟨-,-,-,c3,-⟩:=h1.cells;have f3:=h1.free 3;have HM:=yb (zar.drew q (h1.move (k+1) (by omega) (by omega)));clear h1;go_wp2;go_ret;rw [HV.out];exact ⟨rfl,HM.out⟩
  ·rw [yh h10] at hV
   have HV:=yb hV
   have ZY:(((X.bs.getD k 0).toNat:Int)==10)=false:=by
    rw [yf];intro e;exact h10 (UInt8.toNat_inj.1 (Int.ofNat_inj.1 e))
   generalize (X.bs.getD k 0).toNat=x at *;clear hV hP h h10;go_enter Tryz.func186,Tryz.ntmps186
   go_wp2_with fail
   refine HP.out.mono ?_;rintro e w1 ⟨rfl,q,rfl⟩;have HN:=yb (zar.drew q (zar.refl (HQ.out.drewN q)));go_wp2;go_ret;rw [HV.out];exact ⟨rfl,HN.out⟩
 ·rw [yh hk] at hP
  rw [zbm hk] at hV;simp only [zee] at hV;have HV:=yb hV;have HQ:=yb h;have HP:=yb hP;clear hV hP h hk;obtain ⟨l,hl⟩:∃l,X.yq=l:=⟨_,rfl⟩;rw [hl] at HV;have HL:=yb hl;clear hl
  cases l
  all_goals
   go_enter Tryz.func186,Tryz.ntmps186
   go_wp2_with fail
   refine HP.out.mono ?_;rintro e w1 ⟨rfl,q,rfl⟩;have h1:=HQ.out.drewN q;have HN:=yb (zar.drew q (zar.refl h1));obtain ⟨ad,v,h1⟩:=h1;obtain ⟨-,-,-,-,c4⟩:=h1.cells;rw [HL.out] at c4;clear h1;go_wp2;go_ret;rw [HV.out]
  ·exact ⟨rfl,_,_,HN.out⟩
  ·exact ⟨rfl,HN.out⟩
def zc8 (yq:Bool):Nat->Nat->List UInt8->Option (Nat×Nat)
 | 0,N,_=>some (N,0)
 | _+1,N,[]=>if yq then some (N,0) else none
 | m+1,N,d::t=>if isOc d=true then (zc8 yq m (8*N+(d.toNat-48)) t).map (fun x=>(x.1,x.2+1)) else some (N,0)
theorem octV_go (yq:Bool) (c:UInt8) (l:List UInt8):octV yq c l=(zc8 yq 2 (c.toNat-48) l).map fun x=>(x.1,x.2+1):=by
 cases l with
 | nil=>cases yq<;>rfl
 | cons d t =>
  by_cases hd:isOc d=true
  ·cases t with
   | nil=>cases yq<;>simp [octV,zc8,hd]
   | cons e u =>
    by_cases he:isOc e=true
    ·simp [octV,zc8,hd,he]
    ·simp [octV,zc8,hd,he]
  ·simp [octV,zc8,hd]
theorem zco {c:UInt8}:isOc c=true↔48<=c.toNat/\c.toNat<=55:=by unfold isOc;simp
theorem zea (N:Nat):IntKind.u8.wrap (N:Int)=((UInt8.ofNat N).toNat:Int):=by rw [IntKind.wrap_u8,UInt8.toNat_ofNat'];omega
theorem zhx {w w1 w2:World} {S S1:Nat->Prop} {p:Nat} {X:Src} {o2:List UInt8} {k2:Nat} (hk:zak S w w1) (hs:∀b,S1 b->S b\/w.heap.size<=b) (hN:zar w1 S1 p X o2 k2 w2) (V:Option (List UInt8×Nat)) (hV:V=some (o2,k2)) :
  zeG w S p X V (.returned (.bool true)) w2:=by
 subst hV;exact ⟨rfl,zar.trans hk hs hN⟩
theorem octal_any {w:World} {S:Nat->Prop} {p:Nat} {X:Src} {out:List UInt8} {k:Nat} (h:ScQ w S p X out k) (c:UInt8) (hc:isOc c=true) (hk:out.length<k) :
  Calls Tryz.prog 200 #[.pointer (some ⟨p,0,none⟩),.int .u8 c.toNat] w (zeG w S p X ((zc8 X.yq 2 (c.toNat-48) (X.bs.drop k)).map fun x=>(out++[UInt8.ofNat x.1],k+x.2))):=by
 obtain ⟨V,hV⟩:∃V,V=(zc8 X.yq 2 (c.toNat-48) (X.bs.drop k)).map fun x=>(out++[UInt8.ofNat x.1],k+x.2):=⟨_,rfl⟩;rw [<-hV];have Zd:=zco.1 hc;have HV:=yb hV;have HN:=yb (zar.refl h);have Zt:X.bs.length<=400000:=by obtain ⟨_,_,h⟩:=h;exact h.small
 obtain ⟨n0,Ye⟩:∃n0,n0=c.toNat-48:=⟨_,rfl⟩;have Yf:(c.toNat:Int)=(n0:Int)+48:=by omega
 have YR:n0<=7:=by omega
 rw [<-Ye] at HV;rw [Yf];clear hV h hc Zd Ye Yf;go_enter Tryz.func200,Tryz.ntmps200
 go_wp2
 go_loopw [5,6] (fun n i wr=>∃(j N k':Nat),j<=2/\n=.int .i64 N/\i=.int .i64 j/\N+1<=8 ^ (j+1)/\k<=k'/\Hid (zar w S p X out k' wr)/\Hid (V=(zc8 X.yq (2-j) N (X.bs.drop k')).map fun x=>(out++[UInt8.ofNat x.1],k'+x.2))) (fun _ i _=>2-(intOf i).toNat)
 case atStart=>exact ⟨0,n0,k,by omega,by go_num,rfl,by omega,yp _,HN,HV⟩
 case round =>
  obtain ⟨j,N,k',hj,rfl,rfl,hN,YS,HS,HG⟩:=hrel;obtain ⟨S1,Qo,QL,QP⟩:=HS.out;have Qj:=yb Qo;have Qa:=yb QL;have Qb:=yb QP;have hP:=zdf Qo;unfold zfl u8C at hP
  have YT:N<=511:=by
   have:j=0\/j=1\/j=2:=by omega
   rcases this with rfl|rfl|rfl<;>omega
  have Ql:=yb (fun (q:Nat) (x:Int) (hx:x=((UInt8.ofNat N).toNat:Int))=>za8 (Qo.drewN q) (UInt8.ofNat N) x hx (by omega));have ZZ:=yb (fun (x:Int) (hx:x=((UInt8.ofNat N).toNat:Int))=>za8 Qo (UInt8.ofNat N) x hx (by omega));clear Qo QL QP
  by_cases hj2:j<2
  ·obtain ⟨m,hm⟩:∃m,2-j=m+1:=⟨1-j,by omega⟩
   have hg:=HG.out;rw [hm] at hg;have HM:=yb hm;have Yg:decide ((j:Int)<2)=true:=by simp;omega
   clear hm
   by_cases hk2:k'<X.bs.length
   ·rw [yg hk2] at hP
    rw [zay hk2,zc8] at hg
    by_cases hd:isOc (X.bs.getD k' 0)=true
    ·have Zu:=zco.1 hd
     rw [yg hd] at hg;have HP:=yb hP;have Q8:=yb hg;obtain ⟨d,Yh⟩:∃d,d=(X.bs.getD k' 0).toNat-48:=⟨_,rfl⟩;have Yi:((X.bs.getD k' 0).toNat:Int)=(d:Int)+48:=by omega
     have YU:d<=7:=by omega
     rw [Yi] at HP;rw [<-Yh] at Q8;clear hg hP hd Zu Yh Yi;go_wp2_with fail
     refine HP.out.mono ?_;rintro e w1 ⟨rfl,q,rfl⟩;have h1:=Qj.out.drewN q;obtain ⟨ad,v,h1⟩:=h1;obtain ⟨-,-,-,c3,-⟩:=h1.cells;have f3:=h1.free 3;have Yx:=yb (zar.trans Qa.out Qb.out (zar.drew q (h1.move (k'+1) (by omega) (by omega))));clear h1;go_wp2
     go_roundw
     case rel =>
      refine ⟨j+1,8*N+d,k'+1,by omega,by go_num,by go_num,by rw [Nat.pow_succ];omega,by omega,Yx,yb ?_⟩;rw [Q8.out,show 2-(j+1)=m from by have:=HM.out;omega,Option.map_map]
      congr 1
      funext x
      simp only [Function.comp];rw [show k'+1+x.2=k'+(x.2+1) from by omega]
     case measure=>simp [intOf];omega
    ·rw [yh hd] at hg
     simp only [Option.map_some] at hg;have Q8:=yb hg;have HP:=yb hP;have Zu:¬(48<=(X.bs.getD k' 0).toNat/\(X.bs.getD k' 0).toNat<=55):=fun e=>hd (zco.2 e);generalize (X.bs.getD k' 0).toNat=x at *
     by_cases hx:(x:Int)<48
     ·have Yy:decide ((x:Int)<48)=true:=by simpa using hx
      clear hg hP hd Zu;go_wp2_with fail
      refine HP.out.mono ?_;rintro e w1 ⟨rfl,q,rfl⟩;go_wp2_with fail
      refine (Ql.out q _ (zea N)).mono ?_;rintro e w2 ⟨rfl,QQ⟩;have QR:=yb QQ;clear QQ;go_wp2;go_ret;exact zhx ((Qa.out).drewN q) Qb.out QR.out _ Q8.out
     ·have Yy:decide ((x:Int)<48)=false:=by simpa using hx
      have YV:decide ((55:Int)<x)=true:=by simp;omega
      clear hg hP hd Zu hx;go_wp2_with fail
      refine HP.out.mono ?_;rintro e w1 ⟨rfl,q,rfl⟩;go_wp2_with fail
      refine (Ql.out q _ (zea N)).mono ?_;rintro e w2 ⟨rfl,QQ⟩;have QR:=yb QQ;clear QQ;go_wp2;go_ret;exact zhx ((Qa.out).drewN q) Qb.out QR.out _ Q8.out
   ·rw [yh hk2] at hP
    rw [zbm hk2,zc8] at hg;have HP:=yb hP;have QS:=fun (q:Nat)=>(let ⟨ad,v,h⟩:=Qj.out.drewN q;h.cells.2.2.2.2);obtain ⟨l,hl⟩:∃l,X.yq=l:=⟨_,rfl⟩;rw [hl] at hg QS;have HL:=yb QS;have Q8:=yb hg;clear hg hP hl QS hk2
    cases l
    ·go_wp2_with fail
     refine HP.out.mono ?_;rintro e w1 ⟨rfl,q,rfl⟩;have c4:=HL.out q;have QR:=yb (zar.trans Qa.out Qb.out (zar.drew q (zar.refl (Qj.out.drewN q))));go_wp2;go_ret;rw [Q8.out];exact ⟨rfl,_,_,QR.out⟩
    ·go_wp2_with fail
     refine HP.out.mono ?_;rintro e w1 ⟨rfl,q,rfl⟩;have c4:=HL.out q;go_wp2_with fail
     refine (Ql.out q _ (zea N)).mono ?_;rintro e w2 ⟨rfl,QQ⟩;have QR:=yb QQ;clear QQ;go_wp2;go_ret;exact zhx ((Qa.out).drewN q) Qb.out QR.out _ Q8.out
  ·obtain rfl:j=2:=by omega
   have hg:=HG.out;rw [Nat.sub_self,zc8,Option.map_some] at hg;have Q8:=yb hg;clear hg hP;go_wp2_with fail
   refine (ZZ.out _ (zea N)).mono ?_;rintro e w2 ⟨rfl,QQ⟩;have QR:=yb QQ;clear QQ;go_wp2;go_ret;exact zhx Qa.out Qb.out QR.out _ Q8.out
def zcS (X:Src) (out:List UInt8) (k:Nat):Option (List UInt8×Nat):=(escV X.yq (X.bs.drop k)).map fun x=>(out++x.1,k+x.2)
theorem esc_idx (c:UInt8):(Lib.indexByte [110,114,116,98,102] c=-1/\c≠110/\c≠114/\c≠116/\c≠98/\c≠102)\/(c=110\/c=114\/c=116\/c=98\/c=102):=by
 by_cases h:Lib.indexByte [110,114,116,98,102] c=-1
 ·have:=zdD _ _ h
  simp at this;exact .inl ⟨h,this⟩
 ·have hg:=Lib.indexByte_ge [110,114,116,98,102] c
  obtain ⟨i,hi⟩:=Int.eq_ofNat_of_zero_le (show 0<=Lib.indexByte [110,114,116,98,102] c by omega);obtain ⟨a,t,e,-,-⟩:=zdJ _ _ _ hi;have hm:c∈([110,114,116,98,102]:List UInt8):=by rw [e];simp
  simp at hm;exact .inr hm
theorem escStep_of {X:Src} {out:List UInt8} {k:Nat} (hk:k<X.bs.length) (r:Option (List UInt8×Nat)) (h:escV X.yq (X.bs.getD k 0::X.bs.drop (k+1))=r):zcS X out k=r.map fun x=>(out++x.1,k+x.2):=by
 unfold zcS;rw [zay hk,h]
theorem zfw (yq:Bool) (c:UInt8) (t:List UInt8) (n1:c≠110) (n2:c≠114) (n3:c≠116) (n4:c≠98) (n5:c≠102):escV yq (c::t) =
  if isOc c=true then (octV yq c t).map (fun x=>([UInt8.ofNat x.1],x.2)) else if c=10 then some ([],1) else if c=13 then (zee yq t).map (fun k=>([],k+1)) else some ([c],1):=by
 simp only [escV];rw [yh n1,yh n2,yh n3,yh n4,yh n5]
theorem step_none {w w2:World} {S:Nat->Prop} {p:Nat} {X:Src} {V:Option (List UInt8×Nat)} (hV:V=none) (h:∃out k,zar w S p X out k w2):zeG w S p X V (.returned (.bool false)) w2:=by
 subst hV;exact ⟨rfl,h⟩
theorem zbV {w w2:World} {S:Nat->Prop} {p:Nat} {X:Src} {V:Option (List UInt8×Nat)} {o2:List UInt8} {k2:Nat} (hV:V=some (o2,k2)) (h:zar w S p X o2 k2 w2):zeG w S p X V (.returned (.bool true)) w2:=by
 subst hV;exact ⟨rfl,h⟩
theorem line_other (a:Value) (x:Int) (hx:(x != 13)=true) (w:World):Calls Tryz.prog 186 #[a,.int .u8 x] w fun e w'=>e=.returned (.bool true)/\w=w':=by
 go_enter Tryz.func186,Tryz.ntmps186
 go_wp2;go_ret;exact ⟨rfl,rfl⟩
theorem escape_any {w:World} {S:Nat->Prop} {p:Nat} {X:Src} {out:List UInt8} {k:Nat} (h:ScQ w S p X out k) (hok:out.length<=k) :
  Calls Tryz.prog 185 #[.pointer (some ⟨p,0,none⟩)] w (zeG w S p X (zcS X out k)):=by
 obtain ⟨V,hV⟩:∃V,V=zcS X out k:=⟨_,rfl⟩;rw [<-hV];have hP:=zdf h;unfold zfl u8C at hP;have Zt:X.bs.length<=400000:=by obtain ⟨_,_,h⟩:=h;exact h.small
 by_cases hk:k<X.bs.length
 case neg =>
  rw [yh hk] at hP;have HP:=yb hP;have HL:=yb (show V=none by rw [hV];unfold zcS;rw [zbm hk];rfl);have HQ:=yb h;clear hV hP h hk;go_enter Tryz.func185,Tryz.ntmps185
  go_wp2_with fail
  refine HP.out.mono ?_;rintro e w1 ⟨rfl,q,rfl⟩;have QR:=yb (zar.drew q (zar.refl (HQ.out.drewN q)));go_wp2;go_ret;rw [HL.out];exact ⟨rfl,_,_,QR.out⟩
 rw [yg hk] at hP;have Qi:=yb (fun q=>(let ⟨_,_,h1⟩:=h.drewN q;h1.move (k+1) (by omega) (by omega)));have Qm:=yb (fun q=>(let ⟨_,_,h1⟩:=h.drewN q;(And.intro h1.cells.2.2.2.1 (h1.free 3))));have Yj:=fun (c:UInt8) W=>zd7 ⟨#[110,114,116,98,102]⟩ (c.toNat:Int) W
 have Qk:∀(c:UInt8) W,Calls Tryz.prog 121 #[.string ⟨#[110,114,116,98,102]⟩,.int .u8 c.toNat] W fun e w'=>e=.returned (.int .i64 (Lib.indexByte [110,114,116,98,102] c))/\W=w':=fun c W=>by
  have:=Yj c W;rw [u8_back] at this;exact this
 have hE:=fun r hr=>hV.trans (escStep_of (X:=X) (out:=out) (k:=k) hk r hr);obtain ⟨c,hc⟩:∃c,c=X.bs.getD k 0:=⟨_,rfl⟩;rw [<-hc] at hP hE;clear Yj hV hc;rcases esc_idx c with ⟨Zq,n1,n2,n3,n4,n5⟩|hlit
 ·have Qp:=Qk c
  rw [Zq] at Qp;have QE:=yb Qp;have HP:=yb hP;clear Qp Qk hP
  by_cases hoc:isOc c=true
  ·have HV:=yb (hE _ (show escV X.yq (c::X.bs.drop (k+1))=(octV X.yq c (X.bs.drop (k+1))).map fun x=>([UInt8.ofNat x.1],x.2) by
    rw [zfw _ _ _ n1 n2 n3 n4 n5,yg hoc]))
   have QM:=zco.1 hoc;have h48:decide ((48:Int)<=c.toNat)=true:=by simp;omega
   have YW:decide ((c.toNat:Int)<=55)=true:=by simp;omega
   clear hE n1 n2 n3 n4 n5 Zq QM;go_enter Tryz.func185,Tryz.ntmps185
   go_wp2_with fail
   refine HP.out.mono ?_;rintro e w1 ⟨rfl,q,rfl⟩;obtain ⟨c3,f3⟩:=Qm.out q;obtain ⟨S1,q1,k1,s1⟩:=Qi.out q;have Qj:=yb q1;have Qa:=yb (zak.trans ((zak.refl S w).drewN q) k1 (fun _ h=>.inl h));have Qb:=yb s1;clear q1 k1 s1;go_wp2_with fail
   refine (QE.out _).mono ?_;rintro e w2 ⟨rfl,rfl⟩;rw [show ((k:Int)+1)=((k+1:Nat):Int) from rfl];generalize (w.drewN q).setCell ⟨p,3,none⟩ (.int .i64 ((k+1:Nat):Int))=w2 at *;clear c3 f3;have HO:=yb (octal_any Qj.out c hoc (by omega));go_wp2_with fail
   refine HO.out.mono ?_;rintro e w3 hstep;have Qd:=yb hstep;clear hstep
   have HG:=yb (show V=(zc8 X.yq 2 (c.toNat-48) (X.bs.drop (k+1))).map fun x=>(out++[UInt8.ofNat x.1],k+1+x.2) by
    rw [HV.out,octV_go,Option.map_map,Option.map_map]
    congr 1
    funext x
    simp only [Function.comp];rw [show k+(x.2+1)=k+1+x.2 from by omega])
   rw [<-HG.out] at Qd
   cases hVV:V with
   | none =>
    rw [hVV] at Qd;obtain ⟨rfl,o2,k2,hn⟩:=Qd.out;have HN:=yb hn;clear Qd hn;go_wp2;go_ret;exact step_none hVV ⟨o2,k2,zar.trans Qa.out Qb.out HN.out⟩
   | some ok =>
    obtain ⟨o2,k2⟩:=ok;rw [hVV] at Qd;obtain ⟨rfl,hn⟩:=Qd.out;have HN:=yb hn;clear Qd hn;go_wp2;go_ret;exact zbV hVV (zar.trans Qa.out Qb.out HN.out)
  ·have QM:¬(48<=c.toNat/\c.toNat<=55):=fun e=>hoc (zco.2 e)
   by_cases h10:c=10
   ·subst h10
    have HV:=yb (show V=some (out++[],k+1) from hE _ (show escV X.yq (10::X.bs.drop (k+1))=some ([],1) from rfl));clear hE n1 n2 n3 n4 n5 Zq hoc QM;go_enter Tryz.func185,Tryz.ntmps185
    go_wp2_with fail
    refine HP.out.mono ?_;rintro e w1 ⟨rfl,q,rfl⟩;obtain ⟨c3,f3⟩:=Qm.out q;obtain ⟨S1,q1,k1,s1⟩:=Qi.out q;have Qj:=yb q1;have Qa:=yb (zak.trans ((zak.refl S w).drewN q) k1 (fun _ h=>.inl h));have Qb:=yb s1;clear q1 k1 s1;go_wp2_with fail
    refine (QE.out _).mono ?_;rintro e w2 ⟨rfl,rfl⟩;rw [show ((k:Int)+1)=((k+1:Nat):Int) from rfl];generalize (w.drewN q).setCell ⟨p,3,none⟩ (.int .i64 ((k+1:Nat):Int))=w2 at *;clear c3 f3;go_wp2_with (go_at_call 186;refine (line_other _ _ rfl _).mono ?_;rintro e w3 ⟨rfl,rfl⟩)
    go_ret;exact zbV (by rw [HV.out,List.append_nil]) (zar.trans Qa.out Qb.out (zar.refl Qj.out))
   ·by_cases h13:c=13
    ·subst h13
     have HV:=yb (hE _ (show escV X.yq (13::X.bs.drop (k+1))=(zee X.yq (X.bs.drop (k+1))).map fun j=>([],j+1) from rfl));clear hE n1 n2 n3 n4 n5 Zq hoc QM h10;go_enter Tryz.func185,Tryz.ntmps185
     go_wp2_with fail
     refine HP.out.mono ?_;rintro e w1 ⟨rfl,q,rfl⟩;obtain ⟨c3,f3⟩:=Qm.out q;obtain ⟨S1,q1,k1,s1⟩:=Qi.out q;have Qj:=yb q1;have Qa:=yb (zak.trans ((zak.refl S w).drewN q) k1 (fun _ h=>.inl h));have Qb:=yb s1;clear q1 k1 s1;go_wp2_with fail
     refine (QE.out _).mono ?_;rintro e w2 ⟨rfl,rfl⟩;rw [show ((k:Int)+1)=((k+1:Nat):Int) from rfl];generalize (w.drewN q).setCell ⟨p,3,none⟩ (.int .i64 ((k+1:Nat):Int))=w2 at *;clear c3 f3;have HO:=yb (line_any Qj.out);go_wp2_with fail
     refine HO.out.mono ?_;rintro e w3 hstep;have Qd:=yb hstep;clear hstep
     have HG:=yb (show V=(zee X.yq (X.bs.drop (k+1))).map fun j=>(out,k+1+j) by
      rw [HV.out,Option.map_map]
      congr 1
      funext x
      simp only [Function.comp,List.append_nil];rw [show k+(x+1)=k+1+x from by omega])
     rw [<-HG.out] at Qd
     cases hVV:V with
     | none =>
      rw [hVV] at Qd;obtain ⟨rfl,o2,k2,hn⟩:=Qd.out;have HN:=yb hn;clear Qd hn;go_wp2;go_ret;exact step_none hVV ⟨o2,k2,zar.trans Qa.out Qb.out HN.out⟩
     | some ok =>
      obtain ⟨o2,k2⟩:=ok;rw [hVV] at Qd;obtain ⟨rfl,hn⟩:=Qd.out;have HN:=yb hn;clear Qd hn;go_wp2;go_ret;exact zbV hVV (zar.trans Qa.out Qb.out HN.out)
    ·have HV:=yb (show V=some (out++[c],k+1) from hE (some ([c],1)) (by rw [zfw _ _ _ n1 n2 n3 n4 n5,yh hoc,yh h10,yh h13]))
     have ZY:((c.toNat:Int)==10)=false:=by rw [yf];intro e;exact h10 (UInt8.toNat_inj.1 (Int.ofNat_inj.1 e))
     have Zl:((c.toNat:Int)==13)=false:=by rw [yf];intro e;exact h13 (UInt8.toNat_inj.1 (Int.ofNat_inj.1 e))
     have Ql:=yb (fun W S1 (h:ScQ W S1 p X out (k+1))=>za8 h c (c.toNat:Int) rfl (by omega))
     by_cases h48:(48:Int)<=c.toNat
     ·have Z0:decide ((48:Int)<=c.toNat)=true:=by simpa using h48
      have Yz:decide ((c.toNat:Int)<=55)=false:=by simp;omega
      clear hE n1 n2 n3 n4 n5 Zq hoc QM h10 h13 h48;generalize (c.toNat:Int)=x at *;go_enter Tryz.func185,Tryz.ntmps185
      go_wp2_with fail
      refine HP.out.mono ?_;rintro e w1 ⟨rfl,q,rfl⟩;obtain ⟨c3,f3⟩:=Qm.out q;obtain ⟨S1,q1,k1,s1⟩:=Qi.out q;have Qj:=yb q1;have Qa:=yb (zak.trans ((zak.refl S w).drewN q) k1 (fun _ h=>.inl h));have Qb:=yb s1;clear q1 k1 s1;go_wp2_with fail
      refine (QE.out _).mono ?_;rintro e w2 ⟨rfl,rfl⟩;rw [show ((k:Int)+1)=((k+1:Nat):Int) from rfl];generalize (w.drewN q).setCell ⟨p,3,none⟩ (.int .i64 ((k+1:Nat):Int))=w2 at *;clear c3 f3;go_wp2_with fail
      refine (Ql.out _ _ Qj.out).mono ?_;rintro e w3 ⟨rfl,hn⟩;have HN:=yb hn;clear hn;go_wp2;go_ret;exact zbV HV.out (zar.trans Qa.out Qb.out HN.out)
     ·have Z0:decide ((48:Int)<=c.toNat)=false:=by simpa using h48
      clear hE n1 n2 n3 n4 n5 Zq hoc QM h10 h13 h48;generalize (c.toNat:Int)=x at *;go_enter Tryz.func185,Tryz.ntmps185
      go_wp2_with fail
      refine HP.out.mono ?_;rintro e w1 ⟨rfl,q,rfl⟩;obtain ⟨c3,f3⟩:=Qm.out q;obtain ⟨S1,q1,k1,s1⟩:=Qi.out q;have Qj:=yb q1;have Qa:=yb (zak.trans ((zak.refl S w).drewN q) k1 (fun _ h=>.inl h));have Qb:=yb s1;clear q1 k1 s1;go_wp2_with fail
      refine (QE.out _).mono ?_;rintro e w2 ⟨rfl,rfl⟩;rw [show ((k:Int)+1)=((k+1:Nat):Int) from rfl];generalize (w.drewN q).setCell ⟨p,3,none⟩ (.int .i64 ((k+1:Nat):Int))=w2 at *;clear c3 f3;go_wp2_with fail
      refine (Ql.out _ _ Qj.out).mono ?_;rintro e w3 ⟨rfl,hn⟩;have HN:=yb hn;clear hn;go_wp2;go_ret;exact zbV HV.out (zar.trans Qa.out Qb.out HN.out)
 ·have Zv:∀d:UInt8,(c=110/\d=10)\/(c=114/\d=13)\/(c=116/\d=9)\/(c=98/\d=8)\/(c=102/\d=12)->V=some (out++[d],k+1):=by
   rintro d (⟨rfl,rfl⟩|⟨rfl,rfl⟩|⟨rfl,rfl⟩|⟨rfl,rfl⟩|⟨rfl,rfl⟩)
   all_goals exact hE _ rfl
  have QT:=yb Zv;have Ql:=yb (fun W S1 (h:ScQ W S1 p X out (k+1)) (d:UInt8)=>za8 h d (d.toNat:Int) rfl (by omega));clear Zv hE;rcases hlit with rfl|rfl|rfl|rfl|rfl
  ·have Qp:=Qk 110
   rw [show Lib.indexByte [110,114,116,98,102] 110=0 from rfl] at Qp;have QE:=yb Qp;have HP:=yb hP;clear Qp Qk hP;go_enter Tryz.func185,Tryz.ntmps185
   go_wp2_with fail
   refine HP.out.mono ?_;rintro e w1 ⟨rfl,q,rfl⟩;obtain ⟨c3,f3⟩:=Qm.out q;obtain ⟨S1,q1,k1,s1⟩:=Qi.out q;have Qj:=yb q1;have Qa:=yb (zak.trans ((zak.refl S w).drewN q) k1 (fun _ h=>.inl h));have Qb:=yb s1;clear q1 k1 s1;go_wp2_with fail
   refine (QE.out _).mono ?_;rintro e w2 ⟨rfl,rfl⟩;rw [show ((k:Int)+1)=((k+1:Nat):Int) from rfl];generalize (w.drewN q).setCell ⟨p,3,none⟩ (.int .i64 ((k+1:Nat):Int))=w2 at *;clear c3 f3;go_wp2_with fail
   go_still_tail 5,(by kernel_rfl)
   go_wp2_with fail
   refine (Ql.out _ _ (Qj.out.drewN 1) 10).mono ?_;rintro e w3 ⟨rfl,hn⟩;have HN:=yb hn;clear hn;go_wp2;go_ret;exact zbV (QT.out 10 (by simp)) (zar.trans (Qa.out.drewN 1) Qb.out HN.out)
  ·have Qp:=Qk 114
   rw [show Lib.indexByte [110,114,116,98,102] 114=1 from rfl] at Qp;have QE:=yb Qp;have HP:=yb hP;clear Qp Qk hP;go_enter Tryz.func185,Tryz.ntmps185
   go_wp2_with fail
   refine HP.out.mono ?_;rintro e w1 ⟨rfl,q,rfl⟩;obtain ⟨c3,f3⟩:=Qm.out q;obtain ⟨S1,q1,k1,s1⟩:=Qi.out q;have Qj:=yb q1;have Qa:=yb (zak.trans ((zak.refl S w).drewN q) k1 (fun _ h=>.inl h));have Qb:=yb s1;clear q1 k1 s1;go_wp2_with fail
   refine (QE.out _).mono ?_;rintro e w2 ⟨rfl,rfl⟩;rw [show ((k:Int)+1)=((k+1:Nat):Int) from rfl];generalize (w.drewN q).setCell ⟨p,3,none⟩ (.int .i64 ((k+1:Nat):Int))=w2 at *;clear c3 f3;go_wp2_with fail
   go_still_tail 5,(by kernel_rfl)
   go_wp2_with fail
   refine (Ql.out _ _ (Qj.out.drewN 1) 13).mono ?_;rintro e w3 ⟨rfl,hn⟩;have HN:=yb hn;clear hn;go_wp2;go_ret;exact zbV (QT.out 13 (by simp)) (zar.trans (Qa.out.drewN 1) Qb.out HN.out)
  ·have Qp:=Qk 116
   rw [show Lib.indexByte [110,114,116,98,102] 116=2 from rfl] at Qp;have QE:=yb Qp;have HP:=yb hP;clear Qp Qk hP;go_enter Tryz.func185,Tryz.ntmps185
   go_wp2_with fail
   refine HP.out.mono ?_;rintro e w1 ⟨rfl,q,rfl⟩;obtain ⟨c3,f3⟩:=Qm.out q;obtain ⟨S1,q1,k1,s1⟩:=Qi.out q;have Qj:=yb q1;have Qa:=yb (zak.trans ((zak.refl S w).drewN q) k1 (fun _ h=>.inl h));have Qb:=yb s1;clear q1 k1 s1;go_wp2_with fail
   refine (QE.out _).mono ?_;rintro e w2 ⟨rfl,rfl⟩;rw [show ((k:Int)+1)=((k+1:Nat):Int) from rfl];generalize (w.drewN q).setCell ⟨p,3,none⟩ (.int .i64 ((k+1:Nat):Int))=w2 at *;clear c3 f3;go_wp2_with fail
   go_still_tail 5,(by kernel_rfl)
   go_wp2_with fail
   refine (Ql.out _ _ (Qj.out.drewN 1) 9).mono ?_;rintro e w3 ⟨rfl,hn⟩;have HN:=yb hn;clear hn;go_wp2;go_ret;exact zbV (QT.out 9 (by simp)) (zar.trans (Qa.out.drewN 1) Qb.out HN.out)
  ·have Qp:=Qk 98
   rw [show Lib.indexByte [110,114,116,98,102] 98=3 from rfl] at Qp;have QE:=yb Qp;have HP:=yb hP;clear Qp Qk hP;go_enter Tryz.func185,Tryz.ntmps185
   go_wp2_with fail
   refine HP.out.mono ?_;rintro e w1 ⟨rfl,q,rfl⟩;obtain ⟨c3,f3⟩:=Qm.out q;obtain ⟨S1,q1,k1,s1⟩:=Qi.out q;have Qj:=yb q1;have Qa:=yb (zak.trans ((zak.refl S w).drewN q) k1 (fun _ h=>.inl h));have Qb:=yb s1;clear q1 k1 s1;go_wp2_with fail
   refine (QE.out _).mono ?_;rintro e w2 ⟨rfl,rfl⟩;rw [show ((k:Int)+1)=((k+1:Nat):Int) from rfl];generalize (w.drewN q).setCell ⟨p,3,none⟩ (.int .i64 ((k+1:Nat):Int))=w2 at *;clear c3 f3;go_wp2_with fail
   go_still_tail 5,(by kernel_rfl)
   go_wp2_with fail
   refine (Ql.out _ _ (Qj.out.drewN 1) 8).mono ?_;rintro e w3 ⟨rfl,hn⟩;have HN:=yb hn;clear hn;go_wp2;go_ret;exact zbV (QT.out 8 (by simp)) (zar.trans (Qa.out.drewN 1) Qb.out HN.out)
  ·have Qp:=Qk 102
   rw [show Lib.indexByte [110,114,116,98,102] 102=4 from rfl] at Qp;have QE:=yb Qp;have HP:=yb hP;clear Qp Qk hP;go_enter Tryz.func185,Tryz.ntmps185
   go_wp2_with fail
   refine HP.out.mono ?_;rintro e w1 ⟨rfl,q,rfl⟩;obtain ⟨c3,f3⟩:=Qm.out q;obtain ⟨S1,q1,k1,s1⟩:=Qi.out q;have Qj:=yb q1;have Qa:=yb (zak.trans ((zak.refl S w).drewN q) k1 (fun _ h=>.inl h));have Qb:=yb s1;clear q1 k1 s1;go_wp2_with fail
   refine (QE.out _).mono ?_;rintro e w2 ⟨rfl,rfl⟩;rw [show ((k:Int)+1)=((k+1:Nat):Int) from rfl];generalize (w.drewN q).setCell ⟨p,3,none⟩ (.int .i64 ((k+1:Nat):Int))=w2 at *;clear c3 f3;go_wp2_with fail
   go_still_tail 5,(by kernel_rfl)
   go_wp2_with fail
   refine (Ql.out _ _ (Qj.out.drewN 1) 12).mono ?_;rintro e w3 ⟨rfl,hn⟩;have HN:=yb hn;clear hn;go_wp2;go_ret;exact zbV (QT.out 12 (by simp)) (zar.trans (Qa.out.drewN 1) Qb.out HN.out)
end Go.Proofs.YtcmoehknppjkiaaGreatDoor
namespace Go.Proofs.YtcmoehknppjkiaaGreatDoor
open Go
theorem jump_mono {P:Program} {Q:Exit->Act->World->Prop} {a:Act} {w:World} {c:Code} {l:Nat} {J J':Act->World->Prop} (h:c.wp P (Exit.jump l J Q) a w) (hJ:∀a w,J a w->J' a w):c.wp P (Exit.jump l J' Q) a w:=by
 refine wp_mono h ?_;intro e a' w' hq
 cases e with
 | goto l'=>exact ⟨hq.1,hJ _ _ hq.2⟩
 | normal=>exact hq
 | exit id=>exact hq
 | ret=>exact hq
 | panic ch=>exact hq
 | outgrown=>exact hq
theorem zcR {P:Program} {Q:Exit->Act->World->Prop} {a:Act} {w:World} {c body:Code} (l:Nat) (I:Nat->Act->World->Prop) (hf:findLabel c l=some (Code.skip.seq body))
  (first:(∀n a w,I n a w->body.wp P (Exit.jump l (fun a w=>∃n,I n a w) Q) a w)->c.wp P (Exit.jump l (fun a w=>∃n,I n a w) Q) a w)
  (pass:∀n a w,I n a w->body.wp P (Exit.jump l (fun a' w'=>∃n',n'<n/\I n' a' w') Q) a w):(Code.scope c).wp P Q a w:=by
 refine wp_scope_jumps l (fun a w=>∃n,I n a w) (fun a w=>leastOf (fun n=>I n a w)) hf (first fun n a w hI=>jump_mono (pass n a w hI) fun a w ⟨n',_,h⟩=>⟨n',h⟩) ?_;intro a w hI;refine wp_seq (wp_skip ?_);refine wp_mono (pass _ a w (leastOf_spec hI).1) ?_;intro e a' w' hq
 cases e with
 | goto l' =>
  obtain ⟨h1,n',Yk,Z1⟩:=hq;exact ⟨h1,⟨n',Z1⟩,Nat.lt_of_le_of_lt ((leastOf_spec ⟨n',Z1⟩).2 n' Z1) Yk⟩
 | normal=>exact hq
 | exit id=>exact hq
 | ret=>exact hq
 | panic ch=>exact hq
 | outgrown=>exact hq
end Go.Proofs.YtcmoehknppjkiaaGreatDoor
namespace Go.Proofs.YtcmoehknppjkiaaGreatDoor
open Go.RowKit
def valC (k n:Int) (s:ByteArray):Array Value:=#[.int .i64 k,.int .i64 n,.string s,.slice none 0 0]
def zbn:ByteArray:=⟨#[]⟩
theorem zev (a b:ByteArray):(a++b).size=a.size+b.size:=ByteArray.size_append
theorem zek (a b:ByteArray):bl (a++b)=bl a++bl b:=by unfold bl;rw [ByteArray.data_append,Array.toList_append]
theorem zcQ (s:ByteArray) (w:World) (hs:s.size<=4611686018427387904) (hd:(bl s).all isDg=true) :
  Calls Tryz.prog 199 #[.string s] w fun e w'=>e=.returned (.int .i64 (mil (bl s):Nat))/\Below w.heap.size w w':=by
 have hD:=fun W=>zc0 ((s++⟨#[48,48,48,48,48,48]⟩).extract 0 6) W;have hb:bl ((s++⟨#[48,48,48,48,48,48]⟩).extract 0 6)=(bl s++List.replicate 6 48).take 6:=by rw [bl_to,zek];rfl
 have Yk:=zgW (bl s) hd
 have hv:zaD ((bl s++List.replicate 6 48).take 6)=(((mil (bl s):Nat):Int),0):=by
  refine zcr ?_ ?_ ?_
  ·intro e;have:=congrArg List.length e;simp at this
  ·rw [List.all_eq_true]
   intro x hx;have hx:=List.mem_of_mem_take hx;rw [List.mem_append] at hx;rcases hx with hx|hx
   ·exact List.all_eq_true.1 hd x hx
   ·rw [List.mem_replicate] at hx;rw [hx.2];rfl
  ·show mil (bl s)<=_;omega
 rw [hb,hv] at hD;have HD:=yb hD;have Z2:(s++⟨#[48,48,48,48,48,48]⟩).size=s.size+6:=by rw [zev];rfl
 clear hD hb hv hd;go_enter Tryz.func199,Tryz.ntmps199
 go_wp2_with (go_at_call 168;refine (HD.out _).mono ?_;rintro e w' ⟨rfl,hb⟩)
 go_ret;exact ⟨rfl,hb⟩
def zbA (s:ByteArray) (m:Nat):Bool:=decide (bl s=[])&&decide (m=0)
theorem zc4 (k n:Int) (s:ByteArray) (a:Option Addr) (m c:Nat) (w:World) (hm:(m:Int)<=9223372036854775807) :
  Calls Tryz.prog 120 #[.agg #[.int .i64 k,.int .i64 n,.string s,.slice a m c]] w fun e w'=>e=.returned (.int .i64 (zaM k n (zbA s m)))/\Below w.heap.size w w':=by
 obtain ⟨V,hV⟩:∃V,V=zaM k n (zbA s m):=⟨_,rfl⟩;rw [<-hV];unfold zaM at hV
 by_cases hk:k=2\/k=3
 ·obtain ⟨L,hL⟩:∃L:Int,L=if k=2 then 2147483647 else 2147483647000000:=⟨_,rfl⟩
  have hk2:(k==2)=decide (k=2):=by by_cases h:k=2<;>simp [h]
  by_cases h1:n < -L
  ·have HV:=yb (show V=2 by rw [hV,yh];rintro ⟨-,h|h⟩<;>(rw [h.1] at hL;simp at hL;omega))
   have HB:=yb (zai w (.cells #[.int .i64 k,.int .i64 n,.string s,.slice a m c] 25));clear hV hk2;rcases hk with rfl|rfl<;>(simp at hL;subst hL)
   all_goals
    go_enter Tryz.func120,Tryz.ntmps120
    go_wp2;go_ret;exact ⟨zaQ HV.out.symm,HB.out⟩
  ·have YX:decide (n < -L)=false:=by simpa using h1
   by_cases h2:L<n
   ·have HV:=yb (show V=2 by rw [hV,yh];rintro ⟨-,h|h⟩<;>(rw [h.1] at hL;simp at hL;omega))
    have HB:=yb (zai w (.cells #[.int .i64 k,.int .i64 n,.string s,.slice a m c] 25));clear hV hk2 h1;rcases hk with rfl|rfl<;>(simp at hL;subst hL)
    all_goals
     go_enter Tryz.func120,Tryz.ntmps120
     go_wp2;go_ret;exact ⟨zaQ HV.out.symm,HB.out⟩
   ·have YY:decide (L<n)=false:=by simpa using h2
    by_cases h3:s.toList=[]
    ·by_cases h4:m=0
     ·have HV:=yb (show V=0 by
       rw [hV,yg];refine ⟨by unfold zbA;rw [<-toL,h3,h4];rfl,?_⟩;rcases hk with h|h<;>rw [h] at hL<;>simp at hL
       ·exact .inl ⟨h,by omega,by omega⟩
       ·exact .inr ⟨h,by omega,by omega⟩)
      have HB:=yb (zai w (.cells #[.int .i64 k,.int .i64 n,.string s,.slice a m c] 25));have Yl:s.toList.isEmpty=true:=by rw [h3];rfl
      clear hV hk2 h1 h2;subst h4;rcases hk with rfl|rfl<;>(simp at hL;subst hL)
      all_goals
       go_enter Tryz.func120,Tryz.ntmps120
       go_wp2;go_ret;exact ⟨zaQ HV.out.symm,HB.out⟩
     ·have HV:=yb (show V=2 by rw [hV,yh];rintro ⟨h,-⟩;unfold zbA at h;simp at h;exact h4 h.2)
      have HB:=yb (zai w (.cells #[.int .i64 k,.int .i64 n,.string s,.slice a m c] 25));have Yl:s.toList.isEmpty=true:=by rw [h3];rfl
      have YZ:(0:Int)<m:=by omega
      have YA:0<m:=by omega
      clear hV hk2 h1 h2 h4;rcases hk with rfl|rfl<;>(simp at hL;subst hL)
      all_goals
       go_enter Tryz.func120,Tryz.ntmps120
       go_wp2;go_ret;exact ⟨zaQ HV.out.symm,HB.out⟩
    ·have HV:=yb (show V=2 by rw [hV,yh];rintro ⟨h,-⟩;unfold zbA at h;rw [<-toL] at h;simp at h;exact h3 h.1)
     have HB:=yb (zai w (.cells #[.int .i64 k,.int .i64 n,.string s,.slice a m c] 25));have Yl:s.toList.isEmpty=false:=by simpa using h3
     clear hV hk2 h1 h2;rcases hk with rfl|rfl<;>(simp at hL;subst hL)
     all_goals
      go_enter Tryz.func120,Tryz.ntmps120
      go_wp2;go_ret;exact ⟨zaQ HV.out.symm,HB.out⟩
 ·have HV:=yb (show V=2 by rw [hV,yh];rintro ⟨-,h|h⟩<;>exact hk (by omega))
  have HB:=yb (zai w (.cells #[.int .i64 k,.int .i64 n,.string s,.slice a m c] 25));have hk2:(k==2)=false:=by rw [yf];omega
  have QN:(k==3)=false:=by rw [yf];omega
  clear hV hk;go_enter Tryz.func120,Tryz.ntmps120
  go_wp2;go_ret;exact ⟨zaQ HV.out.symm,HB.out⟩
theorem zao:(Tryz.prog.info? 25).map (·.size)=some 4:=by kernel_rfl
theorem zaa {P:Program} {fn:Func} {p u:Tmp} {ty:TypeId} (h:fn.results=#[.cell p ty,.tmp u]) (tmps:Array Value) (w:World) (g:Nat) (t:TypeId) (cs:Array Value) (fr:Nat×Nat) (d:TypeDesc)
  (hp:tmps.getD p undef=.pointer (some ⟨g,0,none⟩)) (hg:w.heap[g]?=some (.cells cs t fr))
  (hu:P.underlying ty=some d) (hd:(match d with | .struct _ | .array _ _=>true|_=>false)=true) (hi:(P.info? ty).map (·.size)=some cs.size) (v:Value) (hv:tmps.getD u undef=v) :
  (results fn tmps).run P w=.ok (.tuple #[.agg cs,v]) w:=by
 rw [results_cell_tmp h,hp,hv];simp [asAddr,Result.andThen,run_loadVar_row w g t ty cs fr d hg hu hd hi]
theorem set4 {w:World} {b:Nat} {x0 x1 x2 x3:Value} {t:TypeId} (h:w.heap[b]?=some (.cells #[x0,x1,x2,x3] t (0,0))) (y0 y1 y2 y3:Value) :
  ((((w.setCell ⟨b,0,none⟩ y0).setCell ⟨b,1,none⟩ y1).setCell ⟨b,2,none⟩ y2).setCell ⟨b,3,none⟩ y3).heap[b]?=some (.cells #[y0,y1,y2,y3] t (0,0)):=by
 rw [heap_setCell_same _ _ 3 _ _ _ (heap_setCell_same _ _ 2 _ _ _ (heap_setCell_same _ _ 1 _ _ _ (heap_setCell_same w _ 0 _ _ _ h)))];rfl
theorem zae {B:Nat} {w0 w:World} (h:Below B w0 w) {b:Nat} (hb:B<=b) (y0 y1 y2 y3:Value) :
  Below B w0 ((((w.setCell ⟨b,0,none⟩ y0).setCell ⟨b,1,none⟩ y1).setCell ⟨b,2,none⟩ y2).setCell ⟨b,3,none⟩ y3) :=
 (((h.setCell hb _).setCell hb _).setCell hb _).setCell hb _
theorem zad {w:World} {b:Nat} {x0 x1 x2 x3:Value} {t:TypeId} (h:w.heap[b]?=some (.cells #[x0,x1,x2,x3] t (0,0))) :
  (w.cell? ⟨b,0,none⟩=some x0/\w.cell? ⟨b,1,none⟩=some x1/\w.cell? ⟨b,2,none⟩=some x2/\w.cell? ⟨b,3,none⟩=some x3) /\
  (w.frozen? ⟨b,0,none⟩=false/\w.frozen? ⟨b,1,none⟩=false/\w.frozen? ⟨b,2,none⟩=false/\w.frozen? ⟨b,3,none⟩=false):=by
 refine ⟨⟨?_,?_,?_,?_⟩,frozen_of_row w b 0 _ _ h,frozen_of_row w b 1 _ _ h,frozen_of_row w b 2 _ _ h,frozen_of_row w b 3 _ _ h⟩
 ·rw [cell_of_row w b 0 _ _ _ h];rfl
 ·rw [cell_of_row w b 1 _ _ _ h];rfl
 ·rw [cell_of_row w b 2 _ _ _ h];rfl
 ·rw [cell_of_row w b 3 _ _ _ h];rfl
def zbE (V:Int×Int×Int) (w:World) (e:Ending) (w':World):Prop:=e=.returned (.tuple #[.agg (valC V.1 V.2.1 zbn),.int .i64 V.2.2])/\Below w.heap.size w w'
theorem digits0 (l:List UInt8) (h:l.all isDg=true):zaD (48::l)=if 2147483647<valD l then (0,5) else (((valD l:Nat):Int),0):=by
 have hv:valD (48::l)=valD l:=valD_zl 1 l;have ha:(48::l).all isDg=true:=by rw [List.all_cons,h];rfl
 by_cases ho:2147483647<valD l
 ·rw [yg ho,zdr (by simp) ha (by rw [hv];exact ho)]
 ·rw [yh ho,zcr (by simp) ha (by rw [hv];omega),hv]
theorem zd8 {s:ByteArray} {c:UInt8} (h:hd1 s c=true):(bl s).head?=some c/\1<=s.size:=by
 unfold hd1 at h;have h2:(bl s).head?=some c:=by simpa using h
 refine ⟨h2,?_⟩;have:bl s≠[]:=by intro e;rw [e] at h2;simp at h2
 have h3:=List.length_pos_iff.2 this;rw [zaC] at h3;exact h3
theorem zeg {s:ByteArray} {c:UInt8} (h:hd1 s c=false):(bl s).head?≠some c:=by
 unfold hd1 at h;simpa using h
theorem body_from {s:ByteArray} (h:(bl s).head?=some 45\/(bl s).head?=some 43) (_h1:1<=s.size):bl (s.extract 1 s.size)=zcI (bl s):=by
 unfold zcI;rw [yg h,bl_from,List.drop_one]
theorem parse_any (s:ByteArray) (w:World) (hs:s.size<=400000) :
  Calls Tryz.prog 181 #[.string s] w (zbE (zaP (bl s)) w):=by
 have Ym:(w.alloc (.cells #[.int .i64 0,.int .i64 0,.string ⟨#[]⟩,.slice none 0 0] 25)).heap[w.heap.size]?=some (.cells #[.int .i64 0,.int .i64 0,.string ⟨#[]⟩,.slice none 0 0] 25 (0,0)):=zac _ rfl;have Yn:=zai w (.cells #[.int .i64 0,.int .i64 0,.string ⟨#[]⟩,.slice none 0 0] 25);have Qw:=yb Ym;have Z3:=yb Yn;obtain ⟨V,hV⟩:∃V,V=zaP (bl s):=⟨_,rfl⟩;rw [<-hV];have HV:=yb hV;clear hV Ym Yn;obtain ⟨c1,ZO⟩:∃c,hd1 s 45=c:=⟨_,rfl⟩;obtain ⟨c2,Zd⟩:∃c,hd1 s 43=c:=⟨_,rfl⟩;have ZP:=yb (fun W=>zfY s 45 W (by omega));have Z4:=yb (fun W=>zfY s 43 W (by omega));rw [ZO] at ZP;rw [Zd] at Z4;have Zr:=yb ZO;have Z5:=yb Zd;clear ZO Zd
 cases c1
 case true =>
  have hz:=(zd8 Zr.out).2
  have HS:=yb (show V=zbl (-1) (bl (s.extract 1 s.size)) by
   rw [HV.out,zaP,body_from (.inl (zd8 Zr.out).1) hz];unfold zcD;rw [yg (zd8 Zr.out).1])
  have Z2:(s.extract 1 s.size).size<=400000:=by rw [ByteArray.size_extract];omega
  go_enter Tryz.func181,Tryz.ntmps181
  go_wp2_with (go_at_call 116;refine (ZP.out _).mono ?_;rintro e w' ⟨rfl,rfl⟩)
  go_quiet (fail)
  generalize s.extract 1 s.size=b at *;go_wp2_with fail
  refine (cut_any b _ (by omega)).mono ?_;rintro e w' ⟨F,R,rfl,h1,h2,h3,h4,q,rfl⟩;have Qc:=yb (show (((w.alloc (.cells #[.int .i64 0,.int .i64 0,.string ⟨#[]⟩,.slice none 0 0] 25)).drewN nq).drewN q).heap[w.heap.size]?=some (.cells #[.int .i64 0,.int .i64 0,.string ⟨#[]⟩,.slice none 0 0] 25 (0,0)) from Qw.out);have Qh:=yb (show Below w.heap.size w (((w.alloc (.cells #[.int .i64 0,.int .i64 0,.string ⟨#[]⟩,.slice none 0 0] 25)).drewN nq).drewN q) from zag (zag Z3.out nq) q);generalize (((w.alloc (.cells #[.int .i64 0,.int .i64 0,.string ⟨#[]⟩,.slice none 0 0] 25)).drewN nq).drewN q)=w2 at *;have HF:=yb h1;have HR:=yb h2;obtain ⟨pt,QU⟩:∃pt,zeK (bl b)=pt:=⟨_,rfl⟩;rw [QU];have Zw:=yb QU;clear h1 h2 QU;have Ze:=Qh.out.size;have Qq:=yb (fun W=>ze0 F W);have QD:=yb (fun W=>ze0 R W)
  by_cases hz:F.size+R.size=0
  ·have HL:=yb (show V=(0,0,11) by
    rw [HS.out];unfold zbl;rw [yg (.inl (by rw [<-HF.out,<-HR.out,zaC,zaC];exact hz))])
   have Zx:(((F.size:Int)+(R.size:Int))==0)=true:=by rw [beq_iff_eq];omega
   obtain ⟨⟨k0,k1,k2,k3⟩,f0,f1,f2,f3⟩:=zad Qc.out;go_wp2;refine yi (zaa rfl _ _ w.heap.size 25 _ (0,0) _ rfl (set4 Qc.out _ _ _ _) Tryz.underlying25 rfl zao _ rfl) rfl ⟨?_,zae Qh.out (yp _) _ _ _ _⟩;rw [HL.out];rfl
  ·have Zx:(((F.size:Int)+(R.size:Int))==0)=false:=by rw [yf];omega
   obtain ⟨cF,QV⟩:∃c,(bl F).all isDg=c:=⟨_,rfl⟩;obtain ⟨cR,QW⟩:∃c,(bl R).all isDg=c:=⟨_,rfl⟩;rw [QV] at Qq;rw [QW] at QD;have QX:=yb QV;have QH:=yb QW;clear QV QW
   cases cF
   case false =>
    have HL:=yb (show V=(0,0,11) by
     rw [HS.out];unfold zbl;rw [yg (.inr (.inl (by rw [<-HF.out];exact QX.out)))])
    go_wp2_with fail
    refine (Qq.out _).mono ?_;rintro e w3 ⟨rfl,Qr⟩;have QY:=zab Qr Qc.out;have QZ:=yb (Qh.out.trans (Qr.mono Ze));obtain ⟨⟨k0,k1,k2,k3⟩,f0,f1,f2,f3⟩:=zad QY;have Q0:=yb QY;clear QY Qr;go_wp2;refine yi (zaa rfl _ _ w.heap.size 25 _ (0,0) _ rfl (set4 Q0.out _ _ _ _) Tryz.underlying25 rfl zao _ rfl) rfl ⟨?_,zae QZ.out (yp _) _ _ _ _⟩;rw [HL.out];rfl
   go_wp2_with fail
   refine (Qq.out _).mono ?_;rintro e w3 ⟨rfl,Qr⟩;have Q0:=yb (zab Qr Qc.out);have QZ:=yb (Qh.out.trans (Qr.mono Ze));clear Qr;go_wp2_with fail
   refine (QD.out _).mono ?_;rintro e w4 ⟨rfl,Q1⟩;have Qy:=yb (zab Q1 Q0.out);have QI:=yo QZ Q1;clear Q1
   cases cR
   case false =>
    have HL:=yb (show V=(0,0,11) by
     rw [HS.out];unfold zbl;rw [yg (.inr (.inr (by rw [<-HR.out];exact QH.out)))])
    obtain ⟨⟨k0,k1,k2,k3⟩,f0,f1,f2,f3⟩:=zad Qy.out;go_wp2;refine yi (zaa rfl _ _ w.heap.size 25 _ (0,0) _ rfl (set4 Qy.out _ _ _ _) Tryz.underlying25 rfl zao _ rfl) rfl ⟨?_,zae QI.out (yp _) _ _ _ _⟩;rw [HL.out];rfl
   have hd0:bl (⟨#[48]⟩++F:ByteArray)=48::bl F:=by rw [zek];rfl
   have Qs:=fun W=>zc0 (⟨#[48]⟩++F) W;rw [hd0,digits0 _ QX.out] at Qs;have Qe:=yb Qs
   have HL:=yb (show V=if 2147483647<valD (bl F) then (0,0,5) else if pt=false then (2,(-1:Int)*(valD (bl F):Nat),0) else if 2147483647000000<valD (bl F)*1000000+mil (bl R) then (0,0,5) else (3,(-1:Int)*((valD (bl F)*1000000+mil (bl R):Nat):Int),0) by
    rw [HS.out];unfold zbl
    rw [yh (by
     rintro (h|h|h)
     ·rw [<-HF.out,<-HR.out,zaC,zaC] at h;exact hz h
     ·rw [<-HF.out,QX.out] at h;cases h
     ·rw [<-HR.out,QH.out] at h;cases h),Zw.out,<-HF.out,<-HR.out])
   have Q2:=yb (fun W=>zcQ R W (by omega) QH.out);have ZQ:=zgW (bl R) QH.out;have Zy:(⟨#[48]⟩++F:ByteArray).size=F.size+1:=by rw [zev,Nat.add_comm];rfl
   clear Qs hd0;generalize valD (bl F)=n at *;generalize mil (bl R)=m at *
   by_cases hov:2147483647<n
   ·rw [yg hov] at Qe
    rw [yg hov] at HL;clear hov;go_wp2_with fail
    refine (Qe.out _).mono ?_;rintro e w5 ⟨rfl,Qt⟩;have Qz:=yb (zab Qt Qy.out);have QJ:=yo QI Qt;obtain ⟨⟨k0,k1,k2,k3⟩,f0,f1,f2,f3⟩:=zad Qz.out;clear Qt;go_wp2;refine yi (zaa rfl _ _ w.heap.size 25 _ (0,0) _ rfl (set4 Qz.out _ _ _ _) Tryz.underlying25 rfl zao _ rfl) rfl ⟨?_,zae QJ.out (yp _) _ _ _ _⟩;rw [HL.out];rfl
   rw [yh hov] at Qe;rw [yh hov] at HL;have hn:(n:Int)<=2147483647:=by omega
   clear hov;go_wp2_with fail
   refine (Qe.out _).mono ?_;rintro e w5 ⟨rfl,Qt⟩;have Qz:=yb (zab Qt Qy.out);have QJ:=yo QI Qt;obtain ⟨⟨k0,k1,k2,k3⟩,f0,f1,f2,f3⟩:=zad Qz.out;clear Qt
   cases pt
   case false =>
    rw [yg rfl] at HL;go_wp2;refine yi (zaa rfl _ _ w.heap.size 25 _ (0,0) _ rfl (set4 Qz.out _ _ _ _) Tryz.underlying25 rfl zao _ rfl) rfl ⟨?_,zae QJ.out (yp _) _ _ _ _⟩;rw [HL.out];simp [valC,zbn]
   rw [yh (by decide)] at HL;clear k0 k1 k2 k3 f0 f1 f2 f3;go_wp2_with fail
   refine (Q2.out _).mono ?_;rintro e w6 ⟨rfl,Q3⟩;have Zf:=yb (zab Q3 Qz.out);have Zz:=yo QJ Q3;clear Q3;have ZA:=(Array.getElem?_eq_some_iff.1 Zf.out).1
   have hck:zaM 3 (-((n:Int)*1000000+(m:Int))) (zbA ⟨#[]⟩ 0)=if 2147483647000000<n*1000000+m then 2 else 0:=by
    unfold zaM
    by_cases hb:2147483647000000<n*1000000+m
    ·rw [yg hb,yh];rintro ⟨-,h|h⟩<;>omega
    ·rw [yh hb,yg];exact ⟨rfl,.inr ⟨rfl,by omega,by omega⟩⟩
   have Zg:=yb (fun W=>zc4 3 (-((n:Int)*1000000+(m:Int))) ⟨#[]⟩ none 0 0 W (by omega));rw [hck] at Zg;clear hck;go_wp2_with fail
   refine (Zg.out _).mono ?_;rintro e w7 ⟨rfl,QK⟩;have Q4:=yb (zab QK (zal _ Zf.out));have Zh:=zab QK (zac _ rfl);have Zi:=yb ((Zz.out.alloc (Nat.le_of_lt ZA) (.cells #[.int .i64 3,.int .i64 (-((n:Int)*1000000+(m:Int))),.string ⟨#[]⟩,.slice none 0 0] 25)).trans (QK.mono (by rw [zaq];omega)));obtain ⟨⟨k0,k1,k2,k3⟩,f0,f1,f2,f3⟩:=zad Q4.out;obtain ⟨⟨g0,g1,g2,g3⟩,-⟩:=zad Zh;clear QK Zh
   by_cases hbig:2147483647000000<n*1000000+m
   ·rw [yg hbig] at HL |-
    clear hbig;go_wp2;refine yi (zaa rfl _ _ w.heap.size 25 _ (0,0) _ rfl (set4 Q4.out _ _ _ _) Tryz.underlying25 rfl zao _ rfl) rfl ⟨?_,zae Zi.out (yp _) _ _ _ _⟩;rw [HL.out];rfl
   ·rw [yh hbig] at HL |-
    clear hbig;go_wp2;refine yi (zaa rfl _ _ w.heap.size 25 _ (0,0) _ rfl (set4 Q4.out _ _ _ _) Tryz.underlying25 rfl zao _ rfl) rfl ⟨?_,zae Zi.out (yp _) _ _ _ _⟩;rw [HL.out];simp [valC,zbn]
 case false =>
 cases c2
 case true =>
  have hz:=(zd8 Z5.out).2
  have HS:=yb (show V=zbl 1 (bl (s.extract 1 s.size)) by
   rw [HV.out,zaP,body_from (.inr (zd8 Z5.out).1) hz];unfold zcD;rw [yh (zeg Zr.out)])
  have Z2:(s.extract 1 s.size).size<=400000:=by rw [ByteArray.size_extract];omega
  go_enter Tryz.func181,Tryz.ntmps181
  go_wp2_with (go_at_call 116;first|(refine (ZP.out _).mono ?_;rintro e w' ⟨rfl,rfl⟩)|(refine (Z4.out _).mono ?_;rintro e w' ⟨rfl,rfl⟩))
  generalize s.extract 1 s.size=b at *;go_wp2_with fail
  refine (cut_any b _ (by omega)).mono ?_;rintro e w' ⟨F,R,rfl,h1,h2,h3,h4,q,rfl⟩;have Qc:=yb (show ((w.alloc (.cells #[.int .i64 0,.int .i64 0,.string ⟨#[]⟩,.slice none 0 0] 25)).drewN q).heap[w.heap.size]?=some (.cells #[.int .i64 0,.int .i64 0,.string ⟨#[]⟩,.slice none 0 0] 25 (0,0)) from Qw.out);have Qh:=yb (show Below w.heap.size w ((w.alloc (.cells #[.int .i64 0,.int .i64 0,.string ⟨#[]⟩,.slice none 0 0] 25)).drewN q) from zag Z3.out q);generalize ((w.alloc (.cells #[.int .i64 0,.int .i64 0,.string ⟨#[]⟩,.slice none 0 0] 25)).drewN q)=w2 at *;have HF:=yb h1;have HR:=yb h2;obtain ⟨pt,QU⟩:∃pt,zeK (bl b)=pt:=⟨_,rfl⟩;rw [QU];have Zw:=yb QU;clear h1 h2 QU;have Ze:=Qh.out.size;have Qq:=yb (fun W=>ze0 F W);have QD:=yb (fun W=>ze0 R W)
  by_cases hz:F.size+R.size=0
  ·have HL:=yb (show V=(0,0,11) by
    rw [HS.out];unfold zbl;rw [yg (.inl (by rw [<-HF.out,<-HR.out,zaC,zaC];exact hz))])
   have Zx:(((F.size:Int)+(R.size:Int))==0)=true:=by rw [beq_iff_eq];omega
   obtain ⟨⟨k0,k1,k2,k3⟩,f0,f1,f2,f3⟩:=zad Qc.out;go_wp2;refine yi (zaa rfl _ _ w.heap.size 25 _ (0,0) _ rfl (set4 Qc.out _ _ _ _) Tryz.underlying25 rfl zao _ rfl) rfl ⟨?_,zae Qh.out (yp _) _ _ _ _⟩;rw [HL.out];rfl
  ·have Zx:(((F.size:Int)+(R.size:Int))==0)=false:=by rw [yf];omega
   obtain ⟨cF,QV⟩:∃c,(bl F).all isDg=c:=⟨_,rfl⟩;obtain ⟨cR,QW⟩:∃c,(bl R).all isDg=c:=⟨_,rfl⟩;rw [QV] at Qq;rw [QW] at QD;have QX:=yb QV;have QH:=yb QW;clear QV QW
   cases cF
   case false =>
    have HL:=yb (show V=(0,0,11) by
     rw [HS.out];unfold zbl;rw [yg (.inr (.inl (by rw [<-HF.out];exact QX.out)))])
    go_wp2_with fail
    refine (Qq.out _).mono ?_;rintro e w3 ⟨rfl,Qr⟩;have QY:=zab Qr Qc.out;have QZ:=yb (Qh.out.trans (Qr.mono Ze));obtain ⟨⟨k0,k1,k2,k3⟩,f0,f1,f2,f3⟩:=zad QY;have Q0:=yb QY;clear QY Qr;go_wp2;refine yi (zaa rfl _ _ w.heap.size 25 _ (0,0) _ rfl (set4 Q0.out _ _ _ _) Tryz.underlying25 rfl zao _ rfl) rfl ⟨?_,zae QZ.out (yp _) _ _ _ _⟩;rw [HL.out];rfl
   go_wp2_with fail
   refine (Qq.out _).mono ?_;rintro e w3 ⟨rfl,Qr⟩;have Q0:=yb (zab Qr Qc.out);have QZ:=yb (Qh.out.trans (Qr.mono Ze));clear Qr;go_wp2_with fail
   refine (QD.out _).mono ?_;rintro e w4 ⟨rfl,Q1⟩;have Qy:=yb (zab Q1 Q0.out);have QI:=yo QZ Q1;clear Q1
   cases cR
   case false =>
    have HL:=yb (show V=(0,0,11) by
     rw [HS.out];unfold zbl;rw [yg (.inr (.inr (by rw [<-HR.out];exact QH.out)))])
    obtain ⟨⟨k0,k1,k2,k3⟩,f0,f1,f2,f3⟩:=zad Qy.out;go_wp2;refine yi (zaa rfl _ _ w.heap.size 25 _ (0,0) _ rfl (set4 Qy.out _ _ _ _) Tryz.underlying25 rfl zao _ rfl) rfl ⟨?_,zae QI.out (yp _) _ _ _ _⟩;rw [HL.out];rfl
   have hd0:bl (⟨#[48]⟩++F:ByteArray)=48::bl F:=by rw [zek];rfl
   have Qs:=fun W=>zc0 (⟨#[48]⟩++F) W;rw [hd0,digits0 _ QX.out] at Qs;have Qe:=yb Qs
   have HL:=yb (show V=if 2147483647<valD (bl F) then (0,0,5) else if pt=false then (2,(1:Int)*(valD (bl F):Nat),0) else if 2147483647000000<valD (bl F)*1000000+mil (bl R) then (0,0,5) else (3,(1:Int)*((valD (bl F)*1000000+mil (bl R):Nat):Int),0) by
    rw [HS.out];unfold zbl
    rw [yh (by
     rintro (h|h|h)
     ·rw [<-HF.out,<-HR.out,zaC,zaC] at h;exact hz h
     ·rw [<-HF.out,QX.out] at h;cases h
     ·rw [<-HR.out,QH.out] at h;cases h),Zw.out,<-HF.out,<-HR.out])
   have Q2:=yb (fun W=>zcQ R W (by omega) QH.out);have ZQ:=zgW (bl R) QH.out;have Zy:(⟨#[48]⟩++F:ByteArray).size=F.size+1:=by rw [zev,Nat.add_comm];rfl
   clear Qs hd0;generalize valD (bl F)=n at *;generalize mil (bl R)=m at *
   by_cases hov:2147483647<n
   ·rw [yg hov] at Qe
    rw [yg hov] at HL;clear hov;go_wp2_with fail
    refine (Qe.out _).mono ?_;rintro e w5 ⟨rfl,Qt⟩;have Qz:=yb (zab Qt Qy.out);have QJ:=yo QI Qt;obtain ⟨⟨k0,k1,k2,k3⟩,f0,f1,f2,f3⟩:=zad Qz.out;clear Qt;go_wp2;refine yi (zaa rfl _ _ w.heap.size 25 _ (0,0) _ rfl (set4 Qz.out _ _ _ _) Tryz.underlying25 rfl zao _ rfl) rfl ⟨?_,zae QJ.out (yp _) _ _ _ _⟩;rw [HL.out];rfl
   rw [yh hov] at Qe;rw [yh hov] at HL;have hn:(n:Int)<=2147483647:=by omega
   clear hov;go_wp2_with fail
   refine (Qe.out _).mono ?_;rintro e w5 ⟨rfl,Qt⟩;have Qz:=yb (zab Qt Qy.out);have QJ:=yo QI Qt;obtain ⟨⟨k0,k1,k2,k3⟩,f0,f1,f2,f3⟩:=zad Qz.out;clear Qt
   cases pt
   case false =>
    rw [yg rfl] at HL;go_wp2;refine yi (zaa rfl _ _ w.heap.size 25 _ (0,0) _ rfl (set4 Qz.out _ _ _ _) Tryz.underlying25 rfl zao _ rfl) rfl ⟨?_,zae QJ.out (yp _) _ _ _ _⟩;rw [HL.out];simp [valC,zbn]
   rw [yh (by decide)] at HL;clear k0 k1 k2 k3 f0 f1 f2 f3;go_wp2_with fail
   refine (Q2.out _).mono ?_;rintro e w6 ⟨rfl,Q3⟩;have Zf:=yb (zab Q3 Qz.out);have Zz:=yo QJ Q3;clear Q3;have ZA:=(Array.getElem?_eq_some_iff.1 Zf.out).1
   have hck:zaM 3 ((n:Int)*1000000+(m:Int)) (zbA ⟨#[]⟩ 0)=if 2147483647000000<n*1000000+m then 2 else 0:=by
    unfold zaM
    by_cases hb:2147483647000000<n*1000000+m
    ·rw [yg hb,yh];rintro ⟨-,h|h⟩<;>omega
    ·rw [yh hb,yg];exact ⟨rfl,.inr ⟨rfl,by omega,by omega⟩⟩
   have Zg:=yb (fun W=>zc4 3 ((n:Int)*1000000+(m:Int)) ⟨#[]⟩ none 0 0 W (by omega));rw [hck] at Zg;clear hck;go_wp2_with fail
   refine (Zg.out _).mono ?_;rintro e w7 ⟨rfl,QK⟩;have Q4:=yb (zab QK (zal _ Zf.out));have Zh:=zab QK (zac _ rfl);have Zi:=yb ((Zz.out.alloc (Nat.le_of_lt ZA) (.cells #[.int .i64 3,.int .i64 ((n:Int)*1000000+(m:Int)),.string ⟨#[]⟩,.slice none 0 0] 25)).trans (QK.mono (by rw [zaq];omega)));obtain ⟨⟨k0,k1,k2,k3⟩,f0,f1,f2,f3⟩:=zad Q4.out;obtain ⟨⟨g0,g1,g2,g3⟩,-⟩:=zad Zh;clear QK Zh
   by_cases hbig:2147483647000000<n*1000000+m
   ·rw [yg hbig] at HL |-
    clear hbig;go_wp2;refine yi (zaa rfl _ _ w.heap.size 25 _ (0,0) _ rfl (set4 Q4.out _ _ _ _) Tryz.underlying25 rfl zao _ rfl) rfl ⟨?_,zae Zi.out (yp _) _ _ _ _⟩;rw [HL.out];rfl
   ·rw [yh hbig] at HL |-
    clear hbig;go_wp2;refine yi (zaa rfl _ _ w.heap.size 25 _ (0,0) _ rfl (set4 Q4.out _ _ _ _) Tryz.underlying25 rfl zao _ rfl) rfl ⟨?_,zae Zi.out (yp _) _ _ _ _⟩;rw [HL.out];simp [valC,zbn]
 case false =>
  have HS:=yb (show V=zbl 1 (bl s) by
   rw [HV.out,zaP,show zcI (bl s)=bl s from by unfold zcI;rw [yh (by rintro (h|h);exact zeg Zr.out h;exact zeg Z5.out h)]];unfold zcD;rw [yh (zeg Zr.out)])
  have Z2:=hs;obtain ⟨b,hb⟩:∃b,b=s:=⟨_,rfl⟩;rw [<-hb] at HS;go_enter Tryz.func181,Tryz.ntmps181
  go_wp2_with (go_at_call 116;first|(refine (ZP.out _).mono ?_;rintro e w' ⟨rfl,rfl⟩)|(refine (Z4.out _).mono ?_;rintro e w' ⟨rfl,rfl⟩))
  subst hb;go_wp2_with fail
  refine (cut_any b _ (by omega)).mono ?_;rintro e w' ⟨F,R,rfl,h1,h2,h3,h4,q,rfl⟩;have Qc:=yb (show ((w.alloc (.cells #[.int .i64 0,.int .i64 0,.string ⟨#[]⟩,.slice none 0 0] 25)).drewN q).heap[w.heap.size]?=some (.cells #[.int .i64 0,.int .i64 0,.string ⟨#[]⟩,.slice none 0 0] 25 (0,0)) from Qw.out);have Qh:=yb (show Below w.heap.size w ((w.alloc (.cells #[.int .i64 0,.int .i64 0,.string ⟨#[]⟩,.slice none 0 0] 25)).drewN q) from zag Z3.out q);generalize ((w.alloc (.cells #[.int .i64 0,.int .i64 0,.string ⟨#[]⟩,.slice none 0 0] 25)).drewN q)=w2 at *;have HF:=yb h1;have HR:=yb h2;obtain ⟨pt,QU⟩:∃pt,zeK (bl b)=pt:=⟨_,rfl⟩;rw [QU];have Zw:=yb QU;clear h1 h2 QU;have Ze:=Qh.out.size;have Qq:=yb (fun W=>ze0 F W);have QD:=yb (fun W=>ze0 R W)
  by_cases hz:F.size+R.size=0
  ·have HL:=yb (show V=(0,0,11) by
    rw [HS.out];unfold zbl;rw [yg (.inl (by rw [<-HF.out,<-HR.out,zaC,zaC];exact hz))])
   have Zx:(((F.size:Int)+(R.size:Int))==0)=true:=by rw [beq_iff_eq];omega
   obtain ⟨⟨k0,k1,k2,k3⟩,f0,f1,f2,f3⟩:=zad Qc.out;go_wp2;refine yi (zaa rfl _ _ w.heap.size 25 _ (0,0) _ rfl (set4 Qc.out _ _ _ _) Tryz.underlying25 rfl zao _ rfl) rfl ⟨?_,zae Qh.out (yp _) _ _ _ _⟩;rw [HL.out];rfl
  ·have Zx:(((F.size:Int)+(R.size:Int))==0)=false:=by rw [yf];omega
   obtain ⟨cF,QV⟩:∃c,(bl F).all isDg=c:=⟨_,rfl⟩;obtain ⟨cR,QW⟩:∃c,(bl R).all isDg=c:=⟨_,rfl⟩;rw [QV] at Qq;rw [QW] at QD;have QX:=yb QV;have QH:=yb QW;clear QV QW
   cases cF
   case false =>
    have HL:=yb (show V=(0,0,11) by
     rw [HS.out];unfold zbl;rw [yg (.inr (.inl (by rw [<-HF.out];exact QX.out)))])
    go_wp2_with fail
    refine (Qq.out _).mono ?_;rintro e w3 ⟨rfl,Qr⟩;have QY:=zab Qr Qc.out;have QZ:=yb (Qh.out.trans (Qr.mono Ze));obtain ⟨⟨k0,k1,k2,k3⟩,f0,f1,f2,f3⟩:=zad QY;have Q0:=yb QY;clear QY Qr;go_wp2;refine yi (zaa rfl _ _ w.heap.size 25 _ (0,0) _ rfl (set4 Q0.out _ _ _ _) Tryz.underlying25 rfl zao _ rfl) rfl ⟨?_,zae QZ.out (yp _) _ _ _ _⟩;rw [HL.out];rfl
   go_wp2_with fail
   refine (Qq.out _).mono ?_;rintro e w3 ⟨rfl,Qr⟩;have Q0:=yb (zab Qr Qc.out);have QZ:=yb (Qh.out.trans (Qr.mono Ze));clear Qr;go_wp2_with fail
   refine (QD.out _).mono ?_;rintro e w4 ⟨rfl,Q1⟩;have Qy:=yb (zab Q1 Q0.out);have QI:=yo QZ Q1;clear Q1
   cases cR
   case false =>
    have HL:=yb (show V=(0,0,11) by
     rw [HS.out];unfold zbl;rw [yg (.inr (.inr (by rw [<-HR.out];exact QH.out)))])
    obtain ⟨⟨k0,k1,k2,k3⟩,f0,f1,f2,f3⟩:=zad Qy.out;go_wp2;refine yi (zaa rfl _ _ w.heap.size 25 _ (0,0) _ rfl (set4 Qy.out _ _ _ _) Tryz.underlying25 rfl zao _ rfl) rfl ⟨?_,zae QI.out (yp _) _ _ _ _⟩;rw [HL.out];rfl
   have hd0:bl (⟨#[48]⟩++F:ByteArray)=48::bl F:=by rw [zek];rfl
   have Qs:=fun W=>zc0 (⟨#[48]⟩++F) W;rw [hd0,digits0 _ QX.out] at Qs;have Qe:=yb Qs
   have HL:=yb (show V=if 2147483647<valD (bl F) then (0,0,5) else if pt=false then (2,(1:Int)*(valD (bl F):Nat),0) else if 2147483647000000<valD (bl F)*1000000+mil (bl R) then (0,0,5) else (3,(1:Int)*((valD (bl F)*1000000+mil (bl R):Nat):Int),0) by
    rw [HS.out];unfold zbl
    rw [yh (by
     rintro (h|h|h)
     ·rw [<-HF.out,<-HR.out,zaC,zaC] at h;exact hz h
     ·rw [<-HF.out,QX.out] at h;cases h
     ·rw [<-HR.out,QH.out] at h;cases h),Zw.out,<-HF.out,<-HR.out])
   have Q2:=yb (fun W=>zcQ R W (by omega) QH.out);have ZQ:=zgW (bl R) QH.out;have Zy:(⟨#[48]⟩++F:ByteArray).size=F.size+1:=by rw [zev,Nat.add_comm];rfl
   clear Qs hd0;generalize valD (bl F)=n at *;generalize mil (bl R)=m at *
   by_cases hov:2147483647<n
   ·rw [yg hov] at Qe
    rw [yg hov] at HL;clear hov;go_wp2_with fail
    refine (Qe.out _).mono ?_;rintro e w5 ⟨rfl,Qt⟩;have Qz:=yb (zab Qt Qy.out);have QJ:=yo QI Qt;obtain ⟨⟨k0,k1,k2,k3⟩,f0,f1,f2,f3⟩:=zad Qz.out;clear Qt;go_wp2;refine yi (zaa rfl _ _ w.heap.size 25 _ (0,0) _ rfl (set4 Qz.out _ _ _ _) Tryz.underlying25 rfl zao _ rfl) rfl ⟨?_,zae QJ.out (yp _) _ _ _ _⟩;rw [HL.out];rfl
   rw [yh hov] at Qe;rw [yh hov] at HL;have hn:(n:Int)<=2147483647:=by omega
   clear hov;go_wp2_with fail
   refine (Qe.out _).mono ?_;rintro e w5 ⟨rfl,Qt⟩;have Qz:=yb (zab Qt Qy.out);have QJ:=yo QI Qt;obtain ⟨⟨k0,k1,k2,k3⟩,f0,f1,f2,f3⟩:=zad Qz.out;clear Qt
   cases pt
   case false =>
    rw [yg rfl] at HL;go_wp2;refine yi (zaa rfl _ _ w.heap.size 25 _ (0,0) _ rfl (set4 Qz.out _ _ _ _) Tryz.underlying25 rfl zao _ rfl) rfl ⟨?_,zae QJ.out (yp _) _ _ _ _⟩;rw [HL.out];simp [valC,zbn]
   rw [yh (by decide)] at HL;clear k0 k1 k2 k3 f0 f1 f2 f3;go_wp2_with fail
   refine (Q2.out _).mono ?_;rintro e w6 ⟨rfl,Q3⟩;have Zf:=yb (zab Q3 Qz.out);have Zz:=yo QJ Q3;clear Q3;have ZA:=(Array.getElem?_eq_some_iff.1 Zf.out).1
   have hck:zaM 3 ((n:Int)*1000000+(m:Int)) (zbA ⟨#[]⟩ 0)=if 2147483647000000<n*1000000+m then 2 else 0:=by
    unfold zaM
    by_cases hb:2147483647000000<n*1000000+m
    ·rw [yg hb,yh];rintro ⟨-,h|h⟩<;>omega
    ·rw [yh hb,yg];exact ⟨rfl,.inr ⟨rfl,by omega,by omega⟩⟩
   have Zg:=yb (fun W=>zc4 3 ((n:Int)*1000000+(m:Int)) ⟨#[]⟩ none 0 0 W (by omega));rw [hck] at Zg;clear hck;go_wp2_with fail
   refine (Zg.out _).mono ?_;rintro e w7 ⟨rfl,QK⟩;have Q4:=yb (zab QK (zal _ Zf.out));have Zh:=zab QK (zac _ rfl);have Zi:=yb ((Zz.out.alloc (Nat.le_of_lt ZA) (.cells #[.int .i64 3,.int .i64 ((n:Int)*1000000+(m:Int)),.string ⟨#[]⟩,.slice none 0 0] 25)).trans (QK.mono (by rw [zaq];omega)));obtain ⟨⟨k0,k1,k2,k3⟩,f0,f1,f2,f3⟩:=zad Q4.out;obtain ⟨⟨g0,g1,g2,g3⟩,-⟩:=zad Zh;clear QK Zh
   by_cases hbig:2147483647000000<n*1000000+m
   ·rw [yg hbig] at HL |-
    clear hbig;go_wp2;refine yi (zaa rfl _ _ w.heap.size 25 _ (0,0) _ rfl (set4 Q4.out _ _ _ _) Tryz.underlying25 rfl zao _ rfl) rfl ⟨?_,zae Zi.out (yp _) _ _ _ _⟩;rw [HL.out];rfl
   ·rw [yh hbig] at HL |-
    clear hbig;go_wp2;refine yi (zaa rfl _ _ w.heap.size 25 _ (0,0) _ rfl (set4 Q4.out _ _ _ _) Tryz.underlying25 rfl zao _ rfl) rfl ⟨?_,zae Zi.out (yp _) _ _ _ _⟩;rw [HL.out];simp [valC,zbn]
def TxtEnd (w:World) (S:Nat->Prop) (p:Nat) (X:Src) (V:Option (List UInt8×List UInt8)) (e:Ending) (w':World):Prop :=
 zak S w w'/\match V with
 | none=>e=.returned (.tuple #[.agg (valC 0 0 zbn),.int .i64 (zbf X.yq)])
 | some (x,t)=>e=.returned (.tuple #[.agg (valC 4 0 (mkB x)),.int .i64 0])/\t.length<=X.bs.length/\w'.cell? ⟨p,3,none⟩=some (.int .i64 ((X.bs.length-t.length:Nat):Int))
theorem textV_nil (yq:Bool) (D:Nat) (out:List UInt8):zbe yq D out []=none:=by rw [zbe]
theorem textV_esc (yq:Bool) (D:Nat) (out:List UInt8) (t:List UInt8):zbe yq D out (92::t)=match escV yq t with|none=>none|some (x,k)=>zbe yq D (out++x) (t.drop k):=by rw [zbe];rfl
theorem textV_nl (yq:Bool) (D:Nat) (out:List UInt8) (t:List UInt8):zbe yq D out (13::t)=match zee yq t with|none=>none|some k=>zbe yq D (out++[10]) (t.drop k):=by rw [zbe];rfl
theorem textV_in (yq:Bool) (D:Nat) (out:List UInt8) (t:List UInt8):zbe yq D out (40::t)=zbe yq (D+1) (out++[40]) t:=by rw [zbe];rfl
theorem textV_out (yq:Bool) (D:Nat) (out:List UInt8) (t:List UInt8):zbe yq D out (41::t)=if D=1 then some (out,t) else zbe yq (D-1) (out++[41]) t:=by rw [zbe];rfl
theorem zhf (yq:Bool) (D:Nat) (out:List UInt8) (c:UInt8) (t:List UInt8) (h1:c≠92) (h2:c≠13) (h3:c≠40) (h4:c≠41):zbe yq D out (c::t)=zbe yq D (out++[c]) t:=by
 rw [zbe,yh h1,yh h2,yh h3,yh h4]
structure TxtAt (W0:World) (S:Nat->Prop) (p:Nat) (X:Src) (V:Option (List UInt8×List UInt8)) (D k:Nat) (out:List UInt8) (w':World):Prop where
 d1:1<=D
 d2:D<=k
 o:out.length<k
 le:k<=X.bs.length
 sc:zar W0 S p X out k w'
 v:V=zbe X.yq D out (X.bs.drop k)
def TxtI (W0:World) (S:Nat->Prop) (p:Nat) (X:Src) (V:Option (List UInt8×List UInt8)) (r:Nat) (m:Nat) (a:Act) (w':World):Prop :=
 ∃(D k:Nat) (out:List UInt8) (u5 u6 u7 u8 u9 u10 u11 u12 u13 u14 u15 u16 u17 u18 u19 u20 u21 u22 u23 u24 u25 u26 u27 u28 u29 u30 u31 u32 u33 u34 u35 u36 u37 u38 u39 u40 u41 u42 u43 u44 u45 u46 u47 u48 u49 u50 u51 u52 u53 u54 u55 u56 u57 u58 u59 u60 u61:Value),m=X.bs.length-k/\Hid (TxtAt W0 S p X V D k out w')/\a={ tmps:=#[.pointer (some ⟨p,0,none⟩),undef,.pointer (some ⟨r,0,none⟩),.int .i64 0,.int .i64 D,u5,u6,u7,u8,u9,u10,u11,u12,u13,u14,u15,u16,u17,u18,u19,u20,u21,u22,u23,u24,u25,u26,u27,u28,u29,u30,u31,u32,u33,u34,u35,u36,u37,u38,u39,u40,u41,u42,u43,u44,u45,u46,u47,u48,u49,u50,u51,u52,u53,u54,u55,u56,u57,u58,u59,u60,u61],defers:=[] }
theorem zbv {S:Nat->Prop} {w W:World} (h:zak S w W) {r:Nat} (hr:w.heap.size<=r) (y0 y1 y2 y3:Value) :
  zak S w ((((W.setCell ⟨r,0,none⟩ y0).setCell ⟨r,1,none⟩ y1).setCell ⟨r,2,none⟩ y2).setCell ⟨r,3,none⟩ y3) :=
 (((h.setCell (.inr hr) _).setCell (.inr hr) _).setCell (.inr hr) _).setCell (.inr hr) _
theorem zbp {W:World} {b r:Nat} (hb:b≠r) (y0 y1 y2 y3:Value) :
  ((((W.setCell ⟨r,0,none⟩ y0).setCell ⟨r,1,none⟩ y1).setCell ⟨r,2,none⟩ y2).setCell ⟨r,3,none⟩ y3).heap[b]?=W.heap[b]?:=by
 rw [heap_setCell_other _ _ _ _ hb,heap_setCell_other _ _ _ _ hb,heap_setCell_other _ _ _ _ hb,heap_setCell_other _ _ _ _ hb]
theorem zhP {w w':World} {S:Nat->Prop} {p:Nat} {X:Src} {V:Option (List UInt8×List UInt8)} (hV:V=none) (hk:zak S w w'):TxtEnd w S p X V (.returned (.tuple #[.agg (valC 0 0 zbn),.int .i64 (zbf X.yq)])) w':=by
 subst hV;exact ⟨hk,rfl⟩
theorem txt_some {w w':World} {S:Nat->Prop} {p:Nat} {X:Src} {V:Option (List UInt8×List UInt8)} {x t:List UInt8} (hV:V=some (x,t)) (hk:zak S w w') (ht:t.length<=X.bs.length)
  (hc:w'.cell? ⟨p,3,none⟩=some (.int .i64 ((X.bs.length-t.length:Nat):Int))):TxtEnd w S p X V (.returned (.tuple #[.agg (valC 4 0 (mkB x)),.int .i64 0])) w':=by
 subst hV;exact ⟨hk,rfl,ht,hc⟩
theorem esc_len (X:Src) (out:List UInt8) (k:Nat) (o2:List UInt8) (k2:Nat) (h:zcS X out k=some (o2,k2)):o2.length<=out.length+1/\k<k2:=by
 unfold zcS at h;rw [Option.map_eq_some_iff] at h;obtain ⟨⟨x,j⟩,hx,he⟩:=h;simp only [Prod.mk.injEq] at he;obtain ⟨rfl,rfl⟩:=he
 have:x.length<=1/\1<=j:=by
  cases hd:X.bs.drop k with
  | nil=>rw [hd] at hx;simp [escV] at hx
  | cons c t =>
   rw [hd] at hx;rcases esc_idx c with ⟨-,n1,n2,n3,n4,n5⟩|rfl|rfl|rfl|rfl|rfl
   ·rw [zfw _ _ _ n1 n2 n3 n4 n5] at hx
    split at hx
    ·rw [octV_go,Option.map_map,Option.map_eq_some_iff] at hx
     obtain ⟨y,-,hy⟩:=hx;simp only [Function.comp,Prod.mk.injEq] at hy;obtain ⟨rfl,rfl⟩:=hy;exact ⟨by simp,by omega⟩
    ·split at hx
     ·simp at hx;obtain ⟨rfl,rfl⟩:=hx;simp
     ·split at hx
      ·rw [Option.map_eq_some_iff] at hx
       obtain ⟨y,-,hy⟩:=hx;simp only [Prod.mk.injEq] at hy;obtain ⟨rfl,rfl⟩:=hy;exact ⟨by simp,by omega⟩
      ·simp at hx;obtain ⟨rfl,rfl⟩:=hx;simp
   all_goals (simp [escV] at hx;obtain ⟨rfl,rfl⟩:=hx;simp)
 refine ⟨by rw [List.length_append];omega,by omega⟩
set_option maxHeartbeats 16000000 in
theorem text_any {w:World} {S:Nat->Prop} {p:Nat} {X:Src} {k:Nat} (h:ScQ w S p X [] k) (hk:1<=k) :
  Calls Tryz.prog 165 #[.pointer (some ⟨p,0,none⟩)] w (TxtEnd w S p X (zbe X.yq 1 [] (X.bs.drop k))):=by
 obtain ⟨V,hV⟩:∃V,V=zbe X.yq 1 [] (X.bs.drop k):=⟨_,rfl⟩;rw [<-hV];obtain ⟨r,hr⟩:∃r,r=w.heap.size:=⟨_,rfl⟩;have Zt:X.bs.length<=400000:=by obtain ⟨_,_,h⟩:=h;exact h.small
 have ZB:¬S r:=by obtain ⟨_,_,h⟩:=h;intro e;have:=(h.lt r e).2;omega
 have ZR:k<=X.bs.length:=by obtain ⟨_,_,h⟩:=h;exact h.le
 have Qw:=yb (show (w.alloc (.cells #[.int .i64 0,.int .i64 0,.string ⟨#[]⟩,.slice none 0 0] 25)).heap[r]?=some (.cells #[.int .i64 0,.int .i64 0,.string ⟨#[]⟩,.slice none 0 0] 25 (0,0)) from zac _ hr);have Q9:=yb (show zak S w (w.alloc (.cells #[.int .i64 0,.int .i64 0,.string ⟨#[]⟩,.slice none 0 0] 25)) from (zak.refl S w).alloc _);have ZC:=h.keep (zai w (.cells #[.int .i64 0,.int .i64 0,.string ⟨#[]⟩,.slice none 0 0] 25));have ZD:=yb (show TxtAt (w.alloc (.cells #[.int .i64 0,.int .i64 0,.string ⟨#[]⟩,.slice none 0 0] 25)) S p X V 1 k [] _ from ⟨by omega,hk,by simp;omega,ZR,zar.refl ZC,hV⟩);have HR:=yb hr;have QA:=yb ZB;have ZS:=yb (show S p from (let ⟨_,_,h⟩:=h;h.own));have QO:=yb (show w.heap.size<=r by omega);clear hV hr ZB h hk ZC;go_enter Tryz.func165,Tryz.ntmps165
 go_wp2;rw [<-HR.out];generalize w.alloc (.cells #[.int .i64 0,.int .i64 0,.string ⟨#[]⟩,.slice none 0 0] 25)=W0 at *;refine zcR 0 (TxtI W0 S p X V r) rfl ?first ?pass
 case first =>
  intro hpass;have Q5:=yb hpass;clear hpass;go_wp2;refine wp_label ?_
  rename_i K hK
  exact hK _ _ (Q5.out _ _ _ ⟨1,k,[],_,_,_,_,_,_,_,_,_,_,_,_,_,_,_,_,_,_,_,_,_,_,_,_,_,_,_,_,_,_,_,_,_,_,_,_,_,_,_,_,_,_,_,_,_,_,_,_,_,_,_,_,_,_,_,_,_,rfl,ZD,rfl⟩)
 case pass =>
  rintro m a w' ⟨D,k,out,u5,u6,u7,u8,u9,u10,u11,u12,u13,u14,u15,u16,u17,u18,u19,u20,u21,u22,u23,u24,u25,u26,u27,u28,u29,u30,u31,u32,u33,u34,u35,u36,u37,u38,u39,u40,u41,u42,u43,u44,u45,u46,u47,u48,u49,u50,u51,u52,u53,u54,u55,u56,u57,u58,u59,u60,u61,hm,HA,rfl⟩;obtain ⟨S1,Qo,QL,QP⟩:=HA.out.sc;have hd1:=HA.out.d1;have Zu:=HA.out.d2;have ho:=HA.out.o;have YB:=HA.out.le;have HV:=yb HA.out.v;have Qj:=yb Qo;have Qa:=yb QL;have Qb:=yb QP;have Z6:=yb (QL.obj Qw.out QA.out);have HM:=yb hm;have hP:=zdf Qo;unfold zfl u8C at hP;clear QL QP hm ZD HA
  by_cases hkn:k<X.bs.length
  case neg =>
   rw [yh hkn] at hP;have HP:=yb hP;have Qf:=yb (show V=none by rw [HV.out,zbm hkn];exact textV_nil _ _ _);have HO:=yb (fun q=>zei (Qo.drewN q));clear hP Qo hkn;go_wp2_with fail
   refine HP.out.mono ?_;rintro e w1 ⟨rfl,q,rfl⟩;go_wp2_with fail
   refine (HO.out q).mono ?_;rintro e w2 ⟨rfl,rfl⟩;have Qh:=yb (show (w'.drewN q).heap[r]?=_ from Z6.out);obtain ⟨⟨k0,k1,k2,k3⟩,f0,f1,f2,f3⟩:=zad Qh.out;have Qc:=yb (zak.trans Q9.out (zak.trans Qa.out ((zak.refl S1 w').drewN q) Qb.out) (fun _ h=>.inl h));generalize w'.drewN q=w2 at *;have Qu:=Qh;have Qv:=Qc;obtain ⟨⟨k0,k1,k2,k3⟩,f0,f1,f2,f3⟩:=zad Qu.out;go_wp2;simp only [Exit.jump];refine yi (zaa rfl _ _ r 25 _ (0,0) _ rfl (set4 Qu.out _ _ _ _) Tryz.underlying25 rfl zao _ rfl) rfl ?_;exact zhP Qf.out (zbv Qv.out QO.out _ _ _ _)
  case pos =>
   rw [yg hkn] at hP;have hv:=HV.out;rw [zay hkn] at hv;have Qi:=yb (fun q=>(let ⟨_,_,h1⟩:=Qo.drewN q;h1.move (k+1) (by omega) (by omega)));have Qm:=yb (fun q=>(let ⟨_,_,h1⟩:=Qo.drewN q;(And.intro h1.cells.2.2.2.1 (h1.free 3))));have HP:=yb hP;obtain ⟨c,hc⟩:∃c,c=X.bs.getD k 0:=⟨_,rfl⟩;rw [<-hc] at HP hv;clear hP hc Qo
   by_cases h92:c=92
   ·subst h92
    rw [textV_esc] at hv;have ZE:=yb hv;clear hv;go_wp2_with fail
    refine HP.out.mono ?_;rintro e w1 ⟨rfl,q,rfl⟩;obtain ⟨c3,f3⟩:=Qm.out q;obtain ⟨S2,q2,k2,s2⟩:=Qi.out q;have Qn:=yb q2;have Qc:=yb (zak.trans Qa.out (zak.trans ((zak.refl S1 w').drewN q) k2 (fun _ h=>.inl h)) Qb.out);have Qg:=yb (fun b (hb:S2 b)=>(s2 b hb).elim (Qb.out b) (fun h=>Or.inr (Nat.le_trans Qa.out.size h)));clear q2 k2 s2;go_wp2_with fail
    rw [show ((k:Int)+1)=((k+1:Nat):Int) from rfl];generalize (w'.drewN q).setCell ⟨p,3,none⟩ (.int .i64 ((k+1:Nat):Int))=w2 at *;clear c3 f3;have HO:=yb (escape_any Qn.out (by omega));go_wp2_with fail
    refine HO.out.mono ?_;rintro e w3 hstep;have Qd:=yb hstep;clear hstep
    cases hES:zcS X out (k+1) with
    | none =>
     rw [hES] at Qd;obtain ⟨rfl,o2,k2,hn⟩:=Qd.out;have Q6:=yb (zar.trans Qc.out Qg.out hn)
     have Qf:=yb (show V=none by
      unfold zcS at hES;rw [Option.map_eq_none_iff] at hES;rw [ZE.out,hES])
     clear Qd hn hES;obtain ⟨S9,QB,QC,QF⟩:=Q6.out;have YC:=yb QB;have Qu:=yb (QC.obj Qw.out QA.out);have Qv:=yb (zak.trans Q9.out QC (fun _ h=>.inl h));have Z7:=yb (zei QB);clear QB QC QF;go_wp2_with fail
     refine (Z7.out).mono ?_;rintro e w9 ⟨rfl,rfl⟩;obtain ⟨⟨k0,k1,k2,k3⟩,f0,f1,f2,f3⟩:=zad Qu.out;go_wp2;simp only [Exit.jump];refine yi (zaa rfl _ _ r 25 _ (0,0) _ rfl (set4 Qu.out _ _ _ _) Tryz.underlying25 rfl zao _ rfl) rfl ?_;exact zhP Qf.out (zbv Qv.out QO.out _ _ _ _)
    | some ok =>
     obtain ⟨o2,k2⟩:=ok;rw [hES] at Qd;obtain ⟨rfl,hn⟩:=Qd.out;have Y0:=esc_len X out (k+1) o2 k2 hES;have Za:=yb (zar.trans Qc.out Qg.out hn);have ZF:k2<=X.bs.length:=by obtain ⟨_,⟨_,_,h⟩,_⟩:=hn;exact h.le
     have Qx:=yb (show V=zbe X.yq D o2 (X.bs.drop k2) by
      unfold zcS at hES;rw [Option.map_eq_some_iff] at hES;obtain ⟨⟨x,j⟩,e1,e2⟩:=hES;simp only [Prod.mk.injEq] at e2;obtain ⟨rfl,rfl⟩:=e2;rw [ZE.out,e1];simp only;rw [List.drop_drop])
     clear Qd hn hES;go_wp2
     go_step3
     exact ⟨rfl,X.bs.length-k2,by have:=HM.out;omega,D,k2,o2,_,_,_,_,_,_,_,_,_,_,_,_,_,_,_,_,_,_,_,_,_,_,_,_,_,_,_,_,_,_,_,_,_,_,_,_,_,_,_,_,_,_,_,_,_,_,_,_,_,_,_,_,_,_,_,_,_,rfl,yb ⟨by omega,by omega,by omega,ZF,Za.out,Qx.out⟩,rfl⟩
   have Zm:((c.toNat:Int)==92)=false:=by rw [yf];intro e;exact h92 (UInt8.toNat_inj.1 (Int.ofNat_inj.1 e))
   by_cases h13:c=13
   ·subst h13
    rw [textV_nl] at hv;have ZE:=yb hv;clear hv h92 Zm;go_wp2_with fail
    refine HP.out.mono ?_;rintro e w1 ⟨rfl,q,rfl⟩;obtain ⟨c3,f3⟩:=Qm.out q;obtain ⟨S2,q2,k2,s2⟩:=Qi.out q;have Qn:=yb q2;have Qc:=yb (zak.trans Qa.out (zak.trans ((zak.refl S1 w').drewN q) k2 (fun _ h=>.inl h)) Qb.out);have Qg:=yb (fun b (hb:S2 b)=>(s2 b hb).elim (Qb.out b) (fun h=>Or.inr (Nat.le_trans Qa.out.size h)));clear q2 k2 s2;go_wp2_with fail
    rw [show ((k:Int)+1)=((k+1:Nat):Int) from rfl];generalize (w'.drewN q).setCell ⟨p,3,none⟩ (.int .i64 ((k+1:Nat):Int))=w2 at *;clear c3 f3;have HO:=yb (line_any Qn.out);go_wp2_with fail
    refine HO.out.mono ?_;rintro e w3 hstep;have Qd:=yb hstep;clear hstep
    cases hES:zee X.yq (X.bs.drop (k+1)) with
    | none =>
     rw [hES] at Qd;obtain ⟨rfl,o2,k2,hn⟩:=Qd.out;have Q6:=yb (zar.trans Qc.out Qg.out hn);have Qf:=yb (show V=none by rw [ZE.out,hES]);clear Qd hn hES;obtain ⟨S9,QB,QC,QF⟩:=Q6.out;have YC:=yb QB;have Qu:=yb (QC.obj Qw.out QA.out);have Qv:=yb (zak.trans Q9.out QC (fun _ h=>.inl h));have Z7:=yb (zei QB);clear QB QC QF;go_wp2_with fail
     refine (Z7.out).mono ?_;rintro e w9 ⟨rfl,rfl⟩;obtain ⟨⟨k0,k1,k2,k3⟩,f0,f1,f2,f3⟩:=zad Qu.out;go_wp2;simp only [Exit.jump];refine yi (zaa rfl _ _ r 25 _ (0,0) _ rfl (set4 Qu.out _ _ _ _) Tryz.underlying25 rfl zao _ rfl) rfl ?_;exact zhP Qf.out (zbv Qv.out QO.out _ _ _ _)
    | some j =>
     rw [hES] at Qd;obtain ⟨rfl,hn⟩:=Qd.out;have Q6:=yb (zar.trans Qc.out Qg.out hn);have ZF:k+1+j<=X.bs.length:=by obtain ⟨_,⟨_,_,h⟩,_⟩:=hn;exact h.le
     have Qx:=yb (show V=zbe X.yq D (out++[10]) (X.bs.drop (k+1+j)) by
      rw [ZE.out,hES];simp only;rw [List.drop_drop])
     have Z8:((D:Int)==0)=false:=by rw [yf];omega
     clear Qd hn hES;obtain ⟨S9,QB,QC,QF⟩:=Q6.out;have Qv:=yb QC;have Zn:=yb QF;have Ql:=yb (za8 QB 10 10 rfl (by omega));clear QB QC QF;go_wp2_with fail
     refine Ql.out.mono ?_;rintro e w8 ⟨rfl,QG⟩;have Za:=yb (zar.trans Qv.out Zn.out QG);clear QG;go_wp2
     go_step3
     exact ⟨rfl,X.bs.length-(k+1+j),by have:=HM.out;omega,D,(k+1+j),(out++[10]),_,_,_,_,_,_,_,_,_,_,_,_,_,_,_,_,_,_,_,_,_,_,_,_,_,_,_,_,_,_,_,_,_,_,_,_,_,_,_,_,_,_,_,_,_,_,_,_,_,_,_,_,_,_,_,_,_,rfl,yb ⟨by omega,by omega,by simp;omega,by omega,Za.out,Qx.out⟩,rfl⟩
   have Zl:((c.toNat:Int)==13)=false:=by rw [yf];intro e;exact h13 (UInt8.toNat_inj.1 (Int.ofNat_inj.1 e))
   by_cases h40:c=40
   ·subst h40
    rw [textV_in] at hv;have Qx:=yb hv;have Z8:((D:Int)+1==0)=false:=by rw [yf];omega
    clear hv h92 Zm h13 Zl;go_wp2_with fail
    refine HP.out.mono ?_;rintro e w1 ⟨rfl,q,rfl⟩;obtain ⟨c3,f3⟩:=Qm.out q;obtain ⟨S2,q2,k2,s2⟩:=Qi.out q;have Qn:=yb q2;have Qc:=yb (zak.trans Qa.out (zak.trans ((zak.refl S1 w').drewN q) k2 (fun _ h=>.inl h)) Qb.out);have Qg:=yb (fun b (hb:S2 b)=>(s2 b hb).elim (Qb.out b) (fun h=>Or.inr (Nat.le_trans Qa.out.size h)));clear q2 k2 s2;go_wp2_with fail
    rw [show ((k:Int)+1)=((k+1:Nat):Int) from rfl];generalize (w'.drewN q).setCell ⟨p,3,none⟩ (.int .i64 ((k+1:Nat):Int))=w2 at *;clear c3 f3;have Q6:=yb (zar.trans Qc.out Qg.out (zar.refl Qn.out));obtain ⟨S9,QB,QC,QF⟩:=Q6.out;have Qv:=yb QC;have Zn:=yb QF;have Ql:=yb (za8 QB 40 40 rfl (by omega));clear QB QC QF;go_wp2_with fail
    refine Ql.out.mono ?_;rintro e w8 ⟨rfl,QG⟩;have Za:=yb (zar.trans Qv.out Zn.out QG);clear QG;go_wp2
    go_step3
    exact ⟨rfl,X.bs.length-(k+1),by have:=HM.out;omega,(D+1),(k+1),(out++[40]),_,_,_,_,_,_,_,_,_,_,_,_,_,_,_,_,_,_,_,_,_,_,_,_,_,_,_,_,_,_,_,_,_,_,_,_,_,_,_,_,_,_,_,_,_,_,_,_,_,_,_,_,_,_,_,_,_,rfl,yb ⟨by omega,by omega,by simp;omega,by omega,Za.out,Qx.out⟩,rfl⟩
   have Z9:((c.toNat:Int)==40)=false:=by rw [yf];intro e;exact h40 (UInt8.toNat_inj.1 (Int.ofNat_inj.1 e))
   by_cases h41:c=41
   ·subst h41
    rw [textV_out] at hv;clear h92 Zm h13 Zl h40 Z9
    by_cases hD:D=1
    ·subst hD
     rw [yg rfl] at hv;have Qx:=yb hv;clear hv;go_wp2_with fail
     refine HP.out.mono ?_;rintro e w1 ⟨rfl,q,rfl⟩;obtain ⟨c3,f3⟩:=Qm.out q;obtain ⟨S2,q2,k2,s2⟩:=Qi.out q;have Qn:=yb q2;have Qc:=yb (zak.trans Qa.out (zak.trans ((zak.refl S1 w').drewN q) k2 (fun _ h=>.inl h)) Qb.out);have Qg:=yb (fun b (hb:S2 b)=>(s2 b hb).elim (Qb.out b) (fun h=>Or.inr (Nat.le_trans Qa.out.size h)));clear q2 k2 s2;go_wp2_with fail
     rw [show ((k:Int)+1)=((k+1:Nat):Int) from rfl];generalize (w'.drewN q).setCell ⟨p,3,none⟩ (.int .i64 ((k+1:Nat):Int))=w2 at *;clear c3 f3;have HO:=yb (ze1 Qn.out);have Qh:=yb (Qc.out.obj Qw.out QA.out);go_wp2_with fail
     refine HO.out.mono ?_;rintro e w3 ⟨rfl,QN,Zj⟩;have Q7:=yb (show ¬S2 r from fun e=>(Qg.out r e).elim QA.out (fun h=>by have:=(Array.getElem?_eq_some_iff.1 Qw.out).1;omega));have Qu:=yb (QN.obj Qh.out Q7.out);have Qv:=yb (zak.trans Q9.out (zak.trans Qc.out QN Qg.out) (fun _ h=>.inl h));have ZG:=yb Zj;clear QN Zj;obtain ⟨⟨k0,k1,k2,k3⟩,f0,f1,f2,f3⟩:=zad Qu.out;go_wp2;simp only [Exit.jump];refine yi (zaa rfl _ _ r 25 _ (0,0) _ rfl (set4 Qu.out _ _ _ _) Tryz.underlying25 rfl zao _ rfl) rfl ?_;obtain ⟨ad9,v9,ZH⟩:=Qn.out;have ZI:p≠r:=fun e=>QA.out (e▸ZS.out);refine txt_some Qx.out (zbv Qv.out QO.out _ _ _ _) (by rw [ym];omega) ?_;rw [cell_of_row _ p 3 (scV X ad9 v9 (k+1)) 192 (0,0) ((zbp ZI _ _ _ _).trans (ZG.out.trans ZH.blk)),ym,show X.bs.length-(X.bs.length-(k+1))=k+1 from by omega];rfl
    ·rw [yh hD] at hv
     have Qx:=yb hv;obtain ⟨E,rfl⟩:∃E,D=E+1:=⟨D-1,by omega⟩;have Z8:((E:Int)==0)=false:=by rw [yf];omega
     have Y1:1<=E:=by omega
     clear hv hD;go_wp2_with fail
     refine HP.out.mono ?_;rintro e w1 ⟨rfl,q,rfl⟩;obtain ⟨c3,f3⟩:=Qm.out q;obtain ⟨S2,q2,k2,s2⟩:=Qi.out q;have Qn:=yb q2;have Qc:=yb (zak.trans Qa.out (zak.trans ((zak.refl S1 w').drewN q) k2 (fun _ h=>.inl h)) Qb.out);have Qg:=yb (fun b (hb:S2 b)=>(s2 b hb).elim (Qb.out b) (fun h=>Or.inr (Nat.le_trans Qa.out.size h)));clear q2 k2 s2;go_wp2_with fail
     rw [show ((k:Int)+1)=((k+1:Nat):Int) from rfl];generalize (w'.drewN q).setCell ⟨p,3,none⟩ (.int .i64 ((k+1:Nat):Int))=w2 at *;clear c3 f3;have Q6:=yb (zar.trans Qc.out Qg.out (zar.refl Qn.out));obtain ⟨S9,QB,QC,QF⟩:=Q6.out;have Qv:=yb QC;have Zn:=yb QF;have Ql:=yb (za8 QB 41 41 rfl (by omega));clear QB QC QF;go_wp2_with fail
     refine Ql.out.mono ?_;rintro e w8 ⟨rfl,QG⟩;have Za:=yb (zar.trans Qv.out Zn.out QG);clear QG;go_wp2
     go_step3
     exact ⟨rfl,X.bs.length-(k+1),by have:=HM.out;omega,E,(k+1),(out++[41]),_,_,_,_,_,_,_,_,_,_,_,_,_,_,_,_,_,_,_,_,_,_,_,_,_,_,_,_,_,_,_,_,_,_,_,_,_,_,_,_,_,_,_,_,_,_,_,_,_,_,_,_,_,_,_,_,_,rfl,yb ⟨by omega,by omega,by simp;omega,by omega,Za.out,Qx.out⟩,rfl⟩
   have YD:((c.toNat:Int)==41)=false:=by rw [yf];intro e;exact h41 (UInt8.toNat_inj.1 (Int.ofNat_inj.1 e))
   rw [zhf _ _ _ _ _ h92 h13 h40 h41] at hv;have Qx:=yb hv;have Z8:((D:Int)==0)=false:=by rw [yf];omega
   clear hv h92 h13 h40 h41;go_wp2_with fail
   refine HP.out.mono ?_;rintro e w1 ⟨rfl,q,rfl⟩;obtain ⟨c3,f3⟩:=Qm.out q;obtain ⟨S2,q2,k2,s2⟩:=Qi.out q;have Qn:=yb q2;have Qc:=yb (zak.trans Qa.out (zak.trans ((zak.refl S1 w').drewN q) k2 (fun _ h=>.inl h)) Qb.out);have Qg:=yb (fun b (hb:S2 b)=>(s2 b hb).elim (Qb.out b) (fun h=>Or.inr (Nat.le_trans Qa.out.size h)));clear q2 k2 s2;go_wp2_with fail
   rw [show ((k:Int)+1)=((k+1:Nat):Int) from rfl];generalize (w'.drewN q).setCell ⟨p,3,none⟩ (.int .i64 ((k+1:Nat):Int))=w2 at *;clear c3 f3;have Q6:=yb (zar.trans Qc.out Qg.out (zar.refl Qn.out));obtain ⟨S9,QB,QC,QF⟩:=Q6.out;have Qv:=yb QC;have Zn:=yb QF;have Ql:=yb (za8 QB c _ rfl (by omega));clear QB QC QF;go_wp2_with fail
   refine Ql.out.mono ?_;rintro e w8 ⟨rfl,QG⟩;have Za:=yb (zar.trans Qv.out Zn.out QG);clear QG;go_wp2
   go_step3
   exact ⟨rfl,X.bs.length-(k+1),by have:=HM.out;omega,D,(k+1),(out++[c]),_,_,_,_,_,_,_,_,_,_,_,_,_,_,_,_,_,_,_,_,_,_,_,_,_,_,_,_,_,_,_,_,_,_,_,_,_,_,_,_,_,_,_,_,_,_,_,_,_,_,_,_,_,_,_,_,_,rfl,yb ⟨by omega,by omega,by simp;omega,by omega,Za.out,Qx.out⟩,rfl⟩
def HexEnd (w:World) (S:Nat->Prop) (p:Nat) (X:Src) (V:Int×List UInt8×List UInt8) (e:Ending) (w':World):Prop :=
 zak S w w'/\((V.1=1/\e=.returned (.tuple #[.agg (valC 0 0 zbn),.int .i64 (zbf X.yq)]))\/(V.1=11/\e=.returned (.tuple #[.agg (valC 0 0 zbn),.int .i64 11])) \/
  (V.1=0/\e=.returned (.tuple #[.agg (valC 4 0 (mkB V.2.1)),.int .i64 0])/\V.2.2.length<=X.bs.length/\w'.cell? ⟨p,3,none⟩=some (.int .i64 ((X.bs.length-V.2.2.length:Nat):Int))))
theorem hex_some {w w':World} {S:Nat->Prop} {p:Nat} {X:Src} {V:Int×List UInt8×List UInt8} {x t:List UInt8} (hV:V=(0,x,t)) (hk:zak S w w') (ht:t.length<=X.bs.length)
  (hc:w'.cell? ⟨p,3,none⟩=some (.int .i64 ((X.bs.length-t.length:Nat):Int))):HexEnd w S p X V (.returned (.tuple #[.agg (valC 4 0 (mkB x)),.int .i64 0])) w':=by
 subst hV;exact ⟨hk,.inr (.inr ⟨rfl,rfl,ht,hc⟩)⟩
theorem hex_open {w w':World} {S:Nat->Prop} {p:Nat} {X:Src} {V:Int×List UInt8×List UInt8} (hV:V=(1,[],[])) (hk:zak S w w'):HexEnd w S p X V (.returned (.tuple #[.agg (valC 0 0 zbn),.int .i64 (zbf X.yq)])) w':=by
 subst hV;exact ⟨hk,.inl ⟨rfl,rfl⟩⟩
theorem hex_form {w w':World} {S:Nat->Prop} {p:Nat} {X:Src} {V:Int×List UInt8×List UInt8} (hV:V=(11,[],[])) (hk:zak S w w'):HexEnd w S p X V (.returned (.tuple #[.agg (valC 0 0 zbn),.int .i64 11])) w':=by
 subst hV;exact ⟨hk,.inr (.inl ⟨rfl,rfl⟩)⟩
structure HexAt (W0:World) (S:Nat->Prop) (p:Nat) (X:Src) (V:Int×List UInt8×List UInt8) (hf:Int) (k:Nat) (out:List UInt8) (w':World):Prop where
 h1:-1<=hf/\hf<=15
 o:out.length<k
 le:k<=X.bs.length
 sc:zar W0 S p X out k w'
 v:V=hexV out hf (X.bs.drop k)
def HexI (W0:World) (S:Nat->Prop) (p:Nat) (X:Src) (V:Int×List UInt8×List UInt8) (r:Nat) (m:Nat) (a:Act) (w':World):Prop :=
 ∃(hf:Int) (k:Nat) (out:List UInt8) (u5 u6 u7 u8 u9 u10 u11 u12 u13 u14 u15 u16 u17 u18 u19 u20 u21 u22 u23 u24 u25 u26 u27 u28 u29 u30 u31 u32 u33 u34 u35 u36 u37 u38 u39 u40 u41 u42 u43 u44 u45 u46 u47 u48 u49 u50 u51 u52 u53 u54 u55 u56 u57 u58 u59 u60 u61 u62 u63 u64 u65 u66 u67 u68 u69 u70 u71 u72 u73:Value),m=X.bs.length-k/\Hid (HexAt W0 S p X V hf k out w')/\a={ tmps:=#[.pointer (some ⟨p,0,none⟩),undef,.pointer (some ⟨r,0,none⟩),.int .i64 0,.int .i64 hf,u5,u6,u7,u8,u9,u10,u11,u12,u13,u14,u15,u16,u17,u18,u19,u20,u21,u22,u23,u24,u25,u26,u27,u28,u29,u30,u31,u32,u33,u34,u35,u36,u37,u38,u39,u40,u41,u42,u43,u44,u45,u46,u47,u48,u49,u50,u51,u52,u53,u54,u55,u56,u57,u58,u59,u60,u61,u62,u63,u64,u65,u66,u67,u68,u69,u70,u71,u72,u73],defers:=[] }
theorem byte_of (x:Int) (h0:0<=x) (h1:x<=255):x=((UInt8.ofNat x.toNat).toNat:Int):=by rw [UInt8.toNat_ofNat'];omega
set_option maxHeartbeats 16000000 in
theorem hexes_any {w:World} {S:Nat->Prop} {p:Nat} {X:Src} {k:Nat} (h:ScQ w S p X [] k) (hk:1<=k) :
  Calls Tryz.prog 184 #[.pointer (some ⟨p,0,none⟩)] w (HexEnd w S p X (hexV [] (-1) (X.bs.drop k))):=by
 obtain ⟨V,hV⟩:∃V,V=hexV [] (-1) (X.bs.drop k):=⟨_,rfl⟩;rw [<-hV];obtain ⟨r,hr⟩:∃r,r=w.heap.size:=⟨_,rfl⟩;have Zt:X.bs.length<=400000:=by obtain ⟨_,_,h⟩:=h;exact h.small
 have ZB:¬S r:=by obtain ⟨_,_,h⟩:=h;intro e;have:=(h.lt r e).2;omega
 have ZR:k<=X.bs.length:=by obtain ⟨_,_,h⟩:=h;exact h.le
 have Qw:=yb (show (w.alloc (.cells #[.int .i64 0,.int .i64 0,.string ⟨#[]⟩,.slice none 0 0] 25)).heap[r]?=some (.cells #[.int .i64 0,.int .i64 0,.string ⟨#[]⟩,.slice none 0 0] 25 (0,0)) from zac _ hr);have Q9:=yb (show zak S w (w.alloc (.cells #[.int .i64 0,.int .i64 0,.string ⟨#[]⟩,.slice none 0 0] 25)) from (zak.refl S w).alloc _);have ZC:=h.keep (zai w (.cells #[.int .i64 0,.int .i64 0,.string ⟨#[]⟩,.slice none 0 0] 25));have ZD:=yb (show HexAt (w.alloc (.cells #[.int .i64 0,.int .i64 0,.string ⟨#[]⟩,.slice none 0 0] 25)) S p X V (-1) k [] _ from ⟨by omega,by simp;omega,ZR,zar.refl ZC,hV⟩);have HR:=yb hr;have QA:=yb ZB;have ZS:=yb (show S p from (let ⟨_,_,h⟩:=h;h.own));have QO:=yb (show w.heap.size<=r by omega);clear hV hr ZB h hk ZC;go_enter Tryz.func184,Tryz.ntmps184
 go_wp2;rw [<-HR.out];generalize w.alloc (.cells #[.int .i64 0,.int .i64 0,.string ⟨#[]⟩,.slice none 0 0] 25)=W0 at *;refine zcR 0 (HexI W0 S p X V r) rfl ?first ?pass
 case first =>
  intro hpass;have Q5:=yb hpass;clear hpass;go_wp2;refine wp_label ?_
  rename_i K hK
  exact hK _ _ (Q5.out _ _ _ ⟨-1,k,[],_,_,_,_,_,_,_,_,_,_,_,_,_,_,_,_,_,_,_,_,_,_,_,_,_,_,_,_,_,_,_,_,_,_,_,_,_,_,_,_,_,_,_,_,_,_,_,_,_,_,_,_,_,_,_,_,_,_,_,_,_,_,_,_,_,_,_,_,_,rfl,ZD,rfl⟩)
 case pass =>
  rintro m a w' ⟨hf,k,out,u5,u6,u7,u8,u9,u10,u11,u12,u13,u14,u15,u16,u17,u18,u19,u20,u21,u22,u23,u24,u25,u26,u27,u28,u29,u30,u31,u32,u33,u34,u35,u36,u37,u38,u39,u40,u41,u42,u43,u44,u45,u46,u47,u48,u49,u50,u51,u52,u53,u54,u55,u56,u57,u58,u59,u60,u61,u62,u63,u64,u65,u66,u67,u68,u69,u70,u71,u72,u73,hm,HA,rfl⟩;obtain ⟨S1,Qo,QL,QP⟩:=HA.out.sc;obtain ⟨YE,YF⟩:=HA.out.h1;have ho:=HA.out.o;have YB:=HA.out.le;have HV:=yb HA.out.v;have Qj:=yb Qo;have Qa:=yb QL;have Qb:=yb QP;have Z6:=yb (QL.obj Qw.out QA.out);have HM:=yb hm;have hP:=zdf Qo;unfold zfl u8C at hP;clear QL QP hm ZD HA
  by_cases hkn:k<X.bs.length
  case neg =>
   rw [yh hkn] at hP;have HP:=yb hP;have Qf:=yb (show V=(1,[],[]) by rw [HV.out,zbm hkn];rfl);have HO:=yb (fun q=>zei (Qo.drewN q));clear hP Qo hkn;go_wp2_with fail
   refine HP.out.mono ?_;rintro e w1 ⟨rfl,q,rfl⟩;go_wp2_with fail
   refine (HO.out q).mono ?_;rintro e w2 ⟨rfl,rfl⟩;have Qu:=yb (show (w'.drewN q).heap[r]?=_ from Z6.out);have Qv:=yb (zak.trans Q9.out (zak.trans Qa.out ((zak.refl S1 w').drewN q) Qb.out) (fun _ h=>.inl h));generalize w'.drewN q=w2 at *;obtain ⟨⟨k0,k1,k2,k3⟩,f0,f1,f2,f3⟩:=zad Qu.out;go_wp2;simp only [Exit.jump];refine yi (zaa rfl _ _ r 25 _ (0,0) _ rfl (set4 Qu.out _ _ _ _) Tryz.underlying25 rfl zao _ rfl) rfl ?_;exact hex_open Qf.out (zbv Qv.out QO.out _ _ _ _)
  case pos =>
   rw [yg hkn] at hP;have hv:=HV.out;rw [zay hkn,hexV] at hv;have Qi:=yb (fun q=>(let ⟨_,_,h1⟩:=Qo.drewN q;h1.move (k+1) (by omega) (by omega)));have Qm:=yb (fun q=>(let ⟨_,_,h1⟩:=Qo.drewN q;(And.intro h1.cells.2.2.2.1 (h1.free 3))));have HP:=yb hP;obtain ⟨c,hc⟩:∃c,c=X.bs.getD k 0:=⟨_,rfl⟩;rw [<-hc] at HP hv;have Zo:=yb (fun W=>hex_any c W);have ZJ:=fun W=>zec c.toNat W;rw [<-ze7] at ZJ;have ZT:=zhH c;clear hP hc Qo
   by_cases h62:c=62
   ·subst h62
    rw [yg rfl] at hv;rw [show hexD 62=-1 from rfl] at Zo;clear ZJ ZT
    by_cases hh:0<=hf
    ·rw [yg hh] at hv
     have Qx:=yb hv;have Ya:=yb (byte_of (16*hf) (by omega) (by omega));clear hv;go_wp2_with fail
     refine HP.out.mono ?_;rintro e w1 ⟨rfl,q,rfl⟩;obtain ⟨c3,f3⟩:=Qm.out q;obtain ⟨S2,q2,k2,s2⟩:=Qi.out q;have Qn:=yb q2;have Qc:=yb (zak.trans Qa.out (zak.trans ((zak.refl S1 w').drewN q) k2 (fun _ h=>.inl h)) Qb.out);have Qg:=yb (fun b (hb:S2 b)=>(s2 b hb).elim (Qb.out b) (fun h=>Or.inr (Nat.le_trans Qa.out.size h)));have Qh:=yb (Qc.out.obj Qw.out QA.out);clear q2 k2 s2;go_wp2_with fail
     rw [show ((k:Int)+1)=((k+1:Nat):Int) from rfl];generalize (w'.drewN q).setCell ⟨p,3,none⟩ (.int .i64 ((k+1:Nat):Int))=w2 at *;clear c3 f3;refine (Zo.out _).mono ?_;rintro e w3 ⟨rfl,rfl⟩;have Ql:=yb (za8 Qn.out (UInt8.ofNat (16*hf).toNat) (16*hf) Ya.out (by omega));go_wp2_with fail
     refine Ql.out.mono ?_;rintro e w4 ⟨rfl,QG⟩;obtain ⟨S4,q4,k4,s4⟩:=QG;have ZU:=yb q4;have Qy:=yb (zak.trans Qc.out k4 Qg.out);have ZV:=yb (fun b (hb:S4 b)=>(s4 b hb).elim (Qg.out b) (fun h=>Or.inr (Nat.le_trans Qc.out.size h)));have QI:=yb (Qy.out.obj Qw.out QA.out);clear q4 k4 s4;have HO:=yb (ze1 ZU.out);go_wp2_with fail
     refine HO.out.mono ?_;rintro e w5 ⟨rfl,QN,Zj⟩;have Q7:=yb (show ¬S4 r from fun e=>(ZV.out r e).elim QA.out (fun h=>by have:=(Array.getElem?_eq_some_iff.1 Qw.out).1;omega));have Qu:=yb (QN.obj QI.out Q7.out);have Qv:=yb (zak.trans Q9.out (zak.trans Qy.out QN ZV.out) (fun _ h=>.inl h));have ZG:=yb Zj;clear QN Zj;obtain ⟨⟨k0,k1,k2,k3⟩,f0,f1,f2,f3⟩:=zad Qu.out;go_wp2;simp only [Exit.jump];refine yi (zaa rfl _ _ r 25 _ (0,0) _ rfl (set4 Qu.out _ _ _ _) Tryz.underlying25 rfl zao _ rfl) rfl ?_;obtain ⟨ad9,v9,ZH⟩:=ZU.out;have ZI:p≠r:=fun e=>QA.out (e▸ZS.out);refine hex_some Qx.out (zbv Qv.out QO.out _ _ _ _) (by rw [ym];omega) ?_;rw [cell_of_row _ p 3 (scV X ad9 v9 (k+1)) 192 (0,0) ((zbp ZI _ _ _ _).trans (ZG.out.trans ZH.blk)),ym,show X.bs.length-(X.bs.length-(k+1))=k+1 from by omega];rfl
    ·rw [yh hh] at hv
     have Qx:=yb hv;have YG:decide (0<=hf)=false:=by simpa using hh
     clear hv hh;go_wp2_with fail
     refine HP.out.mono ?_;rintro e w1 ⟨rfl,q,rfl⟩;obtain ⟨c3,f3⟩:=Qm.out q;obtain ⟨S2,q2,k2,s2⟩:=Qi.out q;have Qn:=yb q2;have Qc:=yb (zak.trans Qa.out (zak.trans ((zak.refl S1 w').drewN q) k2 (fun _ h=>.inl h)) Qb.out);have Qg:=yb (fun b (hb:S2 b)=>(s2 b hb).elim (Qb.out b) (fun h=>Or.inr (Nat.le_trans Qa.out.size h)));have Qh:=yb (Qc.out.obj Qw.out QA.out);clear q2 k2 s2;go_wp2_with fail
     rw [show ((k:Int)+1)=((k+1:Nat):Int) from rfl];generalize (w'.drewN q).setCell ⟨p,3,none⟩ (.int .i64 ((k+1:Nat):Int))=w2 at *;clear c3 f3;refine (Zo.out _).mono ?_;rintro e w3 ⟨rfl,rfl⟩;have HO:=yb (ze1 Qn.out);go_wp2_with fail
     refine HO.out.mono ?_;rintro e w5 ⟨rfl,QN,Zj⟩;have Q7:=yb (show ¬S2 r from fun e=>(Qg.out r e).elim QA.out (fun h=>by have:=(Array.getElem?_eq_some_iff.1 Qw.out).1;omega));have Qu:=yb (QN.obj Qh.out Q7.out);have Qv:=yb (zak.trans Q9.out (zak.trans Qc.out QN Qg.out) (fun _ h=>.inl h));have ZG:=yb Zj;clear QN Zj;obtain ⟨⟨k0,k1,k2,k3⟩,f0,f1,f2,f3⟩:=zad Qu.out;go_wp2;simp only [Exit.jump];refine yi (zaa rfl _ _ r 25 _ (0,0) _ rfl (set4 Qu.out _ _ _ _) Tryz.underlying25 rfl zao _ rfl) rfl ?_;obtain ⟨ad9,v9,ZH⟩:=Qn.out;have ZI:p≠r:=fun e=>QA.out (e▸ZS.out);refine hex_some Qx.out (zbv Qv.out QO.out _ _ _ _) (by rw [ym];omega) ?_;rw [cell_of_row _ p 3 (scV X ad9 v9 (k+1)) 192 (0,0) ((zbp ZI _ _ _ _).trans (ZG.out.trans ZH.blk)),ym,show X.bs.length-(X.bs.length-(k+1))=k+1 from by omega];rfl
   have YH:((c.toNat:Int)==62)=false:=by rw [yf];intro e;exact h62 (UInt8.toNat_inj.1 (Int.ofNat_inj.1 e))
   rw [yh h62] at hv;clear h62;obtain ⟨sp,ZK⟩:∃sp,isSp c=sp:=⟨_,rfl⟩;rw [ZK] at hv ZJ;have Zb:=yb ZJ;clear ZJ ZK;generalize hexD c=d at *
   cases sp
   case true =>
    rw [yg rfl] at hv;have Qx:=yb hv;clear hv;go_wp2_with fail
    refine HP.out.mono ?_;rintro e w1 ⟨rfl,q,rfl⟩;obtain ⟨c3,f3⟩:=Qm.out q;obtain ⟨S2,q2,k2,s2⟩:=Qi.out q;have Qn:=yb q2;have Qc:=yb (zak.trans Qa.out (zak.trans ((zak.refl S1 w').drewN q) k2 (fun _ h=>.inl h)) Qb.out);have Qg:=yb (fun b (hb:S2 b)=>(s2 b hb).elim (Qb.out b) (fun h=>Or.inr (Nat.le_trans Qa.out.size h)));have Qh:=yb (Qc.out.obj Qw.out QA.out);clear q2 k2 s2;go_wp2_with fail
    rw [show ((k:Int)+1)=((k+1:Nat):Int) from rfl];generalize (w'.drewN q).setCell ⟨p,3,none⟩ (.int .i64 ((k+1:Nat):Int))=w2 at *;clear c3 f3;refine (Zo.out _).mono ?_;rintro e w3 ⟨rfl,rfl⟩;have HN:=yb (show zar W0 S p X out (k+1) w2 from zar.trans Qc.out Qg.out (zar.refl Qn.out));go_wp2_with fail
    refine (Zb.out _).mono ?_;rintro e w3 ⟨rfl,rfl⟩;go_wp2
    go_step3
    exact ⟨rfl,X.bs.length-(k+1),by have:=HM.out;omega,hf,k+1,out,_,_,_,_,_,_,_,_,_,_,_,_,_,_,_,_,_,_,_,_,_,_,_,_,_,_,_,_,_,_,_,_,_,_,_,_,_,_,_,_,_,_,_,_,_,_,_,_,_,_,_,_,_,_,_,_,_,_,_,_,_,_,_,_,_,_,_,_,_,rfl,yb ⟨⟨YE,YF⟩,by first|omega|(simp;omega),by omega,HN.out,Qx.out⟩,rfl⟩
   rw [yh (by decide)] at hv
   by_cases hd0:d<0
   ·rw [yg hd0] at hv
    have Qf:=yb hv;clear hv;go_wp2_with fail
    refine HP.out.mono ?_;rintro e w1 ⟨rfl,q,rfl⟩;obtain ⟨c3,f3⟩:=Qm.out q;obtain ⟨S2,q2,k2,s2⟩:=Qi.out q;have Qn:=yb q2;have Qc:=yb (zak.trans Qa.out (zak.trans ((zak.refl S1 w').drewN q) k2 (fun _ h=>.inl h)) Qb.out);have Qg:=yb (fun b (hb:S2 b)=>(s2 b hb).elim (Qb.out b) (fun h=>Or.inr (Nat.le_trans Qa.out.size h)));have Qh:=yb (Qc.out.obj Qw.out QA.out);clear q2 k2 s2;go_wp2_with fail
    rw [show ((k:Int)+1)=((k+1:Nat):Int) from rfl];generalize (w'.drewN q).setCell ⟨p,3,none⟩ (.int .i64 ((k+1:Nat):Int))=w2 at *;clear c3 f3;refine (Zo.out _).mono ?_;rintro e w3 ⟨rfl,rfl⟩;go_wp2_with fail
    refine (Zb.out _).mono ?_;rintro e w3 ⟨rfl,rfl⟩;have Qu:=Qh;have Qv:=yb (zak.trans Q9.out Qc.out (fun _ h=>.inl h));obtain ⟨⟨k0,k1,k2,k3⟩,f0,f1,f2,f3⟩:=zad Qu.out;go_wp2;simp only [Exit.jump];refine yi (zaa rfl _ _ r 25 _ (0,0) _ rfl (set4 Qu.out _ _ _ _) Tryz.underlying25 rfl zao _ rfl) rfl ?_;exact hex_form Qf.out (zbv Qv.out QO.out _ _ _ _)
   rw [yh hd0] at hv;have YI:decide (d<0)=false:=by simpa using hd0
   have hd1:0<=d:=by omega
   clear hd0
   by_cases hh:hf<0
   ·rw [yg hh] at hv
    have Qx:=yb hv;clear hv;go_wp2_with fail
    refine HP.out.mono ?_;rintro e w1 ⟨rfl,q,rfl⟩;obtain ⟨c3,f3⟩:=Qm.out q;obtain ⟨S2,q2,k2,s2⟩:=Qi.out q;have Qn:=yb q2;have Qc:=yb (zak.trans Qa.out (zak.trans ((zak.refl S1 w').drewN q) k2 (fun _ h=>.inl h)) Qb.out);have Qg:=yb (fun b (hb:S2 b)=>(s2 b hb).elim (Qb.out b) (fun h=>Or.inr (Nat.le_trans Qa.out.size h)));have Qh:=yb (Qc.out.obj Qw.out QA.out);clear q2 k2 s2;go_wp2_with fail
    rw [show ((k:Int)+1)=((k+1:Nat):Int) from rfl];generalize (w'.drewN q).setCell ⟨p,3,none⟩ (.int .i64 ((k+1:Nat):Int))=w2 at *;clear c3 f3;refine (Zo.out _).mono ?_;rintro e w3 ⟨rfl,rfl⟩;have HN:=yb (show zar W0 S p X out (k+1) w2 from zar.trans Qc.out Qg.out (zar.refl Qn.out));go_wp2_with fail
    refine (Zb.out _).mono ?_;rintro e w3 ⟨rfl,rfl⟩;go_wp2
    go_step3
    exact ⟨rfl,X.bs.length-(k+1),by have:=HM.out;omega,d,k+1,out,_,_,_,_,_,_,_,_,_,_,_,_,_,_,_,_,_,_,_,_,_,_,_,_,_,_,_,_,_,_,_,_,_,_,_,_,_,_,_,_,_,_,_,_,_,_,_,_,_,_,_,_,_,_,_,_,_,_,_,_,_,_,_,_,_,_,_,_,_,rfl,yb ⟨⟨by omega,ZT.2⟩,by first|omega|(simp;omega),by omega,HN.out,Qx.out⟩,rfl⟩
   ·rw [yh hh] at hv
    have Qx:=yb hv;have YG:decide (hf<0)=false:=by simpa using hh
    have Y2:0<=hf:=by omega
    have YJ:=ZT.2;have Ya:=yb (byte_of (16*hf+d) (by omega) (by omega));clear hv hh ZT;go_wp2_with fail
    refine HP.out.mono ?_;rintro e w1 ⟨rfl,q,rfl⟩;obtain ⟨c3,f3⟩:=Qm.out q;obtain ⟨S2,q2,k2,s2⟩:=Qi.out q;have Qn:=yb q2;have Qc:=yb (zak.trans Qa.out (zak.trans ((zak.refl S1 w').drewN q) k2 (fun _ h=>.inl h)) Qb.out);have Qg:=yb (fun b (hb:S2 b)=>(s2 b hb).elim (Qb.out b) (fun h=>Or.inr (Nat.le_trans Qa.out.size h)));have Qh:=yb (Qc.out.obj Qw.out QA.out);clear q2 k2 s2;go_wp2_with fail
    rw [show ((k:Int)+1)=((k+1:Nat):Int) from rfl];generalize (w'.drewN q).setCell ⟨p,3,none⟩ (.int .i64 ((k+1:Nat):Int))=w2 at *;clear c3 f3;refine (Zo.out _).mono ?_;rintro e w3 ⟨rfl,rfl⟩;go_wp2_with fail
    refine (Zb.out _).mono ?_;rintro e w3 ⟨rfl,rfl⟩;have Ql:=yb (za8 Qn.out (UInt8.ofNat (16*hf+d).toNat) (16*hf+d) Ya.out (by omega));go_wp2_with fail
    refine Ql.out.mono ?_;rintro e w4 ⟨rfl,QG⟩;obtain ⟨S4,q4,k4,s4⟩:=QG;have ZU:=yb q4;have Qy:=yb (zak.trans Qc.out k4 Qg.out);have ZV:=yb (fun b (hb:S4 b)=>(s4 b hb).elim (Qg.out b) (fun h=>Or.inr (Nat.le_trans Qc.out.size h)));have QI:=yb (Qy.out.obj Qw.out QA.out);clear q4 k4 s4;have HN:=yb (show zar W0 S p X _ (k+1) w4 from zar.trans Qy.out ZV.out (zar.refl ZU.out));go_wp2
    go_step3
    exact ⟨rfl,X.bs.length-(k+1),by have:=HM.out;omega,-1,k+1,_,_,_,_,_,_,_,_,_,_,_,_,_,_,_,_,_,_,_,_,_,_,_,_,_,_,_,_,_,_,_,_,_,_,_,_,_,_,_,_,_,_,_,_,_,_,_,_,_,_,_,_,_,_,_,_,_,_,_,_,_,_,_,_,_,_,_,_,_,_,rfl,yb ⟨by omega,by first|omega|(simp;omega),by omega,HN.out,Qx.out⟩,rfl⟩
def regs (l:List UInt8):List UInt8:=l.takeWhile isRg
def runN (l:List UInt8):Nat:=(regs l).length
theorem zbu (l:List UInt8):runN l<=l.length:=by unfold runN regs;exact List.Sublist.length_le (List.takeWhile_sublist _)
theorem zfx {c:UInt8} (l:List UInt8) (h:isRg c=true):runN (c::l)=1+runN l:=by unfold runN regs;rw [List.takeWhile_cons_of_pos h];simp;omega
theorem runN_no {c:UInt8} (l:List UInt8) (h:isRg c=false):runN (c::l)=0:=by unfold runN regs;rw [List.takeWhile_cons_of_neg (by simp [h])];rfl
theorem zbk (l:List UInt8):regs l=l.take (runN l):=by
 unfold runN regs
 induction l with
 | nil=>rfl
 | cons c l ih =>
  by_cases h:isRg c=true
  ·rw [List.takeWhile_cons_of_pos h,List.length_cons,List.take_succ_cons,<-ih]
  ·rw [List.takeWhile_cons_of_neg h];rfl
theorem regs_drop (l:List UInt8):l.dropWhile isRg=l.drop (runN l):=by
 unfold runN regs
 induction l with
 | nil=>rfl
 | cons c l ih =>
  by_cases h:isRg c=true
  ·rw [List.takeWhile_cons_of_pos h,List.length_cons,List.drop_succ_cons,<-ih,List.dropWhile_cons_of_pos h]
  ·rw [List.takeWhile_cons_of_neg h,List.dropWhile_cons_of_neg h];rfl
def zhy (w:World) (S:Nat->Prop) (p:Nat) (X:Src) (out:List UInt8) (k:Nat) (e:Ending) (w':World):Prop :=
 e=.returned (.tuple #[.string (mkB (regs (X.bs.drop k))),.bool (decide (k+runN (X.bs.drop k)<X.bs.length)||X.yq)])/\zar w S p X out (k+runN (X.bs.drop k)) w'
theorem za1 {w:World} {b off cap:Nat} {X:Src} (hc:∀j,j<X.bs.length->w.cell? ⟨b,off+j,none⟩=some (u8C (X.bs.getD j 0))) (k m:Nat) (hm:k+m<=X.bs.length) (W:World) (hW:Below w.heap.size w W) :
  (convert 28 9 (.slice (some ⟨b,off+k,none⟩) m cap)).run Tryz.prog W=.ok (.string (mkB ((X.bs.drop k).take m))) W:=by
 have hl:((X.bs.drop k).take m).length=m:=by rw [List.length_take,ym];omega
 have h:=run_convert_bytes_back (P:=Tryz.prog) W 28 9 5 ⟨b,off+k,none⟩ cap ((X.bs.drop k).take m) Tryz.underlying28 Tryz.underlying5 Tryz.underlying9 (fun j hj=>by
  rw [hl] at hj;rw [Addr.add_lit,Nat.add_assoc];refine cell?_keep hW ((hc (k+j) (by omega)).trans ?_)
  congr 1
  unfold u8C;simp [List.getD,show k+j<X.bs.length from by omega])
 rw [hl] at h;exact h
theorem word_any {w:World} {S:Nat->Prop} {p:Nat} {X:Src} {out:List UInt8} {k:Nat} (h:ScQ w S p X out k) (hne:0<X.bs.length) :
  Calls Tryz.prog 166 #[.pointer (some ⟨p,0,none⟩)] w (zhy w S p X out k):=by
 have Zt:X.bs.length<=400000:=by obtain ⟨_,_,h⟩:=h;exact h.small
 have ZR:k<=X.bs.length:=by obtain ⟨_,_,h⟩:=h;exact h.le
 have Yb:X.bs.length<=X.cap/\X.cap<=maxLen:=by obtain ⟨_,_,h⟩:=h;exact ⟨h.src.2.1,h.src.2.2.1⟩
 have YK:w.cell? ⟨p,3,none⟩=some (.int .i64 k):=by obtain ⟨_,_,h⟩:=h;exact h.cells.2.2.2.1
 have HN:=yb (zar.refl h);obtain ⟨m,hm⟩:∃m,m=runN (X.bs.drop k):=⟨_,rfl⟩;have ZQ:=zbu (X.bs.drop k);rw [ym,<-hm] at ZQ;have HM:=yb hm;unfold zhy;rw [zbk,<-hm];obtain ⟨l,hl⟩:∃l,X.yq=l:=⟨_,rfl⟩;rw [hl];have Yo:=yb hl;obtain ⟨ZO,Zd⟩:=Yb;have YL:X.cap<=9223372036854775807:=by unfold maxLen at Zd;omega
 clear h hm Zd hl;go_enter Tryz.func166,Tryz.ntmps166
 go_wp2;clear YK
 go_loopg [] (X.bs.length-k) (fun g wr=>∃j:Nat,g=X.bs.length-j/\k<=j/\j<=k+m/\Hid (zar w S p X out j wr)/\Hid (k+m=j+runN (X.bs.drop j)))
 case atStart=>exact ⟨k,rfl,yp _,by omega,HN,yb (by rw [HM.out])⟩
 case round =>
  obtain ⟨j,hg,Y3,Y4,HS,HJ⟩:=hrel;have HG:=yb hg;obtain ⟨S1,Qo,QL,QP⟩:=HS.out;obtain ⟨ad,v,h1⟩:=Qo;obtain ⟨-,-,c2,c3,c4⟩:=h1.cells;have f3:=h1.free 3;obtain ⟨b,off,ha,_,Yp⟩:=h1.src.at 0 0 hne;have ZL:∀i,i<X.bs.length->wr.cell? ⟨b,off+i,none⟩=some (u8C (X.bs.getD i 0)):=Yp;rw [ha] at c2;have ZM:=yb ZL;have Qa:=yb QL;have Qb:=yb QP;have H1:=yb h1;clear QL QP hg Yp ZL h1
  by_cases hj:j<X.bs.length
  ·have Yq:=ZM.out j hj
   have hv:=HJ.out;rw [zay hj] at hv;have Yg:decide ((j:Int)<X.bs.length)=true:=by simp;omega
   have Qi:=yb (fun q=>(let h:=H1.out.keep (zag (Below.refl wr.heap.size wr) q);h.move (j+1) (by omega) (by omega)));have ZN:=fun W=>zfR (X.bs.getD j 0) W;rw [<-rgI_eq] at ZN;unfold u8C at Yq;obtain ⟨c,hc⟩:∃c,c=X.bs.getD j 0:=⟨_,rfl⟩;rw [<-hc] at ZN Yq hv;obtain ⟨rg,Zp⟩:∃rg,isRg c=rg:=⟨_,rfl⟩;rw [Zp] at ZN;have QO:=yb ZN;have Yc:=yb Zp;have HV:=yb hv;clear ZN Zp hv hc
   cases rg
   ·have ZW:j=k+m:=by have:=HV.out;rw [runN_no _ Yc.out] at this;omega
    have Zk:=yb ZW;clear ZW;have YM:∀nq,(convert 28 9 (.slice (some ⟨b,off+k,none⟩) (j-k) (X.cap-k))).run Tryz.prog (wr.drewN nq)=.ok (.string (mkB ((X.bs.drop k).take (j-k)))) (wr.drewN nq):=fun nq=>za1 ZM.out k (j-k) (by omega) _ (zag (Below.refl _ _) nq);have Yd:∀nq,(convert 28 9 (.slice (some ⟨b,off,none⟩) 0 0)).run Tryz.prog (wr.drewN nq)=.ok (.string (mkB [])) (wr.drewN nq):=fun nq=>za1 ZM.out 0 0 (by omega) _ (zag (Below.refl _ _) nq);have Zc:=yb (fun q=>zar.trans Qa.out Qb.out (zar.drew q (zar.refl (⟨ad,v,H1.out.keep (zag (Below.refl _ _) q)⟩:ScQ (wr.drewN q) S1 p X out j))));rw [Yo.out] at c4;go_wp2
    go_quiet ((go_at_call 161;exact (QO.out _).mono fun _ _ ⟨he,hm⟩=>⟨he,_,hm.symm⟩))
    go_wp2;have ZX:=yb (show decide (j<X.bs.length)=true from yd hj);have hck:¬X.cap=k:=by omega
    go_quiet (fail)
    go_wp2;go_ret2;exact ⟨by rw [show m=j-k from by have:=Zk.out;omega,show k+(j-k)=j from by omega,ZX.out];rfl,by rw [<-Zk.out];simpa using Zc.out _⟩
   ·go_wp2
    go_quiet ((go_at_call 161;exact (QO.out _).mono fun _ _ ⟨he,hm⟩=>⟨he,_,hm.symm⟩))
    go_wp2
    go_roundg (X.bs.length-(j+1))
    case rel =>
     refine ⟨j+1,rfl,by omega,?_,yb (zar.trans Qa.out Qb.out (zar.drew _ (Qi.out _))),yb ?_⟩
     ·have:=HV.out;rw [zfx _ Yc.out] at this;omega
     ·have:=HV.out;rw [zfx _ Yc.out] at this;omega
    case measure=>have:=HG.out;omega
  ·have ZW:j=X.bs.length:=by omega
   have Zk:=yb (show j=k+m by omega);have Yg:decide ((j:Int)<X.bs.length)=false:=ye (by omega);have YN:decide (j<X.bs.length)=false:=ye (by omega);have YM:∀nq,(convert 28 9 (.slice (some ⟨b,off+k,none⟩) (j-k) (X.cap-k))).run Tryz.prog (wr.drewN nq)=.ok (.string (mkB ((X.bs.drop k).take (j-k)))) (wr.drewN nq):=fun nq=>za1 ZM.out k (j-k) (by omega) _ (zag (Below.refl _ _) nq);have Yd:∀nq,(convert 28 9 (.slice (some ⟨b,off,none⟩) 0 0)).run Tryz.prog (wr.drewN nq)=.ok (.string (mkB [])) (wr.drewN nq):=fun nq=>za1 ZM.out 0 0 (by omega) _ (zag (Below.refl _ _) nq);have Zc:=yb (fun q=>zar.trans Qa.out Qb.out (zar.drew q (zar.refl (⟨ad,v,H1.out.keep (zag (Below.refl _ _) q)⟩:ScQ (wr.drewN q) S1 p X out j))));have ZX:=yb (show decide (j<X.bs.length)=false from ye (by omega));rw [Yo.out] at c4;clear ZW hj
   cases l
   all_goals
    go_wp2
    go_quiet (fail)
    go_wp2
    by_cases hck:X.cap=k
    ·have Y5:j=k:=by omega
     have HZ:=yb (show (X.bs.drop k).take m=[] by rw [show m=0 from by have:=Zk.out;omega];rfl);have YO:decide (k<X.bs.length)=false:=ye (by omega)
     go_quiet (fail)
     go_wp2;go_ret2;exact ⟨by rw [HZ.out,<-Zk.out,ZX.out];rfl,by rw [<-Zk.out];simpa using Zc.out _⟩
    ·go_quiet (fail)
     go_wp2;go_ret2;exact ⟨by rw [show m=j-k from by have:=Zk.out;omega,show k+(j-k)=j from by omega,ZX.out];rfl,by rw [<-Zk.out];simpa using Zc.out _⟩
end Go.Proofs.YtcmoehknppjkiaaGreatDoor
