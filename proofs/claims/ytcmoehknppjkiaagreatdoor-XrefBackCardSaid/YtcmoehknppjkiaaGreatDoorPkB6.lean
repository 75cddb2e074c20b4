/-
  Our texts LexM to LexS, in one.
-/
import Derived.Test.YtcmoehknppjkiaaGreatDoorPkB5
import Derived.IntWalk
import Derived.Deep.RegionHeld3
import Derived.Deep.AppendLies
import Derived.PlainAid
set_option maxRecDepth 8000
set_option maxHeartbeats 8000000
namespace Go.Proofs.YtcmoehknppjkiaaGreatDoor
open Go.RowKit
theorem octV_bd {yq:Bool} {c:UInt8} {t:List UInt8} {x:Nat×Nat} (h:octV yq c t=some x):1<=x.2/\x.2<=t.length+1:=by
 rcases t with _|⟨d,_|⟨e,t⟩⟩
 ·cases yq<;>simp [octV] at h
  subst h;simp
 ·by_cases hd:isOc d=true
  ·cases yq<;>simp [octV,hd] at h
   subst h;simp
  ·simp [octV,hd] at h
   subst h;simp
 ·by_cases hd:isOc d=true
  ·by_cases he:isOc e=true
   ·simp [octV,hd,he] at h
    subst h;simp
   ·simp [octV,hd,he] at h
    subst h;simp
  ·simp [octV,hd] at h
   subst h;simp
theorem escV_bd {yq:Bool} {t:List UInt8} {x:List UInt8} {m:Nat} (h:escV yq t=some (x,m)):x.length<=1/\1<=m/\m<=t.length:=by
 cases t with
 | nil=>simp [escV] at h
 | cons c t =>
  unfold escV at h;simp only [List.length_cons] at h |-
  by_cases h1:c=110
  ·rw [yg h1] at h;cases h;simp
  rw [yh h1] at h
  by_cases h2:c=114
  ·rw [yg h2] at h;cases h;simp
  rw [yh h2] at h
  by_cases h3:c=116
  ·rw [yg h3] at h;cases h;simp
  rw [yh h3] at h
  by_cases h4:c=98
  ·rw [yg h4] at h;cases h;simp
  rw [yh h4] at h
  by_cases h5:c=102
  ·rw [yg h5] at h;cases h;simp
  rw [yh h5] at h
  by_cases h6:isOc c=true
  ·rw [yg h6] at h
   obtain ⟨y,hy,hx⟩:=Option.map_eq_some_iff.1 h
   cases hx
   obtain ⟨g1,g2⟩:=octV_bd hy;exact ⟨by simp,g1,g2⟩
  rw [yh h6] at h
  by_cases h7:c=10
  ·rw [yg h7] at h;cases h;simp
  rw [yh h7] at h
  by_cases h8:c=13
  ·rw [yg h8] at h
   obtain ⟨y,hy,hx⟩:=Option.map_eq_some_iff.1 h
   cases hx
   refine ⟨by simp,by omega,?_⟩
   cases t with
   | nil=>cases yq<;>simp [zee] at hy;subst hy;simp
   | cons d t=>simp only [zee,Option.some.injEq] at hy;subst hy;simp only [List.length_cons];split<;>omega
  rw [yh h8] at h
  cases h;simp
def zht (bs:List UInt8) (yq:Bool) (V:Option (List UInt8×List UInt8)) (w:World) (e:Ending) (w':World):Prop :=
 Below w.heap.size w w'/\match V with
 | none=>e=.returned (.tuple #[.slice none 0 0,.int .i64 0,.int .i64 (zbf yq)])
 | some (x,r)=>∃v,e=.returned (.tuple #[v,.int .i64 ((bs.length-r.length:Nat):Int),.int .i64 0])/\w'.ownsRow w.heap.size 5 1 v x.length (x.map u8C)/\r.length<=bs.length
theorem zgm {bs:List UInt8} {yq:Bool} {V:Option (List UInt8×List UInt8)} {w w':World} {er:Int} (hV:V=none) (he:zbf yq=er) (hb:Below w.heap.size w w'):zht bs yq V w (.returned (.tuple #[.slice none 0 0,.int .i64 0,.int .i64 er])) w':=by
 subst hV;subst he;exact ⟨hb,rfl⟩
theorem txtR_some {bs:List UInt8} {yq:Bool} {V:Option (List UInt8×List UInt8)} {w w':World} {v:Value} {o:List UInt8} {j:Nat} {n:Int} (hV:V=some (o,bs.drop j)) (hj:j<=bs.length) (hn:n=(j:Int)) (hO:w'.ownsRow w.heap.size 5 1 v o.length (o.map u8C)) (hb:Below w.heap.size w w') :
  zht bs yq V w (.returned (.tuple #[v,.int .i64 n,.int .i64 0])) w':=by
 subst hV;subst hn;refine ⟨hb,v,?_,hO,by simp⟩;rw [ym,show bs.length-(bs.length-j)=j from by omega]
theorem zct {B:Nat} {w wr w5:World} {v v':Value} {o:List UInt8} (c:UInt8) (O:Obj) (hB:Below B w wr) (hBw:B<=wr.heap.size) (hO:wr.ownsRow B 5 1 v o.length (o.map u8C)) {x:Value} (hx:x=u8C c) (hO5:w5.ownsRow B 5 1 v' (o.length+1) (o.map u8C++[x])) (hg5:(wr.alloc O).grownBy w5 v.ownBlock) :
  w5.ownsRow B 5 1 v' (o++[c]).length ((o++[c]).map u8C)/\Below B w w5:=by
 subst hx;exact ⟨by simpa using hO5,(hB.alloc hBw _).grown hg5 (by rw [zaq];omega) (fun q hq=>(hO.lt q hq).1)⟩
theorem rtext_any {w:World} {a:Option Addr} {cap:Nat} {bs:List UInt8} (hr:Row w 1 a bs.length cap (bs.map u8C)) (hn:bs.length<=400000) (k:Nat) (hk:k<=bs.length) (yq:Bool) :
  Calls Tryz.prog 108 #[.slice a bs.length cap,.int .i64 k,.bool yq] w (zht bs yq (zbe yq 1 [] (bs.drop k)) w):=by
 obtain ⟨V,hV⟩:∃V,V=zbe yq 1 [] (bs.drop k):=⟨_,rfl⟩;rw [<-hV];have HV:=yb hV;have HC:=yb (fun (W:World) (h:Below w.heap.size w W) j (hj:j<bs.length)=>(hr.mono h).at 0 j hj);have HE:=yb (fun (W:World) (h:Below w.heap.size w W) j=>rescape_any (hr.mono h) hn j yq);have HK:=yb hk;clear hV hr hk;go_enter Tryz.func108,Tryz.ntmps108
 go_wp2
 go_loopw [1,9,10] (fun i v d wr=>∃(j D:Nat) (o:List UInt8),j<=bs.length/\i=.int .i64 j/\d=.int .i64 D/\1<=D/\D<=j+1/\o.length<=j/\Hid (wr.ownsRow w.heap.size 5 1 v o.length (o.map u8C))/\Hid (Below w.heap.size w wr)/\Hid (V=zbe yq D o (bs.drop j))) (fun i _ _ _=>bs.length-(intOf i).toNat)
 case atStart=>exact ⟨k,1,[],HK.out,rfl,by go_num,by omega,by omega,by simp,yb (World.ownsRow_nil _ _ _ _),yb (Below.refl _ _),HV⟩
 case round =>
  obtain ⟨j,D,o,hj,rfl,rfl,hD,Yu,Yv,HO,HB,HG⟩:=hrel;have Qy:=HB.out.size
  by_cases hlt:j<bs.length
  ·obtain ⟨b0,off,ha,-,hc⟩:=HC.out wr HB.out j hlt
   unfold u8C at hc;have QP:=hc j hlt;have Z8:=yb hc;have Zq:decide ((j:Int)<bs.length)=true:=yd (by omega);have ZL:(j:Int)<bs.length:=by omega
   have hg:=HG.out;rw [zay hlt] at hg;have QS:=yb (HE.out wr HB.out (j+1));subst ha;obtain ⟨c,QT⟩:∃c,bs.getD j 0=c:=⟨_,rfl⟩;rw [QT] at QP hg;clear hc QT
   by_cases h92:c=92
   ·subst h92
    rw [textV_esc] at hg;obtain ⟨E,hE⟩:∃E,escV yq (bs.drop (j+1))=E:=⟨_,rfl⟩;rw [hE] at hg QS;have Q4:=fun x m h=>escV_bd (yq:=yq) (t:=bs.drop (j+1)) (x:=x) (m:=m) (hE.trans h);rw [ym] at Q4;have Q3:=yb Q4;clear hE Q4;unfold zd2 at QS
    cases E with
    | none =>
     have Qn:=yb (show V=none from hg);have Qz:=yb (show Calls Tryz.prog 146 #[.slice (some ⟨b0,off,none⟩) bs.length cap,.int .i64 ((j:Int)+1),.bool yq] wr fun e w'=>e=.returned (.tuple #[.int .u8 0,.int .i64 0,.bool false,.int .i64 (zbf yq)])/\wr=w' from QS.out);have Yw:(zbf yq != 0)=true:=by cases yq<;>rfl
     have HQ:=yb (show zbf yq=zbf yq from rfl);clear hg QS;generalize hOE:zbf yq=oe at *;have Z9:=yb hOE;clear hOE;go_wp2_with fail
     refine Qz.out.mono ?_;rintro e w2 ⟨rfl,rfl⟩;go_wp2
     go_ret3
     exact zgm Qn.out Z9.out HB.out
    | some y =>
     obtain ⟨x,m⟩:=y;obtain ⟨Zr,Yx,Yy⟩:=Q3.out x m rfl;have Qw:V=zbe yq D (o++x) ((bs.drop (j+1)).drop m):=hg;rw [List.drop_drop] at Qw;clear hg;rcases x with _|⟨z,_|⟨z2,zs⟩⟩
     ·have Qz:=yb (show Calls Tryz.prog 146 #[.slice (some ⟨b0,off,none⟩) bs.length cap,.int .i64 ((j:Int)+1),.bool yq] wr fun e w'=>e=.returned (.tuple #[.int .u8 0,.int .i64 ((j+1+m:Nat):Int),.bool false,.int .i64 0])/\wr=w' from QS.out)
      rw [List.append_nil] at Qw;have Qp:=yb Qw;clear Qw QS;go_wp2_with fail
      refine Qz.out.mono ?_;rintro e w2 ⟨rfl,rfl⟩;go_wp2
      go_roundw
      case rel=>exact ⟨j+1+m,D,o,by omega,by go_num,rfl,hD,by omega,by omega,HO,HB,Qp⟩
      case measure=>simp [intOf];omega
     ·have Qz:=yb (show Calls Tryz.prog 146 #[.slice (some ⟨b0,off,none⟩) bs.length cap,.int .i64 ((j:Int)+1),.bool yq] wr fun e w'=>e=.returned (.tuple #[.int .u8 z.toNat,.int .i64 ((j+1+m:Nat):Int),.bool true,.int .i64 0])/\wr=w' from QS.out)
      have Qp:=yb Qw;clear Qw QS;go_wp2_with fail
      refine Qz.out.mono ?_;rintro e w2 ⟨rfl,rfl⟩;go_wp2_with (at_builtin;refine zaE zdo rfl (.tmp 41) (.tmp 43) rfl w.heap.size _ o.length _ rfl (HO.out.alloc _) _ 1 _ _ rfl (zbz _ _ _) (zbZ rfl) (by unfold maxLen;omega) (by omega) (by rw [zaq];omega) ?_;intro v' w5 hO5 hg5 hnil5;have Qh:=yb (zct z _ HB.out Qy HO.out rfl hO5 hg5);clear hO5 hg5 hnil5)
      go_roundw
      case rel=>exact ⟨j+1+m,D,o++[z],by omega,by go_num,rfl,hD,by omega,by simp;omega,yb Qh.out.1,yb Qh.out.2,Qp⟩
      case measure=>simp [intOf];omega
     ·simp at Zr
   ·have e92:=zaw h92 92 rfl
    by_cases h13:c=13
    ·subst h13
     rw [textV_nl] at hg
     by_cases hj1:j+1<bs.length
     ·have Ya:=Z8.out (j+1) hj1
      rw [zay hj1] at hg;have d1:decide ((bs.length:Int)<=(j:Int)+1)=false:=ye (by omega);have d2:decide ((j:Int)+1<bs.length)=true:=yd (by omega);have Yb:(j:Int)+1<bs.length:=by omega
      by_cases h10:bs.getD (j+1) 0=10
      ·have Qw:V=zbe yq D (o++[10]) (bs.drop (j+1+1)):=by
        rw [hg,h10];simp [zee]
       rw [h10,show ((10:UInt8).toNat:Int)=10 from rfl] at Ya;have Qp:=yb Qw;clear hg Qw h10 h92;go_wp2_with (at_builtin;refine zaE zdo rfl (.tmp 89) (.tmp 91) rfl w.heap.size _ o.length _ rfl (HO.out.alloc _) _ 1 _ _ rfl (zbz _ _ _) (zbZ rfl) (by unfold maxLen;omega) (by omega) (by rw [zaq];omega) ?_;intro v' w5 hO5 hg5 hnil5;have Qh:=yb (zct 10 _ HB.out Qy HO.out rfl hO5 hg5);clear hO5 hg5 hnil5)
       go_roundw
       case rel=>exact ⟨j+1+1,D,o++[10],by omega,by go_num,rfl,hD,by omega,by simp;omega,yb Qh.out.1,yb Qh.out.2,Qp⟩
       case measure=>simp [intOf];omega
      ·have Qw:V=zbe yq D (o++[10]) (bs.drop (j+1)):=by
        rw [hg,zay hj1]
        show zbe yq D (o++[10]) ((bs.getD (j+1) 0::bs.drop (j+1+1)).drop (if bs.getD (j+1) 0=10 then 1 else 0))=_;rw [yh h10];rfl
       have e10:=zaw h10 10 rfl;have Qp:=yb Qw;clear hg Qw h10 h92;generalize (bs.getD (j+1) 0).toNat=y at *;go_wp2_with (at_builtin;refine zaE zdo rfl (.tmp 89) (.tmp 91) rfl w.heap.size _ o.length _ rfl (HO.out.alloc _) _ 1 _ _ rfl (zbz _ _ _) (zbZ rfl) (by unfold maxLen;omega) (by omega) (by rw [zaq];omega) ?_;intro v' w5 hO5 hg5 hnil5;have Qh:=yb (zct 10 _ HB.out Qy HO.out rfl hO5 hg5);clear hO5 hg5 hnil5)
       go_roundw
       case rel=>exact ⟨j+1,D,o++[10],by omega,by go_num,rfl,hD,by omega,by simp;omega,yb Qh.out.1,yb Qh.out.2,Qp⟩
       case measure=>simp [intOf];omega
     ·rw [zbm hj1] at hg
      have d1:decide ((bs.length:Int)<=(j:Int)+1)=true:=yd (by omega);have d2:decide ((j:Int)+1<bs.length)=false:=ye (by omega);clear h92
      cases yq
      ·have Qp:=yb (show V=none from hg)
       clear hg;go_wp2
       go_ret3
       exact zgm Qp.out rfl HB.out
      ·have Qp:=yb (show V=zbe true D (o++[10]) (bs.drop (j+1)) by rw [hg,zbm hj1];rfl)
       clear hg;go_wp2_with (at_builtin;refine zaE zdo rfl (.tmp 89) (.tmp 91) rfl w.heap.size _ o.length _ rfl (HO.out.alloc _) _ 1 _ _ rfl (zbz _ _ _) (zbZ rfl) (by unfold maxLen;omega) (by omega) (by rw [zaq];omega) ?_;intro v' w5 hO5 hg5 hnil5;have Qh:=yb (zct 10 _ HB.out Qy HO.out rfl hO5 hg5);clear hO5 hg5 hnil5)
       go_roundw
       case rel=>exact ⟨j+1,D,o++[10],by omega,by go_num,rfl,hD,by omega,by simp;omega,yb Qh.out.1,yb Qh.out.2,Qp⟩
       case measure=>simp [intOf];omega
    ·have e13:=zaw h13 13 rfl
     by_cases h40:c=40
     ·subst h40
      rw [textV_in] at hg;have Qp:=yb hg;clear hg h92 h13;go_wp2_with (at_builtin;refine zaE zdo rfl (.tmp 89) (.tmp 91) rfl w.heap.size _ o.length _ rfl (HO.out.alloc _) _ 1 _ _ rfl (zbz _ _ _) (zbZ rfl) (by unfold maxLen;omega) (by omega) (by rw [zaq];omega) ?_;intro v' w5 hO5 hg5 hnil5;have Qh:=yb (zct 40 _ HB.out Qy HO.out rfl hO5 hg5);clear hO5 hg5 hnil5)
      go_roundw
      case rel=>exact ⟨j+1,D+1,o++[40],by omega,by go_num,by go_num,by omega,by omega,by simp;omega,yb Qh.out.1,yb Qh.out.2,Qp⟩
      case measure=>simp [intOf];omega
     ·have e40:=zaw h40 40 rfl
      by_cases h41:c=41
      ·subst h41
       rw [textV_out] at hg
       by_cases hD1:D=1
       ·subst hD1
        rw [yg rfl] at hg;have Qp:=yb hg;clear hg h92 h13 h40;go_wp2
        go_ret3
        exact txtR_some Qp.out hlt rfl HO.out HB.out
       ·rw [yh hD1] at hg
        have dD:(((D:Int)-1)==0)=false:=by rw [yf];omega
        have Qp:=yb hg;have HD:=yb hD1;clear hg h92 h13 h40 hD1;go_wp2_with (at_builtin;refine zaE zdo rfl (.tmp 89) (.tmp 91) rfl w.heap.size _ o.length _ rfl (HO.out.alloc _) _ 1 _ _ rfl (zbz _ _ _) (zbZ rfl) (by unfold maxLen;omega) (by omega) (by rw [zaq];omega) ?_;intro v' w5 hO5 hg5 hnil5;have Qh:=yb (zct 41 _ HB.out Qy HO.out rfl hO5 hg5);clear hO5 hg5 hnil5)
        go_roundw
        case rel=>exact ⟨j+1,D-1,o++[41],by omega,by go_num,by go_num,by have:=HD.out;omega,by omega,by simp;omega,yb Qh.out.1,yb Qh.out.2,Qp⟩
        case measure=>simp [intOf];omega
      ·have e41:=zaw h41 41 rfl
       rw [zhf _ _ _ _ _ h92 h13 h40 h41] at hg;have Qp:=yb hg;have dD:((D:Int)==0)=false:=by rw [yf];omega
       clear hg h92 h13 h40 h41;obtain ⟨x,hx⟩:∃x,c.toNat=x:=⟨_,rfl⟩;rw [hx] at QP e92 e13 e40 e41;have HX:=yb (show Value.int .u8 (x:Int)=u8C c by rw [<-hx];rfl);clear hx;go_wp2_with (at_builtin;refine zaE zdo rfl (.tmp 89) (.tmp 91) rfl w.heap.size _ o.length _ rfl (HO.out.alloc _) _ 1 _ _ rfl (zbz _ _ _) (zbZ rfl) (by unfold maxLen;omega) (by omega) (by rw [zaq];omega) ?_;intro v' w5 hO5 hg5 hnil5;have Qh:=yb (zct c _ HB.out Qy HO.out HX.out hO5 hg5);clear hO5 hg5 hnil5)
       go_roundw
       case rel=>exact ⟨j+1,D,o++[c],by omega,by go_num,rfl,hD,by omega,by simp;omega,yb Qh.out.1,yb Qh.out.2,Qp⟩
       case measure=>simp [intOf];omega
  ·obtain rfl:j=bs.length:=by omega
   have hg:=HG.out;rw [List.drop_length,textV_nil] at hg;have Qn:=yb hg;have Zq:decide ((bs.length:Int)<bs.length)=false:=ye (by omega);clear hg;go_wp2_with (go_at_call 145;refine (zhJ _ _).mono ?_;rintro e w' ⟨rfl,rfl⟩)
   go_ret3
   exact zgm Qn.out rfl HB.out
def pk:List Int->List UInt8
 | a::b::t=>UInt8.ofNat (16*a+b).toNat::pk t
 | _=>[]
theorem zfI:∀(n:Nat) (l m:List Int),l.length=2*n->pk (l++m)=pk l++pk m
 | 0,l,m,h=>by
  obtain rfl:l=[]:=List.eq_nil_of_length_eq_zero (by omega);rfl
 | n+1,l,m,h=>by
  rcases l with _|⟨a,_|⟨b,t⟩⟩
  ·simp at h
  ·simp at h;omega
  ·simp only [List.cons_append,pk]
   rw [zfI n t m (by simp at h;omega)]
structure DgP (ds:List Int) (out:List UInt8) (half:Int):Prop where
 bd:∀d∈ds,0<=d/\d<=15
 form:∃ps:List Int,ps.length=2*out.length/\pk ps=out/\((half=-1/\ds=ps)\/(0<=half/\ds=ps++[half]))
theorem DgP.nil:DgP [] [] (-1):=⟨fun d h=>(by cases h),[],rfl,rfl,.inl ⟨rfl,rfl⟩⟩
theorem DgP.put {ds:List Int} {out:List UInt8} {half:Int} (h:DgP ds out half) {d:Int} (h0:0<=d) (h1:d<=15):(half<0->DgP (ds++[d]) out d)/\(0<=half->DgP (ds++[d]) (out++[UInt8.ofNat (16*half+d).toNat]) (-1)):=by
 obtain ⟨hb,ps,hl,hp,hf⟩:=h
 have ZM:∀x∈ds++[d],0<=x/\x<=15:=fun x hx=>by
  rcases List.mem_append.1 hx with h|h
  ·exact hb x h
  ·simp at h;subst h;exact ⟨h0,h1⟩
 refine ⟨fun hn=>⟨ZM,ps,hl,hp,.inr ⟨h0,?_⟩⟩,fun hn=>⟨ZM,ds++[d],?_,?_,.inl ⟨rfl,rfl⟩⟩⟩
 ·rcases hf with ⟨_,rfl⟩|⟨h,_⟩
  ·rfl
  ·omega
 ·rcases hf with ⟨h,_⟩|⟨h,rfl⟩
  ·omega
  ·simp;omega
 ·rcases hf with ⟨h,_⟩|⟨h,rfl⟩
  ·omega
  ·rw [List.append_assoc,zfI _ _ _ hl,hp];rfl
theorem DgP.odd {ds:List Int} {out:List UInt8} {half:Int} (h:DgP ds out half):((ds.length:Int) % 2=1↔0<=half)/\(half<0->pk ds=out/\ds.length=2*out.length)/\(0<=half->pk (ds++[0])=out++[UInt8.ofNat (16*half).toNat]/\(ds++[0]).length=2*(out++[UInt8.ofNat (16*half).toNat]).length):=by
 obtain ⟨hb,ps,hl,hp,hf⟩:=h;rcases hf with ⟨h,rfl⟩|⟨h,rfl⟩
 ·exact ⟨by omega,fun _=>⟨hp,hl⟩,fun h=>by omega⟩
 ·refine ⟨by simp;omega,fun h=>by omega,fun _=>⟨?_,by simp;omega⟩⟩
  rw [List.append_assoc,zfI _ _ _ hl,hp];simp [pk]
theorem pk_get:∀(m:Nat) (ds:List Int),2*m+1<ds.length->(pk ds)[m]?=some (UInt8.ofNat (16*ds.getD (2*m) 0+ds.getD (2*m+1) 0).toNat)
 | 0,ds,h=>by
  rcases ds with _|⟨a,_|⟨b,t⟩⟩
  ·simp at h
  ·simp at h
  ·simp [pk]
 | m+1,ds,h=>by
  rcases ds with _|⟨a,_|⟨b,t⟩⟩
  ·simp at h
  ·simp at h
  ·simp only [pk,List.getElem?_cons_succ]
   rw [pk_get m t (by simp at h;omega)];simp [List.getD,show 2*(m+1)=2*m+1+1 from by omega]
theorem take_next {X:List UInt8} {m:Nat} {c:UInt8} (h:X[m]?=some c):X.take (m+1)=X.take m++[c]:=by
 have hm:m<X.length:=(List.getElem?_eq_some_iff.1 h).1;rw [List.take_succ_eq_append_getElem hm,(List.getElem?_eq_some_iff.1 h).2]
def zdu (bs:List UInt8) (yq:Bool) (V:Int×List UInt8×List UInt8) (w:World) (e:Ending) (w':World):Prop :=
 Below w.heap.size w w'/\((V.1=1/\e=.returned (.tuple #[.slice none 0 0,.int .i64 0,.int .i64 (zbf yq)]))\/(V.1=11/\e=.returned (.tuple #[.slice none 0 0,.int .i64 0,.int .i64 11])) \/
  (V.1=0/\∃v,e=.returned (.tuple #[v,.int .i64 ((bs.length-V.2.2.length:Nat):Int),.int .i64 0])/\w'.ownsRow w.heap.size 5 1 v V.2.1.length (V.2.1.map u8C)/\V.2.2.length<=bs.length))
theorem hexR_open {bs:List UInt8} {yq:Bool} {V:Int×List UInt8×List UInt8} {w w':World} (hV:V=(1,[],[])) (hb:Below w.heap.size w w'):zdu bs yq V w (.returned (.tuple #[.slice none 0 0,.int .i64 0,.int .i64 (zbf yq)])) w':=by
 subst hV;exact ⟨hb,.inl ⟨rfl,rfl⟩⟩
theorem hexR_form {bs:List UInt8} {yq:Bool} {V:Int×List UInt8×List UInt8} {w w':World} (hV:V=(11,[],[])) (hb:Below w.heap.size w w'):zdu bs yq V w (.returned (.tuple #[.slice none 0 0,.int .i64 0,.int .i64 11])) w':=by
 subst hV;exact ⟨hb,.inr (.inl ⟨rfl,rfl⟩)⟩
theorem hexR_some {bs:List UInt8} {yq:Bool} {V:Int×List UInt8×List UInt8} {w w':World} {v:Value} {o:List UInt8} {j:Nat} {n:Int} (hV:V=(0,o,bs.drop j)) (hj:j<=bs.length) (hn:n=(j:Int)) (hO:w'.ownsRow w.heap.size 5 1 v o.length (o.map u8C)) (hb:Below w.heap.size w w') :
  zdu bs yq V w (.returned (.tuple #[v,.int .i64 n,.int .i64 0])) w':=by
 subst hV;subst hn;refine ⟨hb,.inr (.inr ⟨rfl,v,?_,hO,by simp⟩)⟩;simp only;rw [ym,show bs.length-(bs.length-j)=j from by omega]
def i64C (x:Int):Value:=.int .i64 x
theorem EInt:zfo Tryz.prog 183 3 (.int .i64 0) 1 8:=⟨Tryz.underlying183,by kernel_rfl,rfl,by omega⟩
structure DgM (w:World) (v:Value) (ds:List Int) (wr:World):Prop where
 row:wr.ownsRow w.heap.size 3 1 v ds.length (ds.map i64C)
 bel:Below w.heap.size w wr
theorem DgM.put {w wr w5:World} {v v':Value} {ds:List Int} (h:DgM w v ds wr) (d:Int) (O:Obj) (hO5:w5.ownsRow w.heap.size 3 1 v' (ds.length+1) (ds.map i64C++[.int .i64 d])) (hg5:(wr.alloc O).grownBy w5 v.ownBlock):DgM w v' (ds++[d]) w5 :=
 ⟨by have h:=hO5;simpa [i64C] using h,(h.bel.alloc h.bel.size _).grown hg5 (by rw [zaq];have:=h.bel.size;omega) (fun q hq=>(h.row.lt q hq).1)⟩
theorem DgM.len {w wr:World} {v:Value} {ds:List Int} (h:DgM w v ds wr):∃a cap,v=.slice a ds.length cap/\Row wr 1 a ds.length cap (ds.map i64C):=by
 obtain ⟨a,cap,hv,hr,-⟩:=Row.of_owns h.row;exact ⟨a,cap,hv,hr⟩
theorem zeJ {w:World} {a:Option Addr} {cap:Nat} {bs:List UInt8} (hr:Row w 1 a bs.length cap (bs.map u8C)) (hn:bs.length<=400000) (k:Nat) (hk:k<=bs.length) (yq:Bool) :
  Calls Tryz.prog 107 #[.slice a bs.length cap,.int .i64 k,.bool yq] w (zdu bs yq (hexV [] (-1) (bs.drop k)) w):=by
 obtain ⟨V,hV⟩:∃V,V=hexV [] (-1) (bs.drop k):=⟨_,rfl⟩;rw [<-hV];have HV:=yb hV;have HC:=yb (fun (W:World) (h:Below w.heap.size w W) j (hj:j<bs.length)=>(hr.mono h).at 0 j hj);have HK:=yb hk;clear hV hr hk;go_enter Tryz.func107,Tryz.ntmps107
 go_wp2
 go_loopw [1,9] (fun i v wr=>∃(j:Nat) (ds:List Int) (o:List UInt8) (half:Int),j<=bs.length/\i=.int .i64 j/\ds.length<=j/\Hid (DgM w v ds wr)/\Hid (DgP ds o half)/\Hid (V=hexV o half (bs.drop j))) (fun i _ _=>bs.length-(intOf i).toNat)
 case atStart=>exact ⟨k,[],[],-1,HK.out,rfl,by simp,yb ⟨World.ownsRow_nil _ _ _ _,Below.refl _ _⟩,yb DgP.nil,HV⟩
 case round =>
  obtain ⟨j,ds,o,half,hj,rfl,Yz,HD,HP,HG⟩:=hrel;have Qy:=HD.out.bel.size
  by_cases hlt:j<bs.length
  ·obtain ⟨b0,off,ha,-,hc⟩:=HC.out wr HD.out.bel j hlt
   unfold u8C at hc;have QP:=hc j hlt;have Zq:decide ((j:Int)<bs.length)=true:=yd (by omega);have Yc:decide (j<bs.length)=true:=yd hlt;have ZL:(j:Int)<bs.length:=by omega
   have hg:=HG.out;rw [zay hlt,hexV] at hg;subst ha;obtain ⟨c,QT⟩:∃c,bs.getD j 0=c:=⟨_,rfl⟩;rw [QT] at QP hg;clear hc QT
   by_cases h62:c=62
   ·subst h62
    rw [yg rfl] at hg;obtain ⟨p1,p2,p3⟩:=HP.out.odd;have Q3:=yb HP.out.bd;rw [show ((62:UInt8).toNat:Int)=62 from rfl] at QP
    by_cases hh:0<=half
    ·rw [yg hh] at hg
     have ho:((ds.length:Int) % 2==1)=true:=by rw [beq_iff_eq];exact p1.2 hh
     obtain ⟨q1,q2⟩:=p3 hh;obtain ⟨va,vcap,hv,-⟩:=HD.out.len
     have Q5:=yb (show ∀d∈ds++[0],0<=d/\d<=15 from fun d hd=>by
      rcases List.mem_append.1 hd with h|h
      ·exact Q3.out d h
      ·simp at h;subst h;omega)
     have Zu:=yb q1;have Zv:=yb q2;have Qn:=yb hg;subst hv;clear hg p1 p2 p3 q1 q2 hh;generalize o++[UInt8.ofNat (16*half).toNat]=X at *;go_wp2_with (at_builtin;refine zaE EInt rfl (.tmp 29) (.tmp 30) rfl w.heap.size _ ds.length _ rfl (HD.out.row.alloc _) _ 1 _ _ rfl (zbz _ _ _) (zbZ rfl) (by unfold maxLen;omega) (by omega) (by rw [zaq];omega) ?_;intro v' w5 hO5 hg5 hnil5;have QQ:=yb (HD.out.put 0 _ hO5 hg5);clear hO5 hg5 hnil5)
     have Yd:(ds++[0]).length<=400001:=by simp;omega
     have Q6:=Q5;generalize ds++[0]=es at *;obtain ⟨ea,ec,Zw,Qq⟩:=QQ.out.len;subst Zw;have Zx:=yb Qq;clear Qq Q3 Q5 HD HP HG
     go_loopw [11,12] (fun v i wq=>∃(m p:Nat),m<=X.length/\i=.int .i64 p/\Hid (p=2*m)/\Hid (wq.ownsRow w5.heap.size 5 1 v (X.take m).length ((X.take m).map u8C))/\Hid (Below w5.heap.size w5 wq)) (fun _ i _=>es.length-(intOf i).toNat)
     case atStart=>exact ⟨0,0,Nat.zero_le _,by go_num,yb rfl,yb (by simpa using World.ownsRow_nil _ _ _ _),yb (Below.refl _ _)⟩
     case round =>
      obtain ⟨m,p,hm,rfl,Zy,HO,HB⟩:=hrel;have Q7:=Zv.out;have QZ:=Zy.out;have Q0:=HB.out.size
      by_cases hmx:m<X.length
      ·have Zz:p+1<es.length:=by omega
       obtain ⟨b1,off1,he,ZA,QA⟩:=Zx.out.at 0 p (by omega);have QR:=fun k hk=>cell?_keep HB.out (QA k hk);clear QA;have c1:=QR p (by omega);have c2:=QR (p+1) Zz;unfold i64C at c1 c2;have hA:=Q6.out (es.getD p 0) (by rw [List.getD_eq_getElem?_getD,List.getElem?_eq_getElem (by omega)];exact List.getElem_mem _);have hB:=Q6.out (es.getD (p+1) 0) (by rw [List.getD_eq_getElem?_getD,List.getElem?_eq_getElem (by omega)];exact List.getElem_mem _);have ZB:=yb (take_next (X:=X) (m:=m) (by rw [<-Zu.out,pk_get m es (by omega),<-QZ]));have ZC:decide (p<es.length)=true:=yd (by omega);have Ye:(p:Int)<es.length:=by omega
       have ZD:(p:Int)+1<es.length:=by omega
       have hmo:(X.take m).length<=400000:=by rw [List.length_take];omega
       have HM:=yb (show es.length-(p+2)<es.length-p by omega);have ZE:=yb (show p+2=2*(m+1) by omega);have ZF:=yb hmx;have Yf:p<=400001:=by omega
       subst he;obtain ⟨ZN,ZO⟩:=hA;obtain ⟨Qi,QB⟩:=hB;generalize es.getD p 0=A at *;generalize es.getD (p+1) 0=B at *;have Q8:=yb (zfA (16*A+B) (by omega) (by omega));clear QR Q7 QZ hm hmx;go_wp2;have ak:u11.ownBlock≠some b1:=fun e=>by have h1:=(HO.out.lt b1 e).1;omega
       have Q9:b1<wr.heap.size:=by omega
       have i1:IntKind.i64.wrap ((p:Int)+1)=(p:Int)+1:=IntWalk.i64_in _ (by omega);have i2:IntKind.i64.wrap (16*A)=16*A:=IntWalk.i64_in _ (by omega);have i3:IntKind.i64.wrap (16*A+B)=16*A+B:=IntWalk.i64_in _ (by omega);have i4:IntKind.u8.wrap (16*A+B)=16*A+B:=by rw [IntKind.wrap_u8];omega
       have i5:((p:Int)+1).toNat=p+1:=by omega
       have i6:(0:Int)<=(p:Int)+1:=by omega
       have hBw:w5.heap.size<=wr.heap.size:=Q0
       go_region_held3 (fun w'=>w'.cell? ⟨b1,off1+p,none⟩=some (.int .i64 A)/\w'.cell? ⟨b1,off1+(p+1),none⟩=some (.int .i64 B))
        (first
         | go_keep
         |(go_split_ands
           refine ⟨?_,?_⟩
           ·(rw [hgrow.cell_far _ (by simp;omega) (Ne.symm ak)];assumption)
           ·(rw [hgrow.cell_far _ (by simp;omega) (Ne.symm ak)];assumption)))
        ((obtain ⟨iB,Za,Zb,Zc,Zd⟩:=info_parts zdo.info;refine step_append_lies _ (by rfl) _ _ _ (by rfl) w5.heap.size 5 iB _ 1 1 zdo.und Za Zb Zc Zd rfl (by omega) u11 (X.take m).length _ (by rfl) ((HO.out.alloc _).drew) ⟨wr.heap.size,0,none⟩ 1 1 [.int .u8 (16*A+B)] (by rfl) (by rfl) (World.news_of_block (cs:=#[.int .u8 (16*A+B)]) (t:=5) (fr:=(0,0)) (heap_alloc_new wr _)) (by simp [Value.oneCell']) (by omega) (by unfold maxLen;omega) (by omega) (by simp;omega) (wr.heap.size+1) (by simp) ?_;intro g cap7 w7 hO7 hgrow hat hlt))
       have QU:=yb (show w7.ownsRow w5.heap.size 5 1 (.slice (some ⟨g,0,none⟩) ((X.take m).length+1) cap7) (X.take m++[UInt8.ofNat (16*A+B).toNat]).length ((X.take m++[UInt8.ofNat (16*A+B).toNat]).map u8C)/\Below w5.heap.size w5 w7 from
        zct (UInt8.ofNat (16*A+B).toNat) (.cells #[.int .u8 (16*A+B)] 5) (zag HB.out 1) hBw (zbh HO.out (zag (Below.refl _ _) 1)) (show Value.int .u8 (16*A+B)=u8C (UInt8.ofNat (16*A+B).toNat) from congrArg (Value.int .u8) Q8.out) hO7 hgrow)
       clear hgrow hO7 hat hlt ak i1 i2 i3 i4 i5 i6;go_wp2
       go_roundw
       case rel=>exact ⟨m+1,p+2,ZF.out,by go_num,ZE,yb (by rw [ZB.out];have h:=QU.out.1;simpa using h),yb QU.out.2⟩
       case measure=>have:=HM.out;simp only [intOf];omega
      ·have ZC:decide (p<es.length)=false:=ye (by omega)
       have hX:X.take m=X:=List.take_of_length_le (by omega);have ZG:=yb (by have h:=HO.out;rw [hX] at h;exact h);have ZH:=yb (QQ.out.bel.trans (HB.out.mono QQ.out.bel.size));have Ze:=zci ZG.out QQ.out.bel.size;have ZI:=yb Ze;clear hX Ze Q7 QZ hmx;go_wp2
       go_ret3
       exact hexR_some Qn.out hlt rfl ZI.out ZH.out
    ·have ZP:half<0:=by omega
     rw [yh hh] at hg;have ho:((ds.length:Int) % 2==1)=false:=by rw [yf];exact fun e=>hh (p1.1 e)
     obtain ⟨q1,q2⟩:=p2 ZP;obtain ⟨ea,ec,Zw,Qq⟩:=HD.out.len;have Zu:=yb q1;have Zv:=yb q2;have Qn:=yb hg;have Q6:=Q3;have QQ:=HD;have Zx:=yb Qq;have Yd:ds.length<=400001:=by omega
     subst Zw;clear hg p1 p2 p3 q1 q2 hh ZP Qq Q3 HD HP HG;obtain ⟨X,hX⟩:∃X,X=o:=⟨_,rfl⟩;subst hX;obtain ⟨es,Yg⟩:∃es,es=ds:=⟨_,rfl⟩;subst Yg;go_wp2;obtain ⟨w5,Yh⟩:∃w5:World,w5=wr:=⟨_,rfl⟩;subst Yh
     go_loopw [11,12] (fun v i wq=>∃(m p:Nat),m<=X.length/\i=.int .i64 p/\Hid (p=2*m)/\Hid (wq.ownsRow w5.heap.size 5 1 v (X.take m).length ((X.take m).map u8C))/\Hid (Below w5.heap.size w5 wq)) (fun _ i _=>es.length-(intOf i).toNat)
     case atStart=>exact ⟨0,0,Nat.zero_le _,by go_num,yb rfl,yb (by simpa using World.ownsRow_nil _ _ _ _),yb (Below.refl _ _)⟩
     case round =>
      obtain ⟨m,p,hm,rfl,Zy,HO,HB⟩:=hrel;have Q7:=Zv.out;have QZ:=Zy.out;have Q0:=HB.out.size
      by_cases hmx:m<X.length
      ·have Zz:p+1<es.length:=by omega
       obtain ⟨b1,off1,he,ZA,QA⟩:=Zx.out.at 0 p (by omega);have QR:=fun k hk=>cell?_keep HB.out (QA k hk);clear QA;have c1:=QR p (by omega);have c2:=QR (p+1) Zz;unfold i64C at c1 c2;have hA:=Q6.out (es.getD p 0) (by rw [List.getD_eq_getElem?_getD,List.getElem?_eq_getElem (by omega)];exact List.getElem_mem _);have hB:=Q6.out (es.getD (p+1) 0) (by rw [List.getD_eq_getElem?_getD,List.getElem?_eq_getElem (by omega)];exact List.getElem_mem _);have ZB:=yb (take_next (X:=X) (m:=m) (by rw [<-Zu.out,pk_get m es (by omega),<-QZ]));have ZC:decide (p<es.length)=true:=yd (by omega);have Ye:(p:Int)<es.length:=by omega
       have ZD:(p:Int)+1<es.length:=by omega
       have hmo:(X.take m).length<=400000:=by rw [List.length_take];omega
       have HM:=yb (show es.length-(p+2)<es.length-p by omega);have ZE:=yb (show p+2=2*(m+1) by omega);have ZF:=yb hmx;have Yf:p<=400001:=by omega
       subst he;obtain ⟨ZN,ZO⟩:=hA;obtain ⟨Qi,QB⟩:=hB;generalize es.getD p 0=A at *;generalize es.getD (p+1) 0=B at *;have Q8:=yb (zfA (16*A+B) (by omega) (by omega));clear QR Q7 QZ hm hmx;go_wp2;have ak:u11.ownBlock≠some b1:=fun e=>by have h1:=(HO.out.lt b1 e).1;omega
       have Q9:b1<wr.heap.size:=by omega
       have i1:IntKind.i64.wrap ((p:Int)+1)=(p:Int)+1:=IntWalk.i64_in _ (by omega);have i2:IntKind.i64.wrap (16*A)=16*A:=IntWalk.i64_in _ (by omega);have i3:IntKind.i64.wrap (16*A+B)=16*A+B:=IntWalk.i64_in _ (by omega);have i4:IntKind.u8.wrap (16*A+B)=16*A+B:=by rw [IntKind.wrap_u8];omega
       have i5:((p:Int)+1).toNat=p+1:=by omega
       have i6:(0:Int)<=(p:Int)+1:=by omega
       have hBw:w5.heap.size<=wr.heap.size:=Q0
       go_region_held3 (fun w'=>w'.cell? ⟨b1,off1+p,none⟩=some (.int .i64 A)/\w'.cell? ⟨b1,off1+(p+1),none⟩=some (.int .i64 B))
        (first
         | go_keep
         |(go_split_ands
           refine ⟨?_,?_⟩
           ·(rw [hgrow.cell_far _ (by simp;omega) (Ne.symm ak)];assumption)
           ·(rw [hgrow.cell_far _ (by simp;omega) (Ne.symm ak)];assumption)))
        ((obtain ⟨iB,Za,Zb,Zc,Zd⟩:=info_parts zdo.info;refine step_append_lies _ (by rfl) _ _ _ (by rfl) w5.heap.size 5 iB _ 1 1 zdo.und Za Zb Zc Zd rfl (by omega) u11 (X.take m).length _ (by rfl) ((HO.out.alloc _).drew) ⟨wr.heap.size,0,none⟩ 1 1 [.int .u8 (16*A+B)] (by rfl) (by rfl) (World.news_of_block (cs:=#[.int .u8 (16*A+B)]) (t:=5) (fr:=(0,0)) (heap_alloc_new wr _)) (by simp [Value.oneCell']) (by omega) (by unfold maxLen;omega) (by omega) (by simp;omega) (wr.heap.size+1) (by simp) ?_;intro g cap7 w7 hO7 hgrow hat hlt))
       have QU:=yb (show w7.ownsRow w5.heap.size 5 1 (.slice (some ⟨g,0,none⟩) ((X.take m).length+1) cap7) (X.take m++[UInt8.ofNat (16*A+B).toNat]).length ((X.take m++[UInt8.ofNat (16*A+B).toNat]).map u8C)/\Below w5.heap.size w5 w7 from
        zct (UInt8.ofNat (16*A+B).toNat) (.cells #[.int .u8 (16*A+B)] 5) (zag HB.out 1) hBw (zbh HO.out (zag (Below.refl _ _) 1)) (show Value.int .u8 (16*A+B)=u8C (UInt8.ofNat (16*A+B).toNat) from congrArg (Value.int .u8) Q8.out) hO7 hgrow)
       clear hgrow hO7 hat hlt ak i1 i2 i3 i4 i5 i6;go_wp2
       go_roundw
       case rel=>exact ⟨m+1,p+2,ZF.out,by go_num,ZE,yb (by rw [ZB.out];have h:=QU.out.1;simpa using h),yb QU.out.2⟩
       case measure=>have:=HM.out;simp only [intOf];omega
      ·have ZC:decide (p<es.length)=false:=ye (by omega)
       have hX:X.take m=X:=List.take_of_length_le (by omega);have ZG:=yb (by have h:=HO.out;rw [hX] at h;exact h);have ZH:=yb (QQ.out.bel.trans (HB.out.mono QQ.out.bel.size));have Ze:=zci ZG.out QQ.out.bel.size;have ZI:=yb Ze;clear hX Ze Q7 QZ hmx;go_wp2
       go_ret3
       exact hexR_some Qn.out hlt rfl ZI.out ZH.out
   ·have e62:=zaw h62 62 rfl
    rw [yh h62] at hg;have Qg:=yb (fun W=>zdG c.toNat W);rw [<-ze7] at Qg;have ZQ:=yb (fun W=>zhX c W);have Q4:=zhH c;generalize c.toNat=x at *;obtain ⟨sp,ZR⟩:∃sp,isSp c=sp:=⟨_,rfl⟩;rw [ZR] at Qg hg;clear ZR h62;generalize hexD c=d at *
    cases sp
    ·rw [yh (by decide)] at hg
     by_cases hd:d<0
     ·rw [yg hd] at hg
      have Yi:decide (d<0)=true:=yd hd;have Qn:=yb hg;clear hg hd
      go_wp2_with (first
       |(go_at_call 67;refine (Qg.out _).mono ?_;rintro e w' ⟨rfl,rfl⟩)
       |(go_at_call 144;refine (ZQ.out _).mono ?_;rintro e w' ⟨rfl,rfl⟩))
      go_ret3
      exact hexR_form Qn.out HD.out.bel
     ·rw [yh hd] at hg
      have Yi:decide (d<0)=false:=ye hd;obtain ⟨q1,q2⟩:=HP.out.put (show 0<=d by omega) Q4.2
      have HQ:Hid (∃o2 h2,DgP (ds++[d]) o2 h2/\V=hexV o2 h2 (bs.drop (j+1))):=by
       by_cases hh:half<0
       ·rw [yg hh] at hg;exact yb ⟨_,_,q1 hh,hg⟩
       ·rw [yh hh] at hg;exact yb ⟨_,_,q2 (by omega),hg⟩
      obtain ⟨va,vcap,hv,-⟩:=HD.out.len;subst hv;clear hg q1 q2 hd
      go_wp2_with (first
       |(go_at_call 67;refine (Qg.out _).mono ?_;rintro e w' ⟨rfl,rfl⟩)
       |(go_at_call 144;refine (ZQ.out _).mono ?_;rintro e w' ⟨rfl,rfl⟩)
       |(at_builtin;refine zaE EInt rfl (.tmp 60) (.tmp 63) rfl w.heap.size _ ds.length _ rfl (HD.out.row.alloc _) _ 1 _ _ rfl (zbz _ _ _) (zbZ rfl) (by unfold maxLen;omega) (by omega) (by rw [zaq];omega) ?_;intro v' w5 hO5 hg5 hnil5;have QQ:=yb (HD.out.put d _ hO5 hg5);clear hO5 hg5 hnil5))
      go_roundw
      case rel =>
       obtain ⟨o2,h2,q1,q2⟩:=HQ.out;exact ⟨j+1,ds++[d],o2,h2,by omega,by go_num,by simp;omega,QQ,yb q1,yb q2⟩
      case measure=>simp [intOf];omega
    ·rw [yg rfl] at hg
     have Qn:=yb hg;clear hg;go_wp2_with (go_at_call 67;refine (Qg.out _).mono ?_;rintro e w' ⟨rfl,rfl⟩)
     go_roundw
     case rel=>exact ⟨j+1,ds,o,half,by omega,by go_num,by omega,HD,HP,Qn⟩
     case measure=>simp [intOf];omega
  ·obtain rfl:j=bs.length:=by omega
   have hg:=HG.out;rw [List.drop_length,hexV] at hg;have Qn:=yb hg;have Zq:decide ((bs.length:Int)<bs.length)=false:=ye (by omega);clear hg;go_wp2_with (go_at_call 145;refine (zhJ _ _).mono ?_;rintro e w' ⟨rfl,rfl⟩)
   go_ret3
   exact hexR_open Qn.out HD.out.bel
theorem zd4 {w:World} {a:Option Addr} {cap:Nat} {bs:List UInt8} (hr:Row w 1 a bs.length cap (bs.map u8C)) (hn:bs.length<=400000) (k:Nat) (hk:k<=bs.length) :
  Calls Tryz.prog 106 #[.slice a bs.length cap,.int .i64 k] w fun e w'=>e=.returned (.int .i64 ((k+runN (bs.drop k):Nat):Int))/\w=w':=by
 obtain ⟨R,hR⟩:∃R,R=k+runN (bs.drop k):=⟨_,rfl⟩;rw [<-hR];have HR:=yb hR;have HC:=yb (fun j (hj:j<bs.length)=>hr.at 0 j hj);have HK:=yb hk;clear hR hr hk;go_enter Tryz.func106,Tryz.ntmps106
 go_wp2
 go_loop [1] (fun i=>∃j:Nat,j<=bs.length/\i=.int .i64 j/\Hid (R=j+runN (bs.drop j))) (fun i=>bs.length-(intOf i).toNat)
 case atStart=>exact ⟨k,HK.out,rfl,HR⟩
 case round =>
  obtain ⟨j,hj,rfl,HJ⟩:=hrel
  by_cases hlt:j<bs.length
  ·obtain ⟨b,off,ha,-,hc⟩:=HC.out j hlt
   unfold u8C at hc;have QP:=hc j hlt;have hg:=HJ.out;rw [zay hlt] at hg;have Zq:decide ((j:Int)<bs.length)=true:=yd (by omega);have Yc:decide (j<bs.length)=true:=yd hlt;have ZL:(j:Int)<bs.length:=by omega
   have HM:=yb (show bs.length-(j+1)<bs.length-j by omega);have Yj:=yb (show j+1<=bs.length from hlt);subst ha;generalize bs.getD j 0=c at *;have Qg:=yb (fun W=>zdG c.toNat W);have Zs:=yb (fun W=>zaV c.toNat W);rw [<-ze7] at Qg;rw [<-zb6] at Zs;have Qv:isRg c=(!isSp c&&!isDl c):=rfl;generalize c.toNat=x at *;generalize isSp c=sp at *;generalize isDl c=dl at *;clear hc HC
   cases sp
   ·cases dl
    ·have HG:=yb (show R=(j+1)+runN (bs.drop (j+1)) by rw [hg,zfx _ Qv];omega)
     clear hg Qv hlt
     go_wp2_with (first
      |(go_at_call 67;refine (Qg.out _).mono ?_;rintro e w' ⟨rfl,rfl⟩)
      |(go_at_call 82;refine (Zs.out _).mono ?_;rintro e w' ⟨rfl,rfl⟩))
     go_round
     case rel=>exact ⟨j+1,Yj.out,by go_num,HG⟩
     case measure=>have:=HM.out;simp only [intOf];omega
    ·have HG:=yb (show R=j by rw [hg,runN_no _ Qv];omega)
     clear hg Qv hlt
     go_wp2_with (first
      |(go_at_call 67;refine (Qg.out _).mono ?_;rintro e w' ⟨rfl,rfl⟩)
      |(go_at_call 82;refine (Zs.out _).mono ?_;rintro e w' ⟨rfl,rfl⟩))
     go_ret;exact ⟨by rw [HG.out];rfl,rfl⟩
   ·have HG:=yb (show R=j by rw [hg,runN_no _ Qv];omega)
    clear hg Qv hlt
    go_wp2_with (first
     |(go_at_call 67;refine (Qg.out _).mono ?_;rintro e w' ⟨rfl,rfl⟩)
     |(go_at_call 82;refine (Zs.out _).mono ?_;rintro e w' ⟨rfl,rfl⟩))
    go_ret;exact ⟨by rw [HG.out];rfl,rfl⟩
  ·obtain rfl:j=bs.length:=by omega
   have hg:=HJ.out;rw [List.drop_length] at hg;have HG:=yb (show R=bs.length from hg);clear hg;go_wp2;go_ret;exact ⟨by rw [HG.out];rfl,rfl⟩
theorem zfW {w:World} {a:Option Addr} {cap:Nat} {bs:List UInt8} (hr:Row w 1 a bs.length cap (bs.map u8C)) (hn:bs.length<=400000) :
  Calls Tryz.prog 109 #[.slice a bs.length cap] w (zd1 w (zdR bs)):=by
 obtain ⟨V,hV⟩:∃V,V=zdR bs:=⟨_,rfl⟩;rw [<-hV];rw [nameV_fin] at hV;have HV:=yb hV;obtain ⟨r,hrr⟩:∃r,r=w.heap.size:=⟨_,rfl⟩;have Qa:=yb (show (w.alloc (.cells #[.int .i64 0,.int .i64 0,.string ⟨#[]⟩,.slice none 0 0] 25)).heap[r]?=some (.cells #[.int .i64 0,.int .i64 0,.string ⟨#[]⟩,.slice none 0 0] 25 (0,0)) from zac _ hrr);have Qb:=yb (zai w (.cells #[.int .i64 0,.int .i64 0,.string ⟨#[]⟩,.slice none 0 0] 25));have Q1:=yb hrr;have HC:=yb (fun (W:World) (h:Below w.heap.size w W) j (hj:j<bs.length)=>(hr.mono h).at 0 j hj);have Yk:=yb (fun j (hj:j<bs.length)=>hr.at 0 j hj);clear hV hrr hr;go_enter Tryz.func109,Tryz.ntmps109
 go_wp2;rw [<-Q1.out];generalize w.alloc (.cells #[.int .i64 0,.int .i64 0,.string ⟨#[]⟩,.slice none 0 0] 25)=W0 at *;have YA:=(Array.getElem?_eq_some_iff.1 Qa.out).1
 go_loopw [4,5] (fun v i wr=>∃(k:Nat) (o:List UInt8),k<=bs.length/\i=.int .i64 k/\o.length<=k/\Hid (wr.ownsRow W0.heap.size 5 1 v o.length (o.map u8C))/\Hid (Below W0.heap.size W0 wr)/\Hid (V=finN (zbW o (bs.drop k)))) (fun _ i _=>bs.length-(intOf i).toNat)
 case atStart=>exact ⟨0,[],by omega,by go_num,by simp,yb (World.ownsRow_nil _ _ _ _),yb (Below.refl _ _),HV⟩
 case round =>
  obtain ⟨k,o,hk,rfl,YB,HO,HB,HG⟩:=hrel;have Qx:=yb (zab HB.out Qa.out);have QV:=yb (Qb.out.trans (HB.out.mono Qb.out.size));have Qy:=HB.out.size
  by_cases hlt:k<bs.length
  ·have hg:=HG.out
   rw [zay hlt] at hg;obtain ⟨b,off,ha,-,hc⟩:=HC.out wr QV.out k hlt
   have hbW:b<w.heap.size:=by
    obtain ⟨b',off',ZS,Yl,-⟩:=Yk.out k hlt;rw [ha] at ZS;cases ZS;exact Yl
   unfold u8C at hc;have QP:=hc k hlt;have Ym:decide ((k:Int)<bs.length)=true:=yd (by omega);have YC:decide (k<bs.length)=true:=yd hlt;have YD:(k:Int)<bs.length:=by omega
   subst ha;obtain ⟨c,QT⟩:∃c,bs.getD k 0=c:=⟨_,rfl⟩;rw [QT] at QP hg;clear QT
   by_cases h35:c=35
   ·subst h35
    rw [show ((35:UInt8).toNat:Int)=35 from rfl] at QP
    by_cases h2:bs.length<=k+2
    ·have Qc:=yb (show V=none by rw [hg,zff _ _ (by rw [ym];omega)];rfl)
     have Yn:decide ((bs.length:Int)<=(k:Int)+2)=true:=yd (by omega);clear hg hc;obtain ⟨⟨k0,k1,k2,k3⟩,f0,f1,f2,f3⟩:=zad Qx.out;go_wp2;refine yi (zaa rfl _ _ r 25 _ (0,0) _ rfl (set4 Qx.out _ _ _ _) Tryz.underlying25 rfl zao _ rfl) rfl ?_;exact zbS Qc.out (zae QV.out (by have:=Q1.out;omega) _ _ _ _)
    ·have Yn:decide ((bs.length:Int)<=(k:Int)+2)=false:=ye (by omega)
     have ZT:k+1<bs.length:=by omega
     have ZU:k+1+1<bs.length:=by omega
     rw [zay ZT,zay ZU,zgR] at hg;have c1:=hc (k+1) ZT;have c2:=hc (k+2) ZU;have l1:(k:Int)+1<bs.length:=by omega
     have l2:(k:Int)+2<bs.length:=by omega
     have hA:=zhH (bs.getD (k+1) 0);have hB:=zhH (bs.getD (k+1+1) 0);have Zt:=yb (fun W=>zhX (bs.getD (k+1) 0) W);have ZJ:=yb (fun W=>zhX (bs.getD (k+1+1) 0) W);rw [show k+2=k+1+1 from rfl] at c2;generalize hexD (bs.getD (k+1) 0)=A at *;generalize hexD (bs.getD (k+1+1) 0)=B at *;generalize (bs.getD (k+1) 0).toNat=x at *;generalize (bs.getD (k+1+1) 0).toNat=y at *;rw [show k+1+1=k+2 from rfl] at c2;clear hc
     by_cases hAn:A<0
     ·have Qc:=yb (show V=none by rw [hg,yg (.inl hAn)];rfl)
      have Yo:decide (A<0)=true:=yd hAn;clear hg;obtain ⟨⟨k0,k1,k2,k3⟩,f0,f1,f2,f3⟩:=zad Qx.out;go_wp2_with fail
      refine (Zt.out _).mono ?_;rintro e w9 ⟨rfl,rfl⟩;go_wp2;refine yi (zaa rfl _ _ r 25 _ (0,0) _ rfl (set4 Qx.out _ _ _ _) Tryz.underlying25 rfl zao _ rfl) rfl ?_;exact zbS Qc.out (zae QV.out (by have:=Q1.out;omega) _ _ _ _)
     ·have Yo:decide (A<0)=false:=ye hAn
      by_cases hBn:B<0
      ·have Qc:=yb (show V=none by rw [hg,yg (.inr hBn)];rfl)
       have Yp:decide (B<0)=true:=yd hBn;clear hg hAn;obtain ⟨⟨k0,k1,k2,k3⟩,f0,f1,f2,f3⟩:=zad Qx.out;go_wp2_with fail
       refine (Zt.out _).mono ?_;rintro e w9 ⟨rfl,rfl⟩;go_wp2_with fail
       refine (ZJ.out _).mono ?_;rintro e w9 ⟨rfl,rfl⟩;go_wp2;refine yi (zaa rfl _ _ r 25 _ (0,0) _ rfl (set4 Qx.out _ _ _ _) Tryz.underlying25 rfl zao _ rfl) rfl ?_;exact zbS Qc.out (zae QV.out (by have:=Q1.out;omega) _ _ _ _)
      ·have Yp:decide (B<0)=false:=ye hBn
       rw [yh (by rintro (h|h)<;>contradiction)] at hg
       have Qn:=yb hg;have Q8:=yb (zfA (16*A+B) (by omega) (by omega));have ZN:0<=A:=by omega
       have Qi:0<=B:=by omega
       obtain ⟨ZO,YE⟩:=hA;obtain ⟨QB,YF⟩:=hB;have ak:u4.ownBlock≠some b:=fun e=>by have h1:=(HO.out.lt b e).1;have:=Qb.out.size;omega
       have Q9:b<wr.heap.size:=by have:=QV.out.size;omega
       have ZV:=yb (show k+3<=bs.length/\bs.length-(k+3)<bs.length-k by omega);have i1:IntKind.i64.wrap ((k:Int)+1)=(k:Int)+1:=IntWalk.i64_in _ (by omega);have i2:IntKind.i64.wrap ((k:Int)+2)=(k:Int)+2:=IntWalk.i64_in _ (by omega);have i3:IntKind.i64.wrap (16*A)=16*A:=IntWalk.i64_in _ (by omega);have i4:IntKind.i64.wrap (16*A+B)=16*A+B:=IntWalk.i64_in _ (by omega);have i5:IntKind.u8.wrap (16*A+B)=16*A+B:=by rw [IntKind.wrap_u8];omega
       have i6:((k:Int)+1).toNat=k+1:=by omega
       have i7:((k:Int)+2).toNat=k+2:=by omega
       have i8:(0:Int)<=(k:Int)+1:=by omega
       have i9:(0:Int)<=(k:Int)+2:=by omega
       clear hg hAn hBn;go_wp2_with fail
       refine (Zt.out _).mono ?_;rintro e w9 ⟨rfl,rfl⟩;go_wp2_with fail
       refine (ZJ.out _).mono ?_;rintro e w9 ⟨rfl,rfl⟩;go_wp2
       go_region_held3 (fun w'=>w'.cell? ⟨b,off+(k+1),none⟩=some (.int .u8 x)/\w'.cell? ⟨b,off+(k+2),none⟩=some (.int .u8 y))
        (first
         | go_keep
         |(go_split_ands
           refine ⟨?_,?_⟩
           ·(rw [hgrow.cell_far _ (by simp;omega) (Ne.symm ak)];assumption)
           ·(rw [hgrow.cell_far _ (by simp;omega) (Ne.symm ak)];assumption)))
        (first
         |(go_at_call 144;with_reducible refine (Zt.out _).mono ?_;rintro e w9 ⟨rfl,rfl⟩)
         |(go_at_call 144;with_reducible refine (ZJ.out _).mono ?_;rintro e w9 ⟨rfl,rfl⟩)
         |(obtain ⟨iB,Za,Zb,Zc,Zd⟩:=info_parts zdo.info;refine step_append_lies _ (by rfl) _ _ _ (by rfl) W0.heap.size 5 iB _ 1 1 zdo.und Za Zb Zc Zd rfl (by omega) u4 o.length _ (by rfl) ((HO.out.alloc _).drew) ⟨wr.heap.size,0,none⟩ 1 1 [.int .u8 (16*A+B)] (by rfl) (by rfl) (World.news_of_block (cs:=#[.int .u8 (16*A+B)]) (t:=5) (fr:=(0,0)) (heap_alloc_new wr _)) (by simp [Value.oneCell']) (by omega) (by unfold maxLen;omega) (by omega) (by simp;omega) (wr.heap.size+1) (by simp) ?_;intro g cap7 w7 hO7 hgrow hat hlt))
       have QU:=yb (show w7.ownsRow W0.heap.size 5 1 (.slice (some ⟨g,0,none⟩) (o.length+1) cap7) (o++[UInt8.ofNat (16*A+B).toNat]).length ((o++[UInt8.ofNat (16*A+B).toNat]).map u8C)/\Below W0.heap.size W0 w7 from
        zct (UInt8.ofNat (16*A+B).toNat) (.cells #[.int .u8 (16*A+B)] 5) (zag HB.out 1) Qy (zbh HO.out (zag (Below.refl _ _) 1)) (show Value.int .u8 (16*A+B)=u8C (UInt8.ofNat (16*A+B).toNat) from congrArg (Value.int .u8) Q8.out) hO7 hgrow)
       clear hgrow hO7 hat hlt ak i1 i2 i3 i4 i5 i6 i7 i8 i9;go_wp2
       go_roundw
       case rel=>exact ⟨k+3,o++[UInt8.ofNat (16*A+B).toNat],ZV.out.1,by go_num,by simp;omega,yb QU.out.1,yb QU.out.2,yb Qn.out⟩
       case measure=>have:=ZV.out.2;simp only [intOf];omega
   ·rw [zgc _ _ _ h35] at hg
    have Qn:=yb hg;have e35:=zaw h35 35 rfl;have e36:((c.toNat:Int) != 35)=true:=by simp only [bne,e35,yj]
    clear hg h35 hc;obtain ⟨x,hx⟩:∃x,c.toNat=x:=⟨_,rfl⟩;rw [hx] at QP e35 e36;have HX:=yb (show Value.int .u8 (x:Int)=u8C c by rw [<-hx];rfl);clear hx;go_wp2_with (at_builtin;refine zaE zdo rfl (.tmp 18) (.tmp 23) rfl W0.heap.size _ o.length _ rfl (HO.out.alloc _) _ 1 _ _ rfl (zbz _ _ _) (zbZ rfl) (by unfold maxLen;omega) (by omega) (by rw [zaq];omega) ?_;intro v' w5 hO5 hg5 hnil5;have Qh:=yb (zct c _ HB.out Qy HO.out HX.out hO5 hg5);clear hO5 hg5 hnil5)
    go_roundw
    case rel=>exact ⟨k+1,o++[c],by omega,by go_num,by simp;omega,yb Qh.out.1,yb Qh.out.2,Qn⟩
    case measure=>simp [intOf];omega
  ·obtain rfl:k=bs.length:=by omega
   have hg:=HG.out;rw [List.drop_length] at hg;have ZW:V=if 127<o.length\/(0:UInt8)∈o then none else some o:=hg;have Qn:=yb ZW;have Yq:=yb (zer HO.out);obtain ⟨a1,cap1,Yr,Zf,-⟩:=Row.of_owns HO.out;have ZK:=yb Zf;have YG:o.length<=400000:=by omega
   have Ym:decide ((bs.length:Int)<bs.length)=false:=ye (by omega);subst Yr;clear hg ZW Zf;go_wp2
   go_loop [6] (fun i=>∃m:Nat,m<=o.length/\i=.int .i64 m/\Hid (∀j,j<m->o.getD j 0≠0)) (fun i=>o.length-(intOf i).toNat)
   case atStart=>exact ⟨0,by omega,by go_num,yb (fun j hj=>by omega)⟩
   case round =>
    obtain ⟨m,hm,rfl,HZ⟩:=hrel
    by_cases hmo:m<o.length
    ·obtain ⟨b1,off1,he,-,QR⟩:=ZK.out.at 0 m hmo
     have cm:=QR m hmo;unfold u8C at cm;subst he;have YH:decide (m<o.length)=true:=yd hmo;have YI:(m:Int)<o.length:=by omega
     clear QR
     by_cases hz:o.getD m 0=0
     ·have Zg:(0:UInt8)∈o:=by
       rw [<-hz,List.getD_eq_getElem?_getD,List.getElem?_eq_getElem hmo];exact List.getElem_mem _
      have Qc:=yb (show V=none by rw [Qn.out,yg (.inr Zg)]);clear Zg;rw [hz,show ((0:UInt8).toNat:Int)=0 from rfl] at cm;clear hz;obtain ⟨⟨k0,k1,k2,k3⟩,f0,f1,f2,f3⟩:=zad Qx.out;go_wp2;refine yi (zaa rfl _ _ r 25 _ (0,0) _ rfl (set4 Qx.out _ _ _ _) Tryz.underlying25 rfl zao _ rfl) rfl ?_;exact zbS Qc.out (zae QV.out (by have:=Q1.out;omega) _ _ _ _)
     ·have e0:=zaw hz 0 rfl
      have Ys:=yb (show ∀j,j<m+1->o.getD j 0≠0 from fun j hj=>by
       by_cases e:j=m
       ·subst e;exact hz
       ·exact HZ.out j (by omega))
      generalize (o.getD m 0).toNat=x at *;clear hz;go_wp2
      go_round
      case rel=>exact ⟨m+1,hmo,by go_num,Ys⟩
      case measure=>simp [intOf];omega
    ·obtain rfl:m=o.length:=by omega
     have ZX:¬(0:UInt8)∈o:=fun hm=>by
      obtain ⟨j,hj,Yt⟩:=List.getElem_of_mem hm;refine HZ.out j hj ?_;rw [List.getD_eq_getElem?_getD,List.getElem?_eq_getElem hj];exact Yt
     by_cases h127:127<o.length
     ·have Qc:=yb (show V=none by rw [Qn.out,yg (.inl h127)])
      have Zh:decide ((127:Int)<o.length)=true:=yd (by omega);have Zi:decide (127<o.length)=true:=yd h127;clear ZX;obtain ⟨⟨k0,k1,k2,k3⟩,f0,f1,f2,f3⟩:=zad Qx.out;go_wp2;refine yi (zaa rfl _ _ r 25 _ (0,0) _ rfl (set4 Qx.out _ _ _ _) Tryz.underlying25 rfl zao _ rfl) rfl ?_;exact zbS Qc.out (zae QV.out (by have:=Q1.out;omega) _ _ _ _)
     ·have HS:=yb (show V=some o by rw [Qn.out,yh (by rintro (h|h)<;>contradiction)])
      have Zh:decide ((127:Int)<o.length)=false:=ye (by omega);have Zi:decide (127<o.length)=false:=ye h127;clear ZX h127;have YJ:=Yq.out;obtain ⟨⟨k0,k1,k2,k3⟩,f0,f1,f2,f3⟩:=zad Qx.out;go_wp2;refine yi (zaa rfl _ _ r 25 _ (0,0) _ rfl (set4 Qx.out _ _ _ _) Tryz.underlying25 rfl zao _ rfl) rfl ?_;exact name_some HS.out (zae QV.out (by have:=Q1.out;omega) _ _ _ _)
theorem zas:(Tryz.prog.info? 81).map (·.size)=some 8:=by kernel_rfl
structure PA (p:List UInt8) (N:Int) (ov:Bool):Prop where
 dg:p.all isDg=true
 ov_:ov=decide (2147483647<valD p)
 n:ov=false->N=(valD p:Nat)
def PB (p:List UInt8) (i:Nat) (N P:Int) (ov:Bool):Prop:=∃w r,p=w++46::r/\w.length=i/\PA w N ov/\r.all isDg=true/\P=(mil r:Nat)
theorem PA.nil:PA [] 0 false:=⟨rfl,rfl,fun _=>rfl⟩
theorem PA.over {p:List UInt8} {N:Int} (h:PA p N true) {c:UInt8} (hc:isDg c=true):PA (p++[c]) N true :=
 ⟨zde _ _ h.dg hc,by have:=h.ov_;rw [eq_comm,decide_eq_true_iff] at this;rw [eq_comm,decide_eq_true_iff,zb4];omega,fun h=>by cases h⟩
theorem PA.more {p:List UInt8} {N:Int} (h:PA p N false) {c:UInt8} (hc:isDg c=true) (M:Int) (hM:M=10*N+(dgV c:Nat)) (o:Bool) (ho:o=decide (2147483647<M)):PA (p++[c]) M o:=by
 have h1:=h.n rfl;have hv:M=(valD (p++[c]):Nat):=by rw [zb4,hM,h1];omega
 refine ⟨zde _ _ h.dg hc,?_,fun _=>hv⟩;rw [ho,Bool.eq_iff_iff,decide_eq_true_iff,decide_eq_true_iff];omega
theorem PA.point {p:List UInt8} {N:Int} {ov:Bool} (h:PA p N ov):PB (p++[46]) p.length N 0 ov:=⟨p,[],rfl,rfl,h,rfl,rfl⟩
theorem mil_by (r:List UInt8) (c:UInt8) (b:Nat) (hb:b=100000 / 10 ^ (min (r.length+1) 7-1)):mil (r++[c])=mil r+b*dgV c:=by
 by_cases h:r.length<6
 ·rw [mil_snoc_lt r c h,hb,Nat.min_eq_left (by omega)]
  congr 2
  have:r.length=0\/r.length=1\/r.length=2\/r.length=3\/r.length=4\/r.length=5:=by omega
  rcases this with h|h|h|h|h|h<;>rw [h]
 ·rw [mil_snoc_ge r c (by omega),hb,Nat.min_eq_right (by omega)]
  simp
theorem PB.more {p:List UInt8} {i:Nat} {N P:Int} {ov:Bool} (h:PB p i N P ov) {c:UInt8} (hc:isDg c=true) (b:Nat) (hb:b=100000 / 10 ^ (min (p.length-i) 7-1)) (Q:Int) (hQ:Q=P+(b:Int)*((c.toNat:Int)-48)):PB (p++[c]) i N Q ov:=by
 obtain ⟨w,r,e,hl,hA,hr,hP⟩:=h;have Q2:=congrArg List.length e;simp only [List.length_append,List.length_cons] at Q2;refine ⟨w,r++[c],by rw [e];simp,hl,hA,zde _ _ hr hc,?_⟩;rw [mil_by r c b (by rw [hb];congr 3;omega),hQ,hP,<-zdw hc]
 push_cast
 rfl
theorem PB.bad {p:List UInt8} {i:Nat} {N P:Int} {ov:Bool} (h:PB p i N P ov) (sg:Int) (c:UInt8) (t:List UInt8) (hc:isDg c=false):zbl sg (p++c::t)=(0,0,11):=by
 obtain ⟨w,r,e,hl,hA,hr,hP⟩:=h;rw [e];have:w++46::r++c::t=w++46::(r++c::t):=by simp
 rw [this];exact parseB_bad2 sg w r t c hA.dg hc
theorem PB.bd {p:List UInt8} {i:Nat} {N P:Int} {ov:Bool} (h:PB p i N P ov):0<=P/\P<=999999:=by
 obtain ⟨w,r,e,hl,hA,hr,rfl⟩:=h;have:=zgW r hr;omega
theorem PA.fin {p:List UInt8} {N:Int} {ov:Bool} (h:PA p N ov) (sg:Int):zbl sg p=if p.length=0 then (0,0,11) else if ov=true then (0,0,5) else (2,sg*N,0):=by
 rw [zgX sg p h.dg]
 by_cases h0:p.length=0
 ·rw [yg h0,yg h0]
 ·rw [yh h0,yh h0]
  have h1:=h.ov_
  cases ov
  ·rw [eq_comm,decide_eq_false_iff_not] at h1
   rw [yh h1,yh (by decide),h.n rfl]
  ·rw [eq_comm,decide_eq_true_iff] at h1
   rw [yg h1,yg rfl]
theorem PB.fin {p:List UInt8} {i:Nat} {N P:Int} {ov:Bool} (h:PB p i N P ov) (sg:Int):zbl sg p=if p.length=1 then (0,0,11) else if ov=true\/(N=2147483647/\0<P) then (0,0,5) else (3,sg*(1000000*N+P),0):=by
 obtain ⟨w,r,e,hl,hA,hr,rfl⟩:=h;have Q2:=congrArg List.length e;simp only [List.length_append,List.length_cons] at Q2;rw [e,zgs sg w r hA.dg hr,<-e]
 by_cases h0:p.length=1
 ·rw [yg h0,yg (by omega)]
 ·rw [yh h0,yh (by omega)]
  have h1:=hA.ov_
  cases ov
  ·rw [eq_comm,decide_eq_false_iff_not] at h1
   have h2:=hA.n rfl
   by_cases h3:N=2147483647/\0<((mil r:Nat):Int)
   ·rw [yg (.inr (by omega)),yg (.inr h3)]
   ·rw [yh (by rintro (h|h);exact h1 h;exact h3 (by omega)),yh (by rintro (h|h);cases h;exact h3 h),h2]
    rw [Int.natCast_add,Int.natCast_mul,Int.mul_comm 1000000];rfl
  ·rw [eq_comm,decide_eq_true_iff] at h1
   rw [yg (.inl h1),yg (.inl rfl)]
def St (b:List UInt8) (a K:Nat) (N P D T:Int) (ov:Bool):Prop :=
 (T=-1/\P=0/\D=(K:Int)-(a:Int)/\PA (b.take (K-a)) N ov)\/(∃i:Nat,T=(a:Int)+(i:Int)/\i<K-a/\D=(K:Int)-(a:Int)-1/\PB (b.take (K-a)) i N P ov)
theorem at_take (s:ByteArray) (a k:Nat) (h:k<s.size) (ha:a<=k):((bl s).drop a).take (k+1-a)=((bl s).drop a).take (k-a)++[s[k]]:=by
 rw [show k+1-a=(k-a)+1 from by omega,List.take_succ_eq_append_getElem (by rw [ym,zaC];omega),List.getElem_drop]
 congr 2
 rw [<-bl_get s k h]
 congr 1
 omega
theorem zhv (s:ByteArray) (a k:Nat) (h:k<s.size) (ha:a<=k):(bl s).drop a=((bl s).drop a).take (k-a)++s[k]::(bl s).drop (k+1):=by
 have h1:=List.take_append_drop (k-a) ((bl s).drop a);rw [List.drop_drop,show a+(k-a)=k from by omega,zeL s k h] at h1;exact h1.symm
set_option maxHeartbeats 16000000 in
theorem rparse_none (s:ByteArray) (w:World) (hs:s.size<=400000) (h0:0<s.size) (hn43:PlainAid.bt s 0≠43) (hn45:PlainAid.bt s 0≠45) :
  Calls Tryz.prog 110 #[.string s] w (zbE (zaP (bl s)) w):=by
 have QC:(w.alloc (.cells #[.int .i64 0,.int .i64 0,.string ⟨#[]⟩,.slice none 0 0] 25)).heap[w.heap.size]?=some (.cells #[.int .i64 0,.int .i64 0,.string ⟨#[]⟩,.slice none 0 0] 25 (0,0)):=zac _ rfl;have Qi:=zai w (.cells #[.int .i64 0,.int .i64 0,.string ⟨#[]⟩,.slice none 0 0] 25);have Qa:=yb QC;have Qb:=yb Qi;obtain ⟨V,hV⟩:∃V,V=zaP (bl s):=⟨_,rfl⟩;rw [<-hV];have HV:=yb hV;clear hV QC Qi
 ·have QD:=PlainAid.get_bt s
  have hx:(s[0].toNat:Int)=PlainAid.bt s 0:=QD 0 h0;have YK:(PlainAid.bt s 0==43)=false:=by rw [yf];exact hn43
  have YL:(PlainAid.bt s 0==45)=false:=by rw [yf];exact hn45
  have HS:=yb (show V=zbl 1 ((bl s).drop 0) by
   have hb:=zeL s 0 h0;have a1:s[0]≠45:=fun e=>hn45 (by rw [<-hx,e];rfl);have a2:s[0]≠43:=fun e=>hn43 (by rw [<-hx,e];rfl);rw [List.drop_zero] at hb;rw [HV.out,zaP,List.drop_zero];unfold zcD zcI;rw [hb,List.head?_cons,yh (by simpa using a1),yh (by simp;exact ⟨a1,a2⟩)])
  clear hx hn43 hn45;go_enter Tryz.func110,Tryz.ntmps110
  go_wp2;generalize w.alloc (.cells #[.int .i64 0,.int .i64 0,.string ⟨#[]⟩,.slice none 0 0] 25)=W at *
  go_loop [5,6,7,8,9,10] (fun n p d t o i=>∃(K:Nat) (N P D T:Int) (ov:Bool),0<=K/\K<=s.size/\n=.int .i64 N/\p=.int .i64 P/\d=.int .i64 D/\t=.int .i64 T/\o=.bool ov/\i=.int .i64 K/\0<=N/\N<=21474836479/\(ov=false->N<=2147483647)/\0<=P/\P<=999999/\0<=D/\D<=K/\Hid (St ((bl s).drop 0) 0 K N P D T ov))
   (fun _ _ _ _ _ i=>s.size-(intOf i).toNat)
  case atStart=>exact ⟨0,0,0,0,-1,false,yp _,by omega,rfl,rfl,rfl,rfl,rfl,rfl,by omega,by omega,fun _=>by omega,by omega,by omega,by omega,by omega,yb (.inl ⟨rfl,rfl,by omega,PA.nil⟩)⟩
  case round =>
   obtain ⟨K,N,P,D,T,ov,QW,ZY,rfl,rfl,rfl,rfl,rfl,rfl,Qt,Qu,Qj,ZZ,Z0,Zj,hD1,Qo⟩:=hrel
   by_cases hlt:K<s.size
   ·have QD:=PlainAid.get_bt s
    have hx:(s[K].toNat:Int)=PlainAid.bt s K:=QD K hlt;have Qd:=yb (at_take s 0 K hlt QW);have Qg:=yb (zhv s 0 K hlt QW);have Z1:=PlainAid.bt_nonneg s K;have Zr:=PlainAid.bt_le s K;have HX:=yb hx;clear hx;rcases Qo.out with ⟨rfl,rfl,hD,hA⟩|⟨i,rfl,hi,hD,hB⟩
    ·have HA:=yb hA
     have HD:=yb hD;clear hA hD Qo
     by_cases h46:PlainAid.bt s K=46
     ·have HB:=yb (show PB (((bl s).drop 0).take (K+1-0)) (K-0) N 0 ov by
       rw [Qd.out,show s[K]=46 from UInt8.toNat_inj.1 (by have:=HX.out;rw [h46] at this;exact Int.ofNat_inj.1 this)];have:=HA.out.point
       rwa [show (((bl s).drop 0).take (K-0)).length=K-0 from by rw [List.length_take,ym,zaC];omega] at this)
      have Qe:(PlainAid.bt s K==46)=true:=by rw [beq_iff_eq];exact h46
      clear h46;go_wp2
      go_round
      case rel=>exact ⟨K+1,N,0,D,K,ov,by omega,by omega,rfl,rfl,rfl,rfl,rfl,by go_num,Qt,Qu,Qj,by omega,by omega,Zj,by omega,yb (.inr ⟨K-0,by omega,by omega,by have:=HD.out;omega,HB.out⟩)⟩
      case measure=>simp [intOf];omega
     ·have Qe:(PlainAid.bt s K==46)=false:=by rw [yf];exact h46
      have QX:=yb (show s[K]≠46 from fun e=>h46 (by rw [<-HX.out,e];rfl));clear h46
      by_cases h48:48<=PlainAid.bt s K
      ·by_cases h57:PlainAid.bt s K<=57
       ·have Qk:=yb (show isDg s[K]=true by rw [zba];have:=HX.out;omega)
        have QY:=yb (show ((dgV s[K]:Nat):Int)=PlainAid.bt s K-48 by rw [zdw Qk.out,HX.out]);have Qf:decide (48<=PlainAid.bt s K)=true:=by simpa using h48
        have Ql:decide (PlainAid.bt s K<=57)=true:=by simpa using h57
        cases ov
        ·have Z2:=Qj rfl
         by_cases hM:2147483647<10*N+PlainAid.bt s K-48
         ·have Qr:=yb (show PA (((bl s).drop 0).take (K+1-0)) (10*N+PlainAid.bt s K-48) true by
           rw [Qd.out];exact HA.out.more Qk.out _ (by have:=QY.out;omega) _ (by rw [eq_comm,decide_eq_true_iff];exact hM))
          go_wp2
          go_round
          case rel=>exact ⟨K+1,10*N+PlainAid.bt s K-48,0,D+1,-1,true,by omega,by omega,rfl,rfl,rfl,rfl,rfl,by go_num,by omega,by omega,(fun h=>by cases h),by omega,by omega,by omega,by omega,yb (.inl ⟨rfl,rfl,by have:=HD.out;omega,Qr.out⟩)⟩
          case measure=>simp [intOf];omega
         ·have Qr:=yb (show PA (((bl s).drop 0).take (K+1-0)) (10*N+PlainAid.bt s K-48) false by
           rw [Qd.out];exact HA.out.more Qk.out _ (by have:=QY.out;omega) _ (by rw [eq_comm,decide_eq_false_iff_not];exact hM))
          have Z3:decide (2147483647<10*N+PlainAid.bt s K-48)=false:=by simpa using hM
          have Zk:10*N+PlainAid.bt s K-48<=2147483647:=by omega
          clear hM;go_wp2
          go_round
          case rel=>exact ⟨K+1,10*N+PlainAid.bt s K-48,0,D+1,-1,false,by omega,by omega,rfl,rfl,rfl,rfl,rfl,by go_num,by omega,by omega,(fun _=>Zk),by omega,by omega,by omega,by omega,yb (.inl ⟨rfl,rfl,by have:=HD.out;omega,Qr.out⟩)⟩
          case measure=>simp [intOf];omega
        ·have Qr:=yb (show PA (((bl s).drop 0).take (K+1-0)) N true by rw [Qd.out];exact HA.out.over Qk.out)
         go_wp2
         go_round
         case rel=>exact ⟨K+1,N,0,D+1,-1,true,by omega,by omega,rfl,rfl,rfl,rfl,rfl,by go_num,Qt,Qu,Qj,by omega,by omega,by omega,by omega,yb (.inl ⟨rfl,rfl,by have:=HD.out;omega,Qr.out⟩)⟩
         case measure=>simp [intOf];omega
       ·have HL:=yb (show V=(0,0,11) by
         rw [HS.out,Qg.out];exact zcd _ _ _ _ HA.out.dg QX.out (by rw [zbY];have:=HX.out;omega))
        have Qf:decide (48<=PlainAid.bt s K)=true:=by simpa using h48
        have Ql:decide (PlainAid.bt s K<=57)=false:=by simpa using h57
        obtain ⟨⟨k0,k1,k2,k3⟩,f0,f1,f2,f3⟩:=zad Qa.out;go_wp2;refine yi (zaa rfl _ _ w.heap.size 25 _ (0,0) _ rfl (set4 Qa.out _ _ _ _) Tryz.underlying25 rfl zao _ rfl) rfl ⟨?_,zae Qb.out (yp _) _ _ _ _⟩;rw [HL.out];rfl
      ·have HL:=yb (show V=(0,0,11) by
        rw [HS.out,Qg.out];exact zcd _ _ _ _ HA.out.dg QX.out (by rw [zbY];have:=HX.out;omega))
       have Qf:decide (48<=PlainAid.bt s K)=false:=by simpa using h48
       obtain ⟨⟨k0,k1,k2,k3⟩,f0,f1,f2,f3⟩:=zad Qa.out;go_wp2;refine yi (zaa rfl _ _ w.heap.size 25 _ (0,0) _ rfl (set4 Qa.out _ _ _ _) Tryz.underlying25 rfl zao _ rfl) rfl ⟨?_,zae Qb.out (yp _) _ _ _ _⟩;rw [HL.out];rfl
    ·have HB:=yb hB
     have HD:=yb hD;clear hB hD Qo;have Zl:decide ((0:Int)+(i:Int)<0)=false:=ye (by omega);have QE:decide ((i:Int)<0)=false:=ye (by omega);have QF:0<=(0:Int)+(i:Int):=by omega
     by_cases h48:48<=PlainAid.bt s K
     ·have Qf:decide (48<=PlainAid.bt s K)=true:=by simpa using h48
      have Qe:(PlainAid.bt s K==46)=false:=by rw [yf];omega
      by_cases h57:PlainAid.bt s K<=57
      ·have Ql:decide (PlainAid.bt s K<=57)=true:=by simpa using h57
       have Qk:=yb (show isDg s[K]=true by rw [zba];have:=HX.out;omega);go_wp2
       go_loop [11,12] (fun b j=>∃(J:Nat) (B:Int),1<=J/\J<=7/\J<=K-0-i/\b=.int .i64 B/\j=.int .i64 J/\0<=B/\B<=100000/\Hid (B=(100000 / 10 ^ (J-1):Nat))) (fun _ j=>7-(intOf j).toNat)
       case atStart=>exact ⟨1,100000,by omega,by omega,by omega,rfl,rfl,by omega,by omega,yb rfl⟩
       case round =>
        obtain ⟨J,B,Z4,Z5,Z6,rfl,rfl,Qi,QB,QG⟩:=hrel
        by_cases hJK:(J:Int)<(K:Int)-((i:Int))
        ·have QH:decide ((J:Int)<(K:Int)-((i:Int)))=true:=by simpa using hJK
         by_cases hJ7b:J<7
         ·have QI:decide ((J:Int)<7)=true:=by simp;omega
          have Zm:=yb (show B / 10=((100000 / 10 ^ (J+1-1):Nat):Int) by
           rw [QG.out,show J+1-1=(J-1)+1 from by omega,Nat.pow_succ,<-Nat.div_div_eq_div_mul];omega)
          go_wp2
          go_round
          case rel=>exact ⟨J+1,B / 10,by omega,by omega,by omega,rfl,by go_num,by omega,by omega,Zm⟩
          case measure=>simp [intOf];omega
         ·have QI:decide ((J:Int)<7)=false:=ye (by omega)
          have Zn:0<=B*(PlainAid.bt s K-48):=Int.mul_nonneg Qi (by omega);have QJ:B*(PlainAid.bt s K-48)<=100000*9:=Int.mul_le_mul QB (by omega) (by omega) (by omega)
          have HQ:=yb (show PB (((bl s).drop 0).take (K+1-0)) i N (P+B*(PlainAid.bt s K-48)) ov by
           rw [Qd.out];refine HB.out.more Qk.out (100000 / 10 ^ (J-1)) ?_ _ (by rw [QG.out,HX.out]);rw [List.length_take,ym,zaC]
           congr 3
           omega)
          have hq:=HQ.out.bd;have QK:=hq.1;have QL:=hq.2;clear hq;have Zo:IntKind.i64.wrap (B*(PlainAid.bt s K-48))=B*(PlainAid.bt s K-48):=IntWalk.i64_in _ (by omega);clear QJ;go_wp2
          go_round
          case rel=>exact ⟨K+1,N,P+B*(PlainAid.bt s K-48),D+1,_,ov,by omega,by omega,rfl,rfl,rfl,by go_num,rfl,by go_num,Qt,Qu,Qj,QK,QL,by omega,by omega,yb (.inr ⟨i,rfl,by omega,by have:=HD.out;omega,HQ.out⟩)⟩
          case measure=>simp [intOf];omega
        ·have QH:decide ((J:Int)<(K:Int)-((i:Int)))=false:=by simpa using hJK
         have Zn:0<=B*(PlainAid.bt s K-48):=Int.mul_nonneg Qi (by omega);have QJ:B*(PlainAid.bt s K-48)<=100000*9:=Int.mul_le_mul QB (by omega) (by omega) (by omega)
         have HQ:=yb (show PB (((bl s).drop 0).take (K+1-0)) i N (P+B*(PlainAid.bt s K-48)) ov by
          rw [Qd.out];refine HB.out.more Qk.out (100000 / 10 ^ (J-1)) ?_ _ (by rw [QG.out,HX.out]);rw [List.length_take,ym,zaC]
          congr 3
          omega)
         have hq:=HQ.out.bd;have QK:=hq.1;have QL:=hq.2;clear hq;have Zo:IntKind.i64.wrap (B*(PlainAid.bt s K-48))=B*(PlainAid.bt s K-48):=IntWalk.i64_in _ (by omega);clear QJ;go_wp2
         go_round
         case rel=>exact ⟨K+1,N,P+B*(PlainAid.bt s K-48),D+1,_,ov,by omega,by omega,rfl,rfl,rfl,by go_num,rfl,by go_num,Qt,Qu,Qj,QK,QL,by omega,by omega,yb (.inr ⟨i,rfl,by omega,by have:=HD.out;omega,HQ.out⟩)⟩
         case measure=>simp [intOf];omega
      ·have HL:=yb (show V=(0,0,11) by
        rw [HS.out,Qg.out];exact HB.out.bad _ _ _ (by rw [zbY];have:=HX.out;omega))
       have Ql:decide (PlainAid.bt s K<=57)=false:=by simpa using h57
       obtain ⟨⟨k0,k1,k2,k3⟩,f0,f1,f2,f3⟩:=zad Qa.out;go_wp2;refine yi (zaa rfl _ _ w.heap.size 25 _ (0,0) _ rfl (set4 Qa.out _ _ _ _) Tryz.underlying25 rfl zao _ rfl) rfl ⟨?_,zae Qb.out (yp _) _ _ _ _⟩;rw [HL.out];rfl
     ·have HL:=yb (show V=(0,0,11) by
       rw [HS.out,Qg.out];exact HB.out.bad _ _ _ (by rw [zbY];have:=HX.out;omega))
      have Qf:decide (48<=PlainAid.bt s K)=false:=by simpa using h48
      obtain ⟨⟨k0,k1,k2,k3⟩,f0,f1,f2,f3⟩:=zad Qa.out
      by_cases h46:PlainAid.bt s K=46
      ·have Qe:(PlainAid.bt s K==46)=true:=by rw [beq_iff_eq];exact h46
       clear h46;go_wp2;refine yi (zaa rfl _ _ w.heap.size 25 _ (0,0) _ rfl (set4 Qa.out _ _ _ _) Tryz.underlying25 rfl zao _ rfl) rfl ⟨?_,zae Qb.out (yp _) _ _ _ _⟩;rw [HL.out];rfl
      ·have Qe:(PlainAid.bt s K==46)=false:=by rw [yf];exact h46
       clear h46;go_wp2;refine yi (zaa rfl _ _ w.heap.size 25 _ (0,0) _ rfl (set4 Qa.out _ _ _ _) Tryz.underlying25 rfl zao _ rfl) rfl ⟨?_,zae Qb.out (yp _) _ _ _ _⟩;rw [HL.out];rfl
   ·obtain rfl:K=s.size:=by omega
    have Qd:=yb (show ((bl s).drop 0).take (s.size-0)=(bl s).drop 0 by rw [List.take_of_length_le (by rw [ym,zaC];omega)]);have Qs:=yb (show ((bl s).drop 0).length=s.size-0 by rw [ym,zaC]);have Qm:=(Array.getElem?_eq_some_iff.1 Qa.out).1;obtain ⟨⟨k0,k1,k2,k3⟩,f0,f1,f2,f3⟩:=zad Qa.out;rcases Qo.out with ⟨rfl,rfl,hD,hA⟩|⟨i,rfl,hi,hD,hB⟩
    ·rw [Qd.out] at hA
     have HL:=yb (show V=if s.size-0=0 then (0,0,11) else if ov=true then (0,0,5) else (2,1*N,0) by rw [HS.out,hA.fin,Qs.out]);clear hA Qo
     by_cases hz:s.size-0=0
     ·rw [yg hz] at HL
      have QM:(D==0)=true:=by rw [beq_iff_eq];omega
      clear hD hz;go_wp2;refine yi (zaa rfl _ _ w.heap.size 25 _ (0,0) _ rfl (set4 Qa.out _ _ _ _) Tryz.underlying25 rfl zao _ rfl) rfl ⟨?_,zae Qb.out (yp _) _ _ _ _⟩;rw [HL.out];rfl
     ·rw [yh hz] at HL
      have QM:(D==0)=false:=by rw [yf];omega
      clear hD hz
      cases ov
      ·rw [yh (by decide)] at HL
       have QN:=Qj rfl;go_wp2;refine yi (zaa rfl _ _ w.heap.size 25 _ (0,0) _ rfl (zal _ (set4 Qa.out _ _ _ _)) Tryz.underlying25 rfl zao _ rfl) rfl ⟨?_,(zae Qb.out (yp _) _ _ _ _).alloc (by simpa using Nat.le_of_lt Qm) _⟩;rw [HL.out];simp [valC,zbn]
      ·rw [yg rfl] at HL
       go_wp2;refine yi (zaa rfl _ _ w.heap.size 25 _ (0,0) _ rfl (set4 Qa.out _ _ _ _) Tryz.underlying25 rfl zao _ rfl) rfl ⟨?_,zae Qb.out (yp _) _ _ _ _⟩;rw [HL.out];rfl
    ·rw [Qd.out] at hB
     have HL:=yb (show V=if s.size-0=1 then (0,0,11) else if ov=true\/(N=2147483647/\0<P) then (0,0,5) else (3,1*(1000000*N+P),0) by rw [HS.out,hB.fin,Qs.out]);clear hB Qo;have Zl:decide (0<=(0:Int)+(i:Int))=true:=yd (by omega);have QE:decide (0<=(i:Int))=true:=yd (by omega);have QF:0<=(0:Int)+(i:Int):=by omega
     by_cases hz:s.size-0=1
     ·rw [yg hz] at HL
      have QM:(D==0)=true:=by rw [beq_iff_eq];omega
      clear hD hz hi;go_wp2;refine yi (zaa rfl _ _ w.heap.size 25 _ (0,0) _ rfl (set4 Qa.out _ _ _ _) Tryz.underlying25 rfl zao _ rfl) rfl ⟨?_,zae Qb.out (yp _) _ _ _ _⟩;rw [HL.out];rfl
     ·rw [yh hz] at HL
      have QM:(D==0)=false:=by rw [yf];omega
      clear hD hz hi
      cases ov
      ·have QN:=Qj rfl
       by_cases hNm:N=2147483647
       ·have QO:(N==2147483647)=true:=by rw [beq_iff_eq];exact hNm
        by_cases hPp:0<P
        ·have Zp:decide (0<P)=true:=by simpa using hPp
         rw [yg (.inr ⟨hNm,hPp⟩)] at HL;clear hNm;go_wp2;refine yi (zaa rfl _ _ w.heap.size 25 _ (0,0) _ rfl (set4 Qa.out _ _ _ _) Tryz.underlying25 rfl zao _ rfl) rfl ⟨?_,zae Qb.out (yp _) _ _ _ _⟩;rw [HL.out];rfl
        ·have Zp:decide (0<P)=false:=by simpa using hPp
         rw [yh (by rintro (h|h);cases h;exact hPp h.2)] at HL;clear hNm;go_wp2;refine yi (zaa rfl _ _ w.heap.size 25 _ (0,0) _ rfl (zal _ (set4 Qa.out _ _ _ _)) Tryz.underlying25 rfl zao _ rfl) rfl ⟨?_,(zae Qb.out (yp _) _ _ _ _).alloc (by simpa using Nat.le_of_lt Qm) _⟩;rw [HL.out];simp [valC,zbn]
       ·have QO:(N==2147483647)=false:=by rw [yf];exact hNm
        rw [yh (by rintro (h|h);cases h;exact hNm h.1)] at HL;clear hNm;go_wp2;refine yi (zaa rfl _ _ w.heap.size 25 _ (0,0) _ rfl (zal _ (set4 Qa.out _ _ _ _)) Tryz.underlying25 rfl zao _ rfl) rfl ⟨?_,(zae Qb.out (yp _) _ _ _ _).alloc (by simpa using Nat.le_of_lt Qm) _⟩;rw [HL.out];simp [valC,zbn]
      ·rw [yg (.inl rfl)] at HL
       go_wp2;refine yi (zaa rfl _ _ w.heap.size 25 _ (0,0) _ rfl (set4 Qa.out _ _ _ _) Tryz.underlying25 rfl zao _ rfl) rfl ⟨?_,zae Qb.out (yp _) _ _ _ _⟩;rw [HL.out];rfl
set_option maxHeartbeats 16000000 in
theorem rparse_plus (s:ByteArray) (w:World) (hs:s.size<=400000) (h0:0<s.size) (hc:PlainAid.bt s 0=43) :
  Calls Tryz.prog 110 #[.string s] w (zbE (zaP (bl s)) w):=by
 have QC:(w.alloc (.cells #[.int .i64 0,.int .i64 0,.string ⟨#[]⟩,.slice none 0 0] 25)).heap[w.heap.size]?=some (.cells #[.int .i64 0,.int .i64 0,.string ⟨#[]⟩,.slice none 0 0] 25 (0,0)):=zac _ rfl;have Qi:=zai w (.cells #[.int .i64 0,.int .i64 0,.string ⟨#[]⟩,.slice none 0 0] 25);have Qa:=yb QC;have Qb:=yb Qi;obtain ⟨V,hV⟩:∃V,V=zaP (bl s):=⟨_,rfl⟩;rw [<-hV];have HV:=yb hV;clear hV QC Qi
 ·have QD:=PlainAid.get_bt s
  have hx:(s[0].toNat:Int)=PlainAid.bt s 0:=QD 0 h0
  have HS:=yb (show V=zbl 1 ((bl s).drop 1) by
   have hb:=zeL s 0 h0;have a1:s[0]=43:=UInt8.toNat_inj.1 (Int.ofNat_inj.1 (hx.trans hc));rw [List.drop_zero] at hb;rw [HV.out,zaP];unfold zcD zcI;rw [hb,a1];rfl)
  clear hx;go_enter Tryz.func110,Tryz.ntmps110
  go_wp2;generalize w.alloc (.cells #[.int .i64 0,.int .i64 0,.string ⟨#[]⟩,.slice none 0 0] 25)=W at *
  go_loop [5,6,7,8,9,10] (fun n p d t o i=>∃(K:Nat) (N P D T:Int) (ov:Bool),1<=K/\K<=s.size/\n=.int .i64 N/\p=.int .i64 P/\d=.int .i64 D/\t=.int .i64 T/\o=.bool ov/\i=.int .i64 K/\0<=N/\N<=21474836479/\(ov=false->N<=2147483647)/\0<=P/\P<=999999/\0<=D/\D<=K/\Hid (St ((bl s).drop 1) 1 K N P D T ov))
   (fun _ _ _ _ _ i=>s.size-(intOf i).toNat)
  case atStart=>exact ⟨1,0,0,0,-1,false,yp _,by omega,rfl,rfl,rfl,rfl,rfl,rfl,by omega,by omega,fun _=>by omega,by omega,by omega,by omega,by omega,yb (.inl ⟨rfl,rfl,by omega,PA.nil⟩)⟩
  case round =>
   obtain ⟨K,N,P,D,T,ov,QW,ZY,rfl,rfl,rfl,rfl,rfl,rfl,Qt,Qu,Qj,ZZ,Z0,Zj,hD1,Qo⟩:=hrel
   by_cases hlt:K<s.size
   ·have QD:=PlainAid.get_bt s
    have hx:(s[K].toNat:Int)=PlainAid.bt s K:=QD K hlt;have Qd:=yb (at_take s 1 K hlt QW);have Qg:=yb (zhv s 1 K hlt QW);have Z1:=PlainAid.bt_nonneg s K;have Zr:=PlainAid.bt_le s K;have HX:=yb hx;clear hx;rcases Qo.out with ⟨rfl,rfl,hD,hA⟩|⟨i,rfl,hi,hD,hB⟩
    ·have HA:=yb hA
     have HD:=yb hD;clear hA hD Qo
     by_cases h46:PlainAid.bt s K=46
     ·have HB:=yb (show PB (((bl s).drop 1).take (K+1-1)) (K-1) N 0 ov by
       rw [Qd.out,show s[K]=46 from UInt8.toNat_inj.1 (by have:=HX.out;rw [h46] at this;exact Int.ofNat_inj.1 this)];have:=HA.out.point
       rwa [show (((bl s).drop 1).take (K-1)).length=K-1 from by rw [List.length_take,ym,zaC];omega] at this)
      have Qe:(PlainAid.bt s K==46)=true:=by rw [beq_iff_eq];exact h46
      clear h46;go_wp2
      go_round
      case rel=>exact ⟨K+1,N,0,D,K,ov,by omega,by omega,rfl,rfl,rfl,rfl,rfl,by go_num,Qt,Qu,Qj,by omega,by omega,Zj,by omega,yb (.inr ⟨K-1,by omega,by omega,by have:=HD.out;omega,HB.out⟩)⟩
      case measure=>simp [intOf];omega
     ·have Qe:(PlainAid.bt s K==46)=false:=by rw [yf];exact h46
      have QX:=yb (show s[K]≠46 from fun e=>h46 (by rw [<-HX.out,e];rfl));clear h46
      by_cases h48:48<=PlainAid.bt s K
      ·by_cases h57:PlainAid.bt s K<=57
       ·have Qk:=yb (show isDg s[K]=true by rw [zba];have:=HX.out;omega)
        have QY:=yb (show ((dgV s[K]:Nat):Int)=PlainAid.bt s K-48 by rw [zdw Qk.out,HX.out]);have Qf:decide (48<=PlainAid.bt s K)=true:=by simpa using h48
        have Ql:decide (PlainAid.bt s K<=57)=true:=by simpa using h57
        cases ov
        ·have Z2:=Qj rfl
         by_cases hM:2147483647<10*N+PlainAid.bt s K-48
         ·have Qr:=yb (show PA (((bl s).drop 1).take (K+1-1)) (10*N+PlainAid.bt s K-48) true by
           rw [Qd.out];exact HA.out.more Qk.out _ (by have:=QY.out;omega) _ (by rw [eq_comm,decide_eq_true_iff];exact hM))
          go_wp2
          go_round
          case rel=>exact ⟨K+1,10*N+PlainAid.bt s K-48,0,D+1,-1,true,by omega,by omega,rfl,rfl,rfl,rfl,rfl,by go_num,by omega,by omega,(fun h=>by cases h),by omega,by omega,by omega,by omega,yb (.inl ⟨rfl,rfl,by have:=HD.out;omega,Qr.out⟩)⟩
          case measure=>simp [intOf];omega
         ·have Qr:=yb (show PA (((bl s).drop 1).take (K+1-1)) (10*N+PlainAid.bt s K-48) false by
           rw [Qd.out];exact HA.out.more Qk.out _ (by have:=QY.out;omega) _ (by rw [eq_comm,decide_eq_false_iff_not];exact hM))
          have Z3:decide (2147483647<10*N+PlainAid.bt s K-48)=false:=by simpa using hM
          have Zk:10*N+PlainAid.bt s K-48<=2147483647:=by omega
          clear hM;go_wp2
          go_round
          case rel=>exact ⟨K+1,10*N+PlainAid.bt s K-48,0,D+1,-1,false,by omega,by omega,rfl,rfl,rfl,rfl,rfl,by go_num,by omega,by omega,(fun _=>Zk),by omega,by omega,by omega,by omega,yb (.inl ⟨rfl,rfl,by have:=HD.out;omega,Qr.out⟩)⟩
          case measure=>simp [intOf];omega
        ·have Qr:=yb (show PA (((bl s).drop 1).take (K+1-1)) N true by rw [Qd.out];exact HA.out.over Qk.out)
         go_wp2
         go_round
         case rel=>exact ⟨K+1,N,0,D+1,-1,true,by omega,by omega,rfl,rfl,rfl,rfl,rfl,by go_num,Qt,Qu,Qj,by omega,by omega,by omega,by omega,yb (.inl ⟨rfl,rfl,by have:=HD.out;omega,Qr.out⟩)⟩
         case measure=>simp [intOf];omega
       ·have HL:=yb (show V=(0,0,11) by
         rw [HS.out,Qg.out];exact zcd _ _ _ _ HA.out.dg QX.out (by rw [zbY];have:=HX.out;omega))
        have Qf:decide (48<=PlainAid.bt s K)=true:=by simpa using h48
        have Ql:decide (PlainAid.bt s K<=57)=false:=by simpa using h57
        obtain ⟨⟨k0,k1,k2,k3⟩,f0,f1,f2,f3⟩:=zad Qa.out;go_wp2;refine yi (zaa rfl _ _ w.heap.size 25 _ (0,0) _ rfl (set4 Qa.out _ _ _ _) Tryz.underlying25 rfl zao _ rfl) rfl ⟨?_,zae Qb.out (yp _) _ _ _ _⟩;rw [HL.out];rfl
      ·have HL:=yb (show V=(0,0,11) by
        rw [HS.out,Qg.out];exact zcd _ _ _ _ HA.out.dg QX.out (by rw [zbY];have:=HX.out;omega))
       have Qf:decide (48<=PlainAid.bt s K)=false:=by simpa using h48
       obtain ⟨⟨k0,k1,k2,k3⟩,f0,f1,f2,f3⟩:=zad Qa.out;go_wp2;refine yi (zaa rfl _ _ w.heap.size 25 _ (0,0) _ rfl (set4 Qa.out _ _ _ _) Tryz.underlying25 rfl zao _ rfl) rfl ⟨?_,zae Qb.out (yp _) _ _ _ _⟩;rw [HL.out];rfl
    ·have HB:=yb hB
     have HD:=yb hD;clear hB hD Qo;have Zl:decide ((1:Int)+(i:Int)<0)=false:=ye (by omega);have QE:decide ((i:Int)<0)=false:=ye (by omega);have QF:0<=(1:Int)+(i:Int):=by omega
     by_cases h48:48<=PlainAid.bt s K
     ·have Qf:decide (48<=PlainAid.bt s K)=true:=by simpa using h48
      have Qe:(PlainAid.bt s K==46)=false:=by rw [yf];omega
      by_cases h57:PlainAid.bt s K<=57
      ·have Ql:decide (PlainAid.bt s K<=57)=true:=by simpa using h57
       have Qk:=yb (show isDg s[K]=true by rw [zba];have:=HX.out;omega);go_wp2
       go_loop [11,12] (fun b j=>∃(J:Nat) (B:Int),1<=J/\J<=7/\J<=K-1-i/\b=.int .i64 B/\j=.int .i64 J/\0<=B/\B<=100000/\Hid (B=(100000 / 10 ^ (J-1):Nat))) (fun _ j=>7-(intOf j).toNat)
       case atStart=>exact ⟨1,100000,by omega,by omega,by omega,rfl,rfl,by omega,by omega,yb rfl⟩
       case round =>
        obtain ⟨J,B,Z4,Z5,Z6,rfl,rfl,Qi,QB,QG⟩:=hrel
        by_cases hJK:(J:Int)<(K:Int)-(1+(i:Int))
        ·have QH:decide ((J:Int)<(K:Int)-(1+(i:Int)))=true:=by simpa using hJK
         by_cases hJ7b:J<7
         ·have QI:decide ((J:Int)<7)=true:=by simp;omega
          have Zm:=yb (show B / 10=((100000 / 10 ^ (J+1-1):Nat):Int) by
           rw [QG.out,show J+1-1=(J-1)+1 from by omega,Nat.pow_succ,<-Nat.div_div_eq_div_mul];omega)
          go_wp2
          go_round
          case rel=>exact ⟨J+1,B / 10,by omega,by omega,by omega,rfl,by go_num,by omega,by omega,Zm⟩
          case measure=>simp [intOf];omega
         ·have QI:decide ((J:Int)<7)=false:=ye (by omega)
          have Zn:0<=B*(PlainAid.bt s K-48):=Int.mul_nonneg Qi (by omega);have QJ:B*(PlainAid.bt s K-48)<=100000*9:=Int.mul_le_mul QB (by omega) (by omega) (by omega)
          have HQ:=yb (show PB (((bl s).drop 1).take (K+1-1)) i N (P+B*(PlainAid.bt s K-48)) ov by
           rw [Qd.out];refine HB.out.more Qk.out (100000 / 10 ^ (J-1)) ?_ _ (by rw [QG.out,HX.out]);rw [List.length_take,ym,zaC]
           congr 3
           omega)
          have hq:=HQ.out.bd;have QK:=hq.1;have QL:=hq.2;clear hq;have Zo:IntKind.i64.wrap (B*(PlainAid.bt s K-48))=B*(PlainAid.bt s K-48):=IntWalk.i64_in _ (by omega);clear QJ;go_wp2
          go_round
          case rel=>exact ⟨K+1,N,P+B*(PlainAid.bt s K-48),D+1,_,ov,by omega,by omega,rfl,rfl,rfl,rfl,rfl,by go_num,Qt,Qu,Qj,QK,QL,by omega,by omega,yb (.inr ⟨i,rfl,by omega,by have:=HD.out;omega,HQ.out⟩)⟩
          case measure=>simp [intOf];omega
        ·have QH:decide ((J:Int)<(K:Int)-(1+(i:Int)))=false:=by simpa using hJK
         have Zn:0<=B*(PlainAid.bt s K-48):=Int.mul_nonneg Qi (by omega);have QJ:B*(PlainAid.bt s K-48)<=100000*9:=Int.mul_le_mul QB (by omega) (by omega) (by omega)
         have HQ:=yb (show PB (((bl s).drop 1).take (K+1-1)) i N (P+B*(PlainAid.bt s K-48)) ov by
          rw [Qd.out];refine HB.out.more Qk.out (100000 / 10 ^ (J-1)) ?_ _ (by rw [QG.out,HX.out]);rw [List.length_take,ym,zaC]
          congr 3
          omega)
         have hq:=HQ.out.bd;have QK:=hq.1;have QL:=hq.2;clear hq;have Zo:IntKind.i64.wrap (B*(PlainAid.bt s K-48))=B*(PlainAid.bt s K-48):=IntWalk.i64_in _ (by omega);clear QJ;go_wp2
         go_round
         case rel=>exact ⟨K+1,N,P+B*(PlainAid.bt s K-48),D+1,_,ov,by omega,by omega,rfl,rfl,rfl,rfl,rfl,by go_num,Qt,Qu,Qj,QK,QL,by omega,by omega,yb (.inr ⟨i,rfl,by omega,by have:=HD.out;omega,HQ.out⟩)⟩
         case measure=>simp [intOf];omega
      ·have HL:=yb (show V=(0,0,11) by
        rw [HS.out,Qg.out];exact HB.out.bad _ _ _ (by rw [zbY];have:=HX.out;omega))
       have Ql:decide (PlainAid.bt s K<=57)=false:=by simpa using h57
       obtain ⟨⟨k0,k1,k2,k3⟩,f0,f1,f2,f3⟩:=zad Qa.out;go_wp2;refine yi (zaa rfl _ _ w.heap.size 25 _ (0,0) _ rfl (set4 Qa.out _ _ _ _) Tryz.underlying25 rfl zao _ rfl) rfl ⟨?_,zae Qb.out (yp _) _ _ _ _⟩;rw [HL.out];rfl
     ·have HL:=yb (show V=(0,0,11) by
       rw [HS.out,Qg.out];exact HB.out.bad _ _ _ (by rw [zbY];have:=HX.out;omega))
      have Qf:decide (48<=PlainAid.bt s K)=false:=by simpa using h48
      obtain ⟨⟨k0,k1,k2,k3⟩,f0,f1,f2,f3⟩:=zad Qa.out
      by_cases h46:PlainAid.bt s K=46
      ·have Qe:(PlainAid.bt s K==46)=true:=by rw [beq_iff_eq];exact h46
       clear h46;go_wp2;refine yi (zaa rfl _ _ w.heap.size 25 _ (0,0) _ rfl (set4 Qa.out _ _ _ _) Tryz.underlying25 rfl zao _ rfl) rfl ⟨?_,zae Qb.out (yp _) _ _ _ _⟩;rw [HL.out];rfl
      ·have Qe:(PlainAid.bt s K==46)=false:=by rw [yf];exact h46
       clear h46;go_wp2;refine yi (zaa rfl _ _ w.heap.size 25 _ (0,0) _ rfl (set4 Qa.out _ _ _ _) Tryz.underlying25 rfl zao _ rfl) rfl ⟨?_,zae Qb.out (yp _) _ _ _ _⟩;rw [HL.out];rfl
   ·obtain rfl:K=s.size:=by omega
    have Qd:=yb (show ((bl s).drop 1).take (s.size-1)=(bl s).drop 1 by rw [List.take_of_length_le (by rw [ym,zaC];omega)]);have Qs:=yb (show ((bl s).drop 1).length=s.size-1 by rw [ym,zaC]);have Qm:=(Array.getElem?_eq_some_iff.1 Qa.out).1;obtain ⟨⟨k0,k1,k2,k3⟩,f0,f1,f2,f3⟩:=zad Qa.out;rcases Qo.out with ⟨rfl,rfl,hD,hA⟩|⟨i,rfl,hi,hD,hB⟩
    ·rw [Qd.out] at hA
     have HL:=yb (show V=if s.size-1=0 then (0,0,11) else if ov=true then (0,0,5) else (2,1*N,0) by rw [HS.out,hA.fin,Qs.out]);clear hA Qo
     by_cases hz:s.size-1=0
     ·rw [yg hz] at HL
      have QM:(D==0)=true:=by rw [beq_iff_eq];omega
      clear hD hz;go_wp2;refine yi (zaa rfl _ _ w.heap.size 25 _ (0,0) _ rfl (set4 Qa.out _ _ _ _) Tryz.underlying25 rfl zao _ rfl) rfl ⟨?_,zae Qb.out (yp _) _ _ _ _⟩;rw [HL.out];rfl
     ·rw [yh hz] at HL
      have QM:(D==0)=false:=by rw [yf];omega
      clear hD hz
      cases ov
      ·rw [yh (by decide)] at HL
       have QN:=Qj rfl;go_wp2;refine yi (zaa rfl _ _ w.heap.size 25 _ (0,0) _ rfl (zal _ (set4 Qa.out _ _ _ _)) Tryz.underlying25 rfl zao _ rfl) rfl ⟨?_,(zae Qb.out (yp _) _ _ _ _).alloc (by simpa using Nat.le_of_lt Qm) _⟩;rw [HL.out];simp [valC,zbn]
      ·rw [yg rfl] at HL
       go_wp2;refine yi (zaa rfl _ _ w.heap.size 25 _ (0,0) _ rfl (set4 Qa.out _ _ _ _) Tryz.underlying25 rfl zao _ rfl) rfl ⟨?_,zae Qb.out (yp _) _ _ _ _⟩;rw [HL.out];rfl
    ·rw [Qd.out] at hB
     have HL:=yb (show V=if s.size-1=1 then (0,0,11) else if ov=true\/(N=2147483647/\0<P) then (0,0,5) else (3,1*(1000000*N+P),0) by rw [HS.out,hB.fin,Qs.out]);clear hB Qo;have Zl:decide (0<=(1:Int)+(i:Int))=true:=yd (by omega);have QE:decide (0<=(i:Int))=true:=yd (by omega);have QF:0<=(1:Int)+(i:Int):=by omega
     by_cases hz:s.size-1=1
     ·rw [yg hz] at HL
      have QM:(D==0)=true:=by rw [beq_iff_eq];omega
      clear hD hz hi;go_wp2;refine yi (zaa rfl _ _ w.heap.size 25 _ (0,0) _ rfl (set4 Qa.out _ _ _ _) Tryz.underlying25 rfl zao _ rfl) rfl ⟨?_,zae Qb.out (yp _) _ _ _ _⟩;rw [HL.out];rfl
     ·rw [yh hz] at HL
      have QM:(D==0)=false:=by rw [yf];omega
      clear hD hz hi
      cases ov
      ·have QN:=Qj rfl
       by_cases hNm:N=2147483647
       ·have QO:(N==2147483647)=true:=by rw [beq_iff_eq];exact hNm
        by_cases hPp:0<P
        ·have Zp:decide (0<P)=true:=by simpa using hPp
         rw [yg (.inr ⟨hNm,hPp⟩)] at HL;clear hNm;go_wp2;refine yi (zaa rfl _ _ w.heap.size 25 _ (0,0) _ rfl (set4 Qa.out _ _ _ _) Tryz.underlying25 rfl zao _ rfl) rfl ⟨?_,zae Qb.out (yp _) _ _ _ _⟩;rw [HL.out];rfl
        ·have Zp:decide (0<P)=false:=by simpa using hPp
         rw [yh (by rintro (h|h);cases h;exact hPp h.2)] at HL;clear hNm;go_wp2;refine yi (zaa rfl _ _ w.heap.size 25 _ (0,0) _ rfl (zal _ (set4 Qa.out _ _ _ _)) Tryz.underlying25 rfl zao _ rfl) rfl ⟨?_,(zae Qb.out (yp _) _ _ _ _).alloc (by simpa using Nat.le_of_lt Qm) _⟩;rw [HL.out];simp [valC,zbn]
       ·have QO:(N==2147483647)=false:=by rw [yf];exact hNm
        rw [yh (by rintro (h|h);cases h;exact hNm h.1)] at HL;clear hNm;go_wp2;refine yi (zaa rfl _ _ w.heap.size 25 _ (0,0) _ rfl (zal _ (set4 Qa.out _ _ _ _)) Tryz.underlying25 rfl zao _ rfl) rfl ⟨?_,(zae Qb.out (yp _) _ _ _ _).alloc (by simpa using Nat.le_of_lt Qm) _⟩;rw [HL.out];simp [valC,zbn]
      ·rw [yg (.inl rfl)] at HL
       go_wp2;refine yi (zaa rfl _ _ w.heap.size 25 _ (0,0) _ rfl (set4 Qa.out _ _ _ _) Tryz.underlying25 rfl zao _ rfl) rfl ⟨?_,zae Qb.out (yp _) _ _ _ _⟩;rw [HL.out];rfl
set_option maxHeartbeats 16000000 in
theorem rparse_minus (s:ByteArray) (w:World) (hs:s.size<=400000) (h0:0<s.size) (hc:PlainAid.bt s 0=45) :
  Calls Tryz.prog 110 #[.string s] w (zbE (zaP (bl s)) w):=by
 have QC:(w.alloc (.cells #[.int .i64 0,.int .i64 0,.string ⟨#[]⟩,.slice none 0 0] 25)).heap[w.heap.size]?=some (.cells #[.int .i64 0,.int .i64 0,.string ⟨#[]⟩,.slice none 0 0] 25 (0,0)):=zac _ rfl;have Qi:=zai w (.cells #[.int .i64 0,.int .i64 0,.string ⟨#[]⟩,.slice none 0 0] 25);have Qa:=yb QC;have Qb:=yb Qi;obtain ⟨V,hV⟩:∃V,V=zaP (bl s):=⟨_,rfl⟩;rw [<-hV];have HV:=yb hV;clear hV QC Qi
 ·have QD:=PlainAid.get_bt s
  have hx:(s[0].toNat:Int)=PlainAid.bt s 0:=QD 0 h0
  have HS:=yb (show V=zbl (-1) ((bl s).drop 1) by
   have hb:=zeL s 0 h0;have a1:s[0]=45:=UInt8.toNat_inj.1 (Int.ofNat_inj.1 (hx.trans hc));rw [List.drop_zero] at hb;rw [HV.out,zaP];unfold zcD zcI;rw [hb,a1];rfl)
  clear hx;go_enter Tryz.func110,Tryz.ntmps110
  go_wp2;generalize w.alloc (.cells #[.int .i64 0,.int .i64 0,.string ⟨#[]⟩,.slice none 0 0] 25)=W at *
  go_loop [5,6,7,8,9,10] (fun n p d t o i=>∃(K:Nat) (N P D T:Int) (ov:Bool),1<=K/\K<=s.size/\n=.int .i64 N/\p=.int .i64 P/\d=.int .i64 D/\t=.int .i64 T/\o=.bool ov/\i=.int .i64 K/\0<=N/\N<=21474836479/\(ov=false->N<=2147483647)/\0<=P/\P<=999999/\0<=D/\D<=K/\Hid (St ((bl s).drop 1) 1 K N P D T ov))
   (fun _ _ _ _ _ i=>s.size-(intOf i).toNat)
  case atStart=>exact ⟨1,0,0,0,-1,false,yp _,by omega,rfl,rfl,rfl,rfl,rfl,rfl,by omega,by omega,fun _=>by omega,by omega,by omega,by omega,by omega,yb (.inl ⟨rfl,rfl,by omega,PA.nil⟩)⟩
  case round =>
   obtain ⟨K,N,P,D,T,ov,QW,ZY,rfl,rfl,rfl,rfl,rfl,rfl,Qt,Qu,Qj,ZZ,Z0,Zj,hD1,Qo⟩:=hrel
   by_cases hlt:K<s.size
   ·have QD:=PlainAid.get_bt s
    have hx:(s[K].toNat:Int)=PlainAid.bt s K:=QD K hlt;have Qd:=yb (at_take s 1 K hlt QW);have Qg:=yb (zhv s 1 K hlt QW);have Z1:=PlainAid.bt_nonneg s K;have Zr:=PlainAid.bt_le s K;have HX:=yb hx;clear hx;rcases Qo.out with ⟨rfl,rfl,hD,hA⟩|⟨i,rfl,hi,hD,hB⟩
    ·have HA:=yb hA
     have HD:=yb hD;clear hA hD Qo
     by_cases h46:PlainAid.bt s K=46
     ·have HB:=yb (show PB (((bl s).drop 1).take (K+1-1)) (K-1) N 0 ov by
       rw [Qd.out,show s[K]=46 from UInt8.toNat_inj.1 (by have:=HX.out;rw [h46] at this;exact Int.ofNat_inj.1 this)];have:=HA.out.point
       rwa [show (((bl s).drop 1).take (K-1)).length=K-1 from by rw [List.length_take,ym,zaC];omega] at this)
      have Qe:(PlainAid.bt s K==46)=true:=by rw [beq_iff_eq];exact h46
      clear h46;go_wp2
      go_round
      case rel=>exact ⟨K+1,N,0,D,K,ov,by omega,by omega,rfl,rfl,rfl,rfl,rfl,by go_num,Qt,Qu,Qj,by omega,by omega,Zj,by omega,yb (.inr ⟨K-1,by omega,by omega,by have:=HD.out;omega,HB.out⟩)⟩
      case measure=>simp [intOf];omega
     ·have Qe:(PlainAid.bt s K==46)=false:=by rw [yf];exact h46
      have QX:=yb (show s[K]≠46 from fun e=>h46 (by rw [<-HX.out,e];rfl));clear h46
      by_cases h48:48<=PlainAid.bt s K
      ·by_cases h57:PlainAid.bt s K<=57
       ·have Qk:=yb (show isDg s[K]=true by rw [zba];have:=HX.out;omega)
        have QY:=yb (show ((dgV s[K]:Nat):Int)=PlainAid.bt s K-48 by rw [zdw Qk.out,HX.out]);have Qf:decide (48<=PlainAid.bt s K)=true:=by simpa using h48
        have Ql:decide (PlainAid.bt s K<=57)=true:=by simpa using h57
        cases ov
        ·have Z2:=Qj rfl
         by_cases hM:2147483647<10*N+PlainAid.bt s K-48
         ·have Qr:=yb (show PA (((bl s).drop 1).take (K+1-1)) (10*N+PlainAid.bt s K-48) true by
           rw [Qd.out];exact HA.out.more Qk.out _ (by have:=QY.out;omega) _ (by rw [eq_comm,decide_eq_true_iff];exact hM))
          go_wp2
          go_round
          case rel=>exact ⟨K+1,10*N+PlainAid.bt s K-48,0,D+1,-1,true,by omega,by omega,rfl,rfl,rfl,rfl,rfl,by go_num,by omega,by omega,(fun h=>by cases h),by omega,by omega,by omega,by omega,yb (.inl ⟨rfl,rfl,by have:=HD.out;omega,Qr.out⟩)⟩
          case measure=>simp [intOf];omega
         ·have Qr:=yb (show PA (((bl s).drop 1).take (K+1-1)) (10*N+PlainAid.bt s K-48) false by
           rw [Qd.out];exact HA.out.more Qk.out _ (by have:=QY.out;omega) _ (by rw [eq_comm,decide_eq_false_iff_not];exact hM))
          have Z3:decide (2147483647<10*N+PlainAid.bt s K-48)=false:=by simpa using hM
          have Zk:10*N+PlainAid.bt s K-48<=2147483647:=by omega
          clear hM;go_wp2
          go_round
          case rel=>exact ⟨K+1,10*N+PlainAid.bt s K-48,0,D+1,-1,false,by omega,by omega,rfl,rfl,rfl,rfl,rfl,by go_num,by omega,by omega,(fun _=>Zk),by omega,by omega,by omega,by omega,yb (.inl ⟨rfl,rfl,by have:=HD.out;omega,Qr.out⟩)⟩
          case measure=>simp [intOf];omega
        ·have Qr:=yb (show PA (((bl s).drop 1).take (K+1-1)) N true by rw [Qd.out];exact HA.out.over Qk.out)
         go_wp2
         go_round
         case rel=>exact ⟨K+1,N,0,D+1,-1,true,by omega,by omega,rfl,rfl,rfl,rfl,rfl,by go_num,Qt,Qu,Qj,by omega,by omega,by omega,by omega,yb (.inl ⟨rfl,rfl,by have:=HD.out;omega,Qr.out⟩)⟩
         case measure=>simp [intOf];omega
       ·have HL:=yb (show V=(0,0,11) by
         rw [HS.out,Qg.out];exact zcd _ _ _ _ HA.out.dg QX.out (by rw [zbY];have:=HX.out;omega))
        have Qf:decide (48<=PlainAid.bt s K)=true:=by simpa using h48
        have Ql:decide (PlainAid.bt s K<=57)=false:=by simpa using h57
        obtain ⟨⟨k0,k1,k2,k3⟩,f0,f1,f2,f3⟩:=zad Qa.out;go_wp2;refine yi (zaa rfl _ _ w.heap.size 25 _ (0,0) _ rfl (set4 Qa.out _ _ _ _) Tryz.underlying25 rfl zao _ rfl) rfl ⟨?_,zae Qb.out (yp _) _ _ _ _⟩;rw [HL.out];rfl
      ·have HL:=yb (show V=(0,0,11) by
        rw [HS.out,Qg.out];exact zcd _ _ _ _ HA.out.dg QX.out (by rw [zbY];have:=HX.out;omega))
       have Qf:decide (48<=PlainAid.bt s K)=false:=by simpa using h48
       obtain ⟨⟨k0,k1,k2,k3⟩,f0,f1,f2,f3⟩:=zad Qa.out;go_wp2;refine yi (zaa rfl _ _ w.heap.size 25 _ (0,0) _ rfl (set4 Qa.out _ _ _ _) Tryz.underlying25 rfl zao _ rfl) rfl ⟨?_,zae Qb.out (yp _) _ _ _ _⟩;rw [HL.out];rfl
    ·have HB:=yb hB
     have HD:=yb hD;clear hB hD Qo;have Zl:decide ((1:Int)+(i:Int)<0)=false:=ye (by omega);have QE:decide ((i:Int)<0)=false:=ye (by omega);have QF:0<=(1:Int)+(i:Int):=by omega
     by_cases h48:48<=PlainAid.bt s K
     ·have Qf:decide (48<=PlainAid.bt s K)=true:=by simpa using h48
      have Qe:(PlainAid.bt s K==46)=false:=by rw [yf];omega
      by_cases h57:PlainAid.bt s K<=57
      ·have Ql:decide (PlainAid.bt s K<=57)=true:=by simpa using h57
       have Qk:=yb (show isDg s[K]=true by rw [zba];have:=HX.out;omega);go_wp2
       go_loop [11,12] (fun b j=>∃(J:Nat) (B:Int),1<=J/\J<=7/\J<=K-1-i/\b=.int .i64 B/\j=.int .i64 J/\0<=B/\B<=100000/\Hid (B=(100000 / 10 ^ (J-1):Nat))) (fun _ j=>7-(intOf j).toNat)
       case atStart=>exact ⟨1,100000,by omega,by omega,by omega,rfl,rfl,by omega,by omega,yb rfl⟩
       case round =>
        obtain ⟨J,B,Z4,Z5,Z6,rfl,rfl,Qi,QB,QG⟩:=hrel
        by_cases hJK:(J:Int)<(K:Int)-(1+(i:Int))
        ·have QH:decide ((J:Int)<(K:Int)-(1+(i:Int)))=true:=by simpa using hJK
         by_cases hJ7b:J<7
         ·have QI:decide ((J:Int)<7)=true:=by simp;omega
          have Zm:=yb (show B / 10=((100000 / 10 ^ (J+1-1):Nat):Int) by
           rw [QG.out,show J+1-1=(J-1)+1 from by omega,Nat.pow_succ,<-Nat.div_div_eq_div_mul];omega)
          go_wp2
          go_round
          case rel=>exact ⟨J+1,B / 10,by omega,by omega,by omega,rfl,by go_num,by omega,by omega,Zm⟩
          case measure=>simp [intOf];omega
         ·have QI:decide ((J:Int)<7)=false:=ye (by omega)
          have Zn:0<=B*(PlainAid.bt s K-48):=Int.mul_nonneg Qi (by omega);have QJ:B*(PlainAid.bt s K-48)<=100000*9:=Int.mul_le_mul QB (by omega) (by omega) (by omega)
          have HQ:=yb (show PB (((bl s).drop 1).take (K+1-1)) i N (P+B*(PlainAid.bt s K-48)) ov by
           rw [Qd.out];refine HB.out.more Qk.out (100000 / 10 ^ (J-1)) ?_ _ (by rw [QG.out,HX.out]);rw [List.length_take,ym,zaC]
           congr 3
           omega)
          have hq:=HQ.out.bd;have QK:=hq.1;have QL:=hq.2;clear hq;have Zo:IntKind.i64.wrap (B*(PlainAid.bt s K-48))=B*(PlainAid.bt s K-48):=IntWalk.i64_in _ (by omega);clear QJ;go_wp2
          go_round
          case rel=>exact ⟨K+1,N,P+B*(PlainAid.bt s K-48),D+1,_,ov,by omega,by omega,rfl,rfl,rfl,rfl,rfl,by go_num,Qt,Qu,Qj,QK,QL,by omega,by omega,yb (.inr ⟨i,rfl,by omega,by have:=HD.out;omega,HQ.out⟩)⟩
          case measure=>simp [intOf];omega
        ·have QH:decide ((J:Int)<(K:Int)-(1+(i:Int)))=false:=by simpa using hJK
         have Zn:0<=B*(PlainAid.bt s K-48):=Int.mul_nonneg Qi (by omega);have QJ:B*(PlainAid.bt s K-48)<=100000*9:=Int.mul_le_mul QB (by omega) (by omega) (by omega)
         have HQ:=yb (show PB (((bl s).drop 1).take (K+1-1)) i N (P+B*(PlainAid.bt s K-48)) ov by
          rw [Qd.out];refine HB.out.more Qk.out (100000 / 10 ^ (J-1)) ?_ _ (by rw [QG.out,HX.out]);rw [List.length_take,ym,zaC]
          congr 3
          omega)
         have hq:=HQ.out.bd;have QK:=hq.1;have QL:=hq.2;clear hq;have Zo:IntKind.i64.wrap (B*(PlainAid.bt s K-48))=B*(PlainAid.bt s K-48):=IntWalk.i64_in _ (by omega);clear QJ;go_wp2
         go_round
         case rel=>exact ⟨K+1,N,P+B*(PlainAid.bt s K-48),D+1,_,ov,by omega,by omega,rfl,rfl,rfl,rfl,rfl,by go_num,Qt,Qu,Qj,QK,QL,by omega,by omega,yb (.inr ⟨i,rfl,by omega,by have:=HD.out;omega,HQ.out⟩)⟩
         case measure=>simp [intOf];omega
      ·have HL:=yb (show V=(0,0,11) by
        rw [HS.out,Qg.out];exact HB.out.bad _ _ _ (by rw [zbY];have:=HX.out;omega))
       have Ql:decide (PlainAid.bt s K<=57)=false:=by simpa using h57
       obtain ⟨⟨k0,k1,k2,k3⟩,f0,f1,f2,f3⟩:=zad Qa.out;go_wp2;refine yi (zaa rfl _ _ w.heap.size 25 _ (0,0) _ rfl (set4 Qa.out _ _ _ _) Tryz.underlying25 rfl zao _ rfl) rfl ⟨?_,zae Qb.out (yp _) _ _ _ _⟩;rw [HL.out];rfl
     ·have HL:=yb (show V=(0,0,11) by
       rw [HS.out,Qg.out];exact HB.out.bad _ _ _ (by rw [zbY];have:=HX.out;omega))
      have Qf:decide (48<=PlainAid.bt s K)=false:=by simpa using h48
      obtain ⟨⟨k0,k1,k2,k3⟩,f0,f1,f2,f3⟩:=zad Qa.out
      by_cases h46:PlainAid.bt s K=46
      ·have Qe:(PlainAid.bt s K==46)=true:=by rw [beq_iff_eq];exact h46
       clear h46;go_wp2;refine yi (zaa rfl _ _ w.heap.size 25 _ (0,0) _ rfl (set4 Qa.out _ _ _ _) Tryz.underlying25 rfl zao _ rfl) rfl ⟨?_,zae Qb.out (yp _) _ _ _ _⟩;rw [HL.out];rfl
      ·have Qe:(PlainAid.bt s K==46)=false:=by rw [yf];exact h46
       clear h46;go_wp2;refine yi (zaa rfl _ _ w.heap.size 25 _ (0,0) _ rfl (set4 Qa.out _ _ _ _) Tryz.underlying25 rfl zao _ rfl) rfl ⟨?_,zae Qb.out (yp _) _ _ _ _⟩;rw [HL.out];rfl
   ·obtain rfl:K=s.size:=by omega
    have Qd:=yb (show ((bl s).drop 1).take (s.size-1)=(bl s).drop 1 by rw [List.take_of_length_le (by rw [ym,zaC];omega)]);have Qs:=yb (show ((bl s).drop 1).length=s.size-1 by rw [ym,zaC]);have Qm:=(Array.getElem?_eq_some_iff.1 Qa.out).1;obtain ⟨⟨k0,k1,k2,k3⟩,f0,f1,f2,f3⟩:=zad Qa.out;rcases Qo.out with ⟨rfl,rfl,hD,hA⟩|⟨i,rfl,hi,hD,hB⟩
    ·rw [Qd.out] at hA
     have HL:=yb (show V=if s.size-1=0 then (0,0,11) else if ov=true then (0,0,5) else (2,(-1)*N,0) by rw [HS.out,hA.fin,Qs.out]);clear hA Qo
     by_cases hz:s.size-1=0
     ·rw [yg hz] at HL
      have QM:(D==0)=true:=by rw [beq_iff_eq];omega
      clear hD hz;go_wp2;refine yi (zaa rfl _ _ w.heap.size 25 _ (0,0) _ rfl (set4 Qa.out _ _ _ _) Tryz.underlying25 rfl zao _ rfl) rfl ⟨?_,zae Qb.out (yp _) _ _ _ _⟩;rw [HL.out];rfl
     ·rw [yh hz] at HL
      have QM:(D==0)=false:=by rw [yf];omega
      clear hD hz
      cases ov
      ·rw [yh (by decide)] at HL
       have QN:=Qj rfl;go_wp2;refine yi (zaa rfl _ _ w.heap.size 25 _ (0,0) _ rfl (zal _ (set4 Qa.out _ _ _ _)) Tryz.underlying25 rfl zao _ rfl) rfl ⟨?_,(zae Qb.out (yp _) _ _ _ _).alloc (by simpa using Nat.le_of_lt Qm) _⟩;rw [HL.out];simp [valC,zbn]
      ·rw [yg rfl] at HL
       go_wp2;refine yi (zaa rfl _ _ w.heap.size 25 _ (0,0) _ rfl (set4 Qa.out _ _ _ _) Tryz.underlying25 rfl zao _ rfl) rfl ⟨?_,zae Qb.out (yp _) _ _ _ _⟩;rw [HL.out];rfl
    ·rw [Qd.out] at hB
     have HL:=yb (show V=if s.size-1=1 then (0,0,11) else if ov=true\/(N=2147483647/\0<P) then (0,0,5) else (3,(-1)*(1000000*N+P),0) by rw [HS.out,hB.fin,Qs.out]);clear hB Qo;have Zl:decide (0<=(1:Int)+(i:Int))=true:=yd (by omega);have QE:decide (0<=(i:Int))=true:=yd (by omega);have QF:0<=(1:Int)+(i:Int):=by omega
     by_cases hz:s.size-1=1
     ·rw [yg hz] at HL
      have QM:(D==0)=true:=by rw [beq_iff_eq];omega
      clear hD hz hi;go_wp2;refine yi (zaa rfl _ _ w.heap.size 25 _ (0,0) _ rfl (set4 Qa.out _ _ _ _) Tryz.underlying25 rfl zao _ rfl) rfl ⟨?_,zae Qb.out (yp _) _ _ _ _⟩;rw [HL.out];rfl
     ·rw [yh hz] at HL
      have QM:(D==0)=false:=by rw [yf];omega
      clear hD hz hi
      cases ov
      ·have QN:=Qj rfl
       by_cases hNm:N=2147483647
       ·have QO:(N==2147483647)=true:=by rw [beq_iff_eq];exact hNm
        by_cases hPp:0<P
        ·have Zp:decide (0<P)=true:=by simpa using hPp
         rw [yg (.inr ⟨hNm,hPp⟩)] at HL;clear hNm;go_wp2;refine yi (zaa rfl _ _ w.heap.size 25 _ (0,0) _ rfl (set4 Qa.out _ _ _ _) Tryz.underlying25 rfl zao _ rfl) rfl ⟨?_,zae Qb.out (yp _) _ _ _ _⟩;rw [HL.out];rfl
        ·have Zp:decide (0<P)=false:=by simpa using hPp
         rw [yh (by rintro (h|h);cases h;exact hPp h.2)] at HL;clear hNm;go_wp2;refine yi (zaa rfl _ _ w.heap.size 25 _ (0,0) _ rfl (zal _ (set4 Qa.out _ _ _ _)) Tryz.underlying25 rfl zao _ rfl) rfl ⟨?_,(zae Qb.out (yp _) _ _ _ _).alloc (by simpa using Nat.le_of_lt Qm) _⟩;rw [HL.out];simp [valC,zbn]
       ·have QO:(N==2147483647)=false:=by rw [yf];exact hNm
        rw [yh (by rintro (h|h);cases h;exact hNm h.1)] at HL;clear hNm;go_wp2;refine yi (zaa rfl _ _ w.heap.size 25 _ (0,0) _ rfl (zal _ (set4 Qa.out _ _ _ _)) Tryz.underlying25 rfl zao _ rfl) rfl ⟨?_,(zae Qb.out (yp _) _ _ _ _).alloc (by simpa using Nat.le_of_lt Qm) _⟩;rw [HL.out];simp [valC,zbn]
      ·rw [yg (.inl rfl)] at HL
       go_wp2;refine yi (zaa rfl _ _ w.heap.size 25 _ (0,0) _ rfl (set4 Qa.out _ _ _ _) Tryz.underlying25 rfl zao _ rfl) rfl ⟨?_,zae Qb.out (yp _) _ _ _ _⟩;rw [HL.out];rfl
theorem rparse_empty (s:ByteArray) (w:World) (h0:s.size=0) :
  Calls Tryz.prog 110 #[.string s] w (zbE (zaP (bl s)) w):=by
 have QC:(w.alloc (.cells #[.int .i64 0,.int .i64 0,.string ⟨#[]⟩,.slice none 0 0] 25)).heap[w.heap.size]?=some (.cells #[.int .i64 0,.int .i64 0,.string ⟨#[]⟩,.slice none 0 0] 25 (0,0)):=zac _ rfl;have Qi:=zai w (.cells #[.int .i64 0,.int .i64 0,.string ⟨#[]⟩,.slice none 0 0] 25);have Qa:=yb QC;have Qb:=yb Qi;obtain ⟨V,hV⟩:∃V,V=zaP (bl s):=⟨_,rfl⟩;rw [<-hV];have HV:=yb hV;clear hV QC Qi;have HL:=yb (show V=(0,0,11) by rw [HV.out,show bl s=[] from List.eq_nil_of_length_eq_zero (by rw [zaC];exact h0)];rfl);have hz:¬0<s.size:=by omega
 have YM:decide (0<s.size)=false:=ye hz;have YN:decide ((0:Int)<s.size)=false:=ye (by omega);clear h0;go_enter Tryz.func110,Tryz.ntmps110
 go_wp2;generalize w.alloc (.cells #[.int .i64 0,.int .i64 0,.string ⟨#[]⟩,.slice none 0 0] 25)=W at *
 go_loop [7,10] (fun d i=>d=.int .i64 0/\i=.int .i64 0) (fun _ _=>0)
 case atStart=>exact ⟨rfl,rfl⟩
 case round =>
  obtain ⟨rfl,rfl⟩:=hrel;obtain ⟨⟨k0,k1,k2,k3⟩,f0,f1,f2,f3⟩:=zad Qa.out;go_wp2;refine yi (zaa rfl _ _ w.heap.size 25 _ (0,0) _ rfl (set4 Qa.out _ _ _ _) Tryz.underlying25 rfl zao _ rfl) rfl ⟨?_,zae Qb.out (yp _) _ _ _ _⟩;rw [HL.out];rfl
theorem zb2 (s:ByteArray) (w:World) (hs:s.size<=400000) :
  Calls Tryz.prog 110 #[.string s] w (zbE (zaP (bl s)) w):=by
 by_cases h0:0<s.size
 ·by_cases h1:PlainAid.bt s 0=43
  ·exact rparse_plus s w hs h0 h1
  ·by_cases h2:PlainAid.bt s 0=45
   ·exact rparse_minus s w hs h0 h2
   ·exact rparse_none s w hs h0 h1 h2
 ·exact rparse_empty s w (by omega)
structure Rx (w:World) (r n:Nat) (f:Nat) (W:World):Prop where
 blk:W.heap[r]?=some (.cells #[.int .i64 0,.int .i64 0,.int .i64 0,.int .i64 0,.int .i64 0,.string ⟨#[]⟩,.slice none 0 0,.string ⟨#[]⟩] 81 (0,0))
 no:W.heap[n]?=some (.cells #[.int .i64 0,.int .i64 f,.int .i64 f,.int .i64 0,.int .i64 0,.string ⟨#[]⟩,.slice none 0 0,.string ⟨#[]⟩] 81 (0,0))
 bel:Below w.heap.size w W
 wr:w.heap.size<=r
theorem Rx.on {w W W':World} {r n f:Nat} (h:Rx w r n f W) (hb:Below W.heap.size W W'):Rx w r n f W':=⟨zab hb h.blk,zab hb h.no,h.bel.trans (hb.mono h.bel.size),h.wr⟩
theorem Rx.alloc {w W:World} {r n f:Nat} (h:Rx w r n f W) (o:Obj):Rx w r n f (W.alloc o):=h.on (zai W o)
theorem zau {w W:World} {r:Nat} {V:Tk×Int×Int×Int} {x:Tk} {f t er:Int} (hb:Below w.heap.size w W) (hr:w.heap.size<=r) (hV:V=(x,f,t,er)) (y0 y1 y2 y3 y4 y5 y6 y7:Value) :
  zaF w V (.returned (.tuple #[.agg (tokN x f t),.int .i64 er]))
   ((((((((W.setCell ⟨r,0,none⟩ y0).setCell ⟨r,1,none⟩ y1).setCell ⟨r,2,none⟩ y2).setCell ⟨r,3,none⟩ y3).setCell ⟨r,4,none⟩ y4).setCell ⟨r,5,none⟩ y5).setCell ⟨r,6,none⟩ y6).setCell ⟨r,7,none⟩ y7):=by
 subst hV;exact ⟨rfl,za9 hb hr _ _ _ _ _ _ _ _⟩
theorem zhA {bs:List UInt8} {f:Nat} (yq:Bool) (h:f<bs.length):zbw bs f yq=if (tokV yq (bs.getD f 0) (bs.drop (f+1))).1=0 then ((tokV yq (bs.getD f 0) (bs.drop (f+1))).2.1,(f:Int),(bs.length:Int)-((tokV yq (bs.getD f 0) (bs.drop (f+1))).2.2.length:Int),0) else ({ kind:=0 },(f:Int),(f:Int),(tokV yq (bs.getD f 0) (bs.drop (f+1))).1):=zcs yq (zay h)
theorem zbg {bs:List UInt8} {f j:Nat} {yq:Bool} (h:f<bs.length) {c:UInt8} (hc:bs.getD f 0=c) {x:Tk} (ht:tokV yq c (bs.drop (f+1))=(0,x,bs.drop j)) (hj:j<=bs.length):zbw bs f yq=(x,(f:Int),(j:Int),0):=by
 rw [zhA yq h,hc,ht,yg rfl];simp only [ym]
 congr 3;omega
theorem zfX {bs:List UInt8} {f:Nat} {yq:Bool} (h:f<bs.length) {c:UInt8} (hc:bs.getD f 0=c) {x:Tk} {r:List UInt8} (ht:tokV yq c (bs.drop (f+1))=(0,x,r)) (hj:r.length<=bs.length):zbw bs f yq=(x,(f:Int),((bs.length-r.length:Nat):Int),0):=by
 rw [zhA yq h,hc,ht,yg rfl];simp only
 congr 3;omega
theorem za7 {bs:List UInt8} {f:Nat} {yq:Bool} (h:f<bs.length) {c:UInt8} (hc:bs.getD f 0=c) {e:Int} (ht:(tokV yq c (bs.drop (f+1))).1=e) (he:e≠0):zbw bs f yq=({ kind:=0 },(f:Int),(f:Int),e):=by
 rw [zhA yq h,hc,yh (by rw [ht];exact he),ht]
theorem tokV_62 (yq:Bool) (t:List UInt8):tokV yq 62 t=match t with
   | []=>(if yq then 11 else 6,{ kind:=0 },[])
   | d::u=>if d=62 then (0,{ kind:=5 },u) else (11,{ kind:=0 },[]):=by
 unfold tokV;rw [yh (by decide),yh (by decide),yh (by decide),yh (by decide),yg rfl]
 cases t<;>rfl
theorem tokV_60 (yq:Bool) (t:List UInt8) (h:∀u,t≠60::u):tokV yq 60 t=hexK yq (hexV [] (-1) t):=by
 have:=tokV_open ⟨none,0,t,yq⟩ 0;rw [List.drop_zero] at this;rw [this]
 cases t with
 | nil=>rfl
 | cons d u =>
  rw [opV_in (X:=⟨none,0,d::u,yq⟩) (k:=0) (by simp),yh (by simp;intro e;subst e;exact h u rfl)];rfl
theorem skip_here {bs:List UInt8} {k:Int} {f:Nat} (h0:0<=k) (h1:k<=bs.length) (hf:zaL bs k=f) (hl:f<bs.length):bs.getD f 0≠37/\isSp (bs.getD f 0)=false:=by
 have hi:=zgN h0 h1;rw [hf] at hi
 have h2:f+zbi false (bs.drop f)=f:=by
  have:zaL bs (f:Int)=f+zbi false (bs.drop f):=by
   unfold zaL;rw [yh (by omega),yh (by omega),Int.toNat_natCast]
  rw [<-this];exact hi
 rw [zay hl] at h2;refine ⟨fun e=>?_,?_⟩
 ·rw [zbi,yg e] at h2;omega
 ·by_cases e:bs.getD f 0=37
  ·rw [zbi,yg e] at h2;omega
  ·cases hs:isSp (bs.getD f 0) with
   | false=>rfl
   | true=>rw [zbi,yh e,yg hs] at h2;omega
theorem zdu.some_end {bs:List UInt8} {yq:Bool} {V:Int×List UInt8×List UInt8} {w w':World} {e:Ending} (h:zdu bs yq V w e w'):∃v n er,e=.returned (.tuple #[v,.int .i64 n,.int .i64 er])/\Below w.heap.size w w':=by
 obtain ⟨hb,⟨-,h⟩|⟨-,h⟩|⟨-,v,h,-,-⟩⟩:=h
 ·exact ⟨_,_,_,h,hb⟩
 ·exact ⟨_,_,_,h,hb⟩
 ·exact ⟨_,_,_,h,hb⟩
theorem zaG {w:World} {a:Option Addr} {cap:Nat} {bs:List UInt8} (hr:Row w 1 a bs.length cap (bs.map u8C)) (hn:bs.length<=400000) {k:Int} (hk0:0<=k) (hk1:k<=bs.length) {f:Nat} (hf:zaL bs k=f) (hfl:f<bs.length) :
  ∃(b off R r:Nat) (x:Nat),a=some ⟨b,off,none⟩/\b<w.heap.size/\(bs.getD f 0).toNat=x/\R=f+runN (bs.drop f)/\R<=bs.length/\r=w.heap.size/\bs.length<=cap/\(cap:Int)<=9223372036854775807/\decide (k<0)=false /\
   decide ((bs.length:Int)<k)=false/\((f:Int)==(bs.length:Int))=false/\decide (f=bs.length)=false/\(f:Int)<bs.length/\f<=399999/\runN (bs.drop f)<=bs.length-f /\
   (∀W:World,Below w.heap.size w W->Calls Tryz.prog 105 #[.slice a bs.length cap,.int .i64 k] W fun e w'=>e=.returned (.int .i64 (f:Nat))/\W=w') /\
   (∀W:World,Below w.heap.size w W->Calls Tryz.prog 106 #[.slice a bs.length cap,.int .i64 f] W fun e w'=>e=.returned (.int .i64 (R:Nat))/\W=w') /\
   (∀j,j<bs.length->w.cell? ⟨b,off+j,none⟩=some (.int .u8 (bs.getD j 0).toNat))/\w.cell? ⟨b,off+f,none⟩=some (.int .u8 x) /\
   (w.alloc (.cells #[.int .i64 0,.int .i64 0,.int .i64 0,.int .i64 0,.int .i64 0,.string ⟨#[]⟩,.slice none 0 0,.string ⟨#[]⟩] 81)).heap[r]?=some (.cells #[.int .i64 0,.int .i64 0,.int .i64 0,.int .i64 0,.int .i64 0,.string ⟨#[]⟩,.slice none 0 0,.string ⟨#[]⟩] 81 (0,0))/\Below w.heap.size w (w.alloc (.cells #[.int .i64 0,.int .i64 0,.int .i64 0,.int .i64 0,.int .i64 0,.string ⟨#[]⟩,.slice none 0 0,.string ⟨#[]⟩] 81)):=by
 obtain ⟨b,off,ha,hbW,hc⟩:=hr.at 0 f hfl;have Z7:=zbu (bs.drop f);rw [ym] at Z7
 refine ⟨b,off,_,_,_,ha,hbW,rfl,rfl,by omega,rfl,hr.2.1,hr.i64c,ye (by omega),ye (by omega),by rw [yf];omega,ye (by omega),by omega,by omega,Z7,fun W h=>?_,
  fun W h=>zd4 (hr.mono h) hn f (by omega),hc,hc f hfl,zac _ rfl,zai w _⟩
 have:=rskip_any (hr.mono h) hn k;rw [hf] at this;exact this
theorem zax {w:World} {b off f r x:Nat} (hbW:b<w.heap.size) (hrr:r=w.heap.size) {W1:World} (hB:Below w.heap.size w W1) (hc:w.cell? ⟨b,off+f,none⟩=some (.int .u8 x)) (hZ:W1.heap[r]?=some (.cells #[.int .i64 0,.int .i64 0,.int .i64 0,.int .i64 0,.int .i64 0,.string ⟨#[]⟩,.slice none 0 0,.string ⟨#[]⟩] 81 (0,0))) :
  W1.cell? ⟨b,off+f,none⟩=some (.int .u8 x)/\(W1.alloc (.cells #[.int .i64 0,.int .i64 f,.int .i64 f,.int .i64 0,.int .i64 0,.string ⟨#[]⟩,.slice none 0 0,.string ⟨#[]⟩] 81)).cell? ⟨b,off+f,none⟩=some (.int .u8 x)/\¬b=W1.heap.size/\b<W1.heap.size/\Rx w r W1.heap.size f (W1.alloc (.cells #[.int .i64 0,.int .i64 f,.int .i64 f,.int .i64 0,.int .i64 0,.string ⟨#[]⟩,.slice none 0 0,.string ⟨#[]⟩] 81)) :=
 ⟨cell?_keep hB hc,cell?_keep (hB.alloc hB.size _) hc,by have:=hB.size;omega,by have:=hB.size;omega,zal _ hZ,zac _ rfl,hB.alloc hB.size _,by rw [hrr];exact yp _⟩
end Go.Proofs.YtcmoehknppjkiaaGreatDoor
