/-
  Our texts LexA to Xr1, in one.
-/
import Derived.Test.YtcmoehknppjkiaaGreatDoorPkB3
import Derived.Lib.BytesEntry
import Derived.PlainAid
import Derived.Laws.IdiomStrings
import Derived.Test.YtcmoehknppjkiaaGreatDoorProg
import Derived.Deep.RegionHeld3
import Derived.BigQuiet
set_option maxRecDepth 8000
set_option maxHeartbeats 8000000
namespace Go.Proofs.YtcmoehknppjkiaaGreatDoor
open Go.RowKit
theorem bytesOf_map (o:List UInt8):Lib.bytesOf (o.map fun b=>(b.toNat:Int))=o:=by
 unfold Lib.bytesOf;rw [List.map_map];have:((fun n:Int=>UInt8.ofNat n.toNat) ∘ fun b:UInt8=>(b.toNat:Int))=id:=by funext b;simp
 rw [this,List.map_id]
set_option maxRecDepth 100000 in
theorem bidx_any {w:World} {base:Nat} {v:Value} {o:List UInt8} (hr:w.ownsRow base 5 1 v o.length (o.map u8C)) (cv:Int) :
  Calls Tryz.prog 188 #[v,.int .u8 cv] w fun e w'=>e=.returned (.int .i64 (Lib.indexByte o cv.toNat.toUInt8))/\w=w':=by
 have hX:(Extern.BytealgIndexByte.indexByte #[v,.int .u8 cv]).run Tryz.prog w=.ok (.int .i64 (Lib.indexByte o cv.toNat.toUInt8)) w:=by
  rcases hr.2 with ⟨rfl,h0⟩|⟨g,cap,cur,rfl,_⟩
  ·have ho:o=[]:=List.eq_nil_of_length_eq_zero h0
   subst ho;exact Lib.run_indexByteNil _ _ _ cv
  ·have:=Lib.run_indexByteSlice (P:=Tryz.prog) (w:=w) g 0 o.length cap (o.map fun b=>(b.toNat:Int)) (by simp) (fun i hi=>by
    have:=hr.cells (g:=g) rfl i (u8C (o.getD i 0)) (by simp [List.getD,hi]);rw [Addr.add_lit] at this;rw [this];unfold u8C;simp [List.getD,hi]) cv
   rw [bytesOf_map] at this;exact this
 obtain ⟨a,cap,hv,-⟩:=Row.of_owns hr;subst hv;clear hr;go_enter Tryz.func188,Tryz.ntmps188
 go_wp2;rw [run_callFunc_extern Tryz.func201 (by kernel_rfl) (by kernel_rfl) (by kernel_rfl) (e:=Extern.BytealgIndexByte.indexByte) (by kernel_rfl),hX];simp only [Result.andThen];rw [Oper.upon_value];go_wp2;go_ret;exact ⟨rfl,rfl⟩
def finN:Option (List UInt8)->Option (List UInt8)
 | none=>none
 | some o=>if 127<o.length\/(0:UInt8)∈o then none else some o
theorem nameV_fin (l:List UInt8):zdR l=finN (zbW [] l):=by unfold zdR finN;cases zbW [] l<;>rfl
theorem zgc (o:List UInt8) (c:UInt8) (t:List UInt8) (h:c≠35):zbW o (c::t)=zbW (o++[c]) t:=by rw [zbW.eq_def];simp only;rw [yh h]
theorem zff (o:List UInt8) (t:List UInt8) (h:t.length<2):zbW o (35::t)=none:=by
 rw [zbW.eq_def];simp only;rw [yg trivial]
 match t,h with
 | [],_=>rfl
 | [_],_=>rfl
theorem zgR (o:List UInt8) (x y:UInt8) (u:List UInt8):zbW o (35::x::y::u)=if hexD x<0\/hexD y<0 then none else zbW (o++[UInt8.ofNat (16*hexD x+hexD y).toNat]) u:=by rw [zbW.eq_def];simp only;rw [yg trivial]
theorem hexI_bd (x:Int):-1<=hexI x/\hexI x<=15:=by
 unfold hexI
 repeat' split
 all_goals omega
theorem zfA (x:Int) (h0:0<=x) (h1:x<=255):x=((UInt8.ofNat x.toNat).toNat:Int):=by rw [UInt8.toNat_ofNat'];omega
theorem idx_mem (o:List UInt8) (c:UInt8):decide (0<=Lib.indexByte o c)=decide (c∈o):=by
 have hg:=Lib.indexByte_ge o c
 by_cases h:Lib.indexByte o c=-1
 ·rw [h,ye (zdD _ _ h)];rfl
 ·obtain ⟨i,hi⟩:=Int.eq_ofNat_of_zero_le (show 0<=Lib.indexByte o c by omega)
  obtain ⟨a,t,e,-,-⟩:=zdJ _ _ _ hi;rw [hi,yd (by omega),yd (by rw [e];simp)]
def zd1 (w:World) (V:Option (List UInt8)) (e:Ending) (w':World):Prop :=
 Below w.heap.size w w'/\match V with
 | none=>e=.returned (.tuple #[.agg (valC 0 0 zbn),.int .i64 17])
 | some o=>e=.returned (.tuple #[.agg (valC 5 0 (mkB o)),.int .i64 0])
theorem zbS {w w':World} {V:Option (List UInt8)} (hV:V=none) (hb:Below w.heap.size w w'):zd1 w V (.returned (.tuple #[.agg (valC 0 0 zbn),.int .i64 17])) w':=by subst hV;exact ⟨hb,rfl⟩
theorem name_some {w w':World} {V:Option (List UInt8)} {o:List UInt8} (hV:V=some o) (hb:Below w.heap.size w w'):zd1 w V (.returned (.tuple #[.agg (valC 5 0 (mkB o)),.int .i64 0])) w':=by subst hV;exact ⟨hb,rfl⟩
theorem zer {w:World} {base:Nat} {v:Value} {o:List UInt8} (hr:w.ownsRow base 5 1 v o.length (o.map u8C)):(convert 28 9 v).run Tryz.prog w=.ok (.string (mkB o)) w:=by
 rcases hr.2 with ⟨rfl,h0⟩|⟨g,cap,cur,rfl,_⟩
 ·have ho:o=[]:=List.eq_nil_of_length_eq_zero h0
  subst ho;rw [run_convert_bytes_string w 28 9 5 none 0 0 Tryz.underlying28 Tryz.underlying5 Tryz.underlying9];rfl
 ·refine run_convert_bytes_back (P:=Tryz.prog) w 28 9 5 ⟨g,0,none⟩ cap o Tryz.underlying28 Tryz.underlying5 Tryz.underlying9 (fun j hj=>?_)
  exact hr.cells (g:=g) rfl j (u8C o[j]) (by simp [hj])
theorem name_any (s:ByteArray) (w:World) (hs:s.size<=400000) :
  Calls Tryz.prog 167 #[.string s] w (zd1 w (zdR (bl s))):=by
 obtain ⟨V,hV⟩:∃V,V=zdR (bl s):=⟨_,rfl⟩;rw [<-hV];rw [nameV_fin] at hV;have HV:=yb hV;obtain ⟨r,hr⟩:∃r,r=w.heap.size:=⟨_,rfl⟩;have ZG:=yb (show (w.alloc (.cells #[.int .i64 0,.int .i64 0,.string ⟨#[]⟩,.slice none 0 0] 25)).heap[r]?=some (.cells #[.int .i64 0,.int .i64 0,.string ⟨#[]⟩,.slice none 0 0] 25 (0,0)) from zac _ hr);have ZH:=yb (zai w (.cells #[.int .i64 0,.int .i64 0,.string ⟨#[]⟩,.slice none 0 0] 25));have Qg:=yb hr;have Zk:=PlainAid.get_bt s;have Zl:=yb (show ∀i (h:i<s.size),(bl s).drop i=s[i]::(bl s).drop (i+1) from fun i h=>zeL s i h);clear hV hr;go_enter Tryz.func167,Tryz.ntmps167
 go_wp2;rw [<-Qg.out];generalize w.alloc (.cells #[.int .i64 0,.int .i64 0,.string ⟨#[]⟩,.slice none 0 0] 25)=W0 at *;have YJ:=(Array.getElem?_eq_some_iff.1 ZG.out).1
 go_loopw [4,5] (fun v i wr=>∃(k:Nat) (o:List UInt8),k<=s.size/\i=.int .i64 k/\o.length<=k/\Hid (wr.ownsRow W0.heap.size 5 1 v o.length (o.map u8C))/\Hid (Below W0.heap.size W0 wr)/\Hid (V=finN (zbW o ((bl s).drop k)))) (fun _ i _=>s.size-(intOf i).toNat)
 case atStart=>exact ⟨0,[],by omega,rfl,by simp,yb (World.ownsRow_nil _ _ _ _),yb (Below.refl _ _),HV⟩
 case round =>
  obtain ⟨k,o,hk,rfl,YK,HO,HB,HG⟩:=hrel;have Qr:=yb (zab HB.out ZG.out);have QQ:=yb (ZH.out.trans (HB.out.mono ZH.out.size));have Zm:=HB.out.size
  by_cases hlt:k<s.size
  ·have hx:(s[k].toNat:Int)=PlainAid.bt s k:=Zk k hlt
   have hg:=HG.out;rw [Zl.out k hlt] at hg;have HX:=yb hx;clear hx
   by_cases h35:PlainAid.bt s k=35
   ·have Zn:(PlainAid.bt s k==35)=true:=by rw [beq_iff_eq];exact h35
    rw [show s[k]=35 from UInt8.toNat_inj.1 (Int.ofNat_inj.1 (HX.out.trans h35))] at hg;clear h35
    by_cases h2:s.size<=k+2
    ·have Qe:=yb (show V=none by rw [hg,zff _ _ (by rw [ym,zaC];omega)];rfl)
     have Yc:decide ((s.size:Int)<=(k:Int)+2)=true:=by simp;omega
     clear hg;obtain ⟨⟨k0,k1,k2,k3⟩,f0,f1,f2,f3⟩:=zad Qr.out;go_wp2;refine yi (zaa rfl _ _ r 25 _ (0,0) _ rfl (set4 Qr.out _ _ _ _) Tryz.underlying25 rfl zao _ rfl) rfl ?_;exact zbS Qe.out (zae QQ.out (by have:=Qg.out;omega) _ _ _ _)
    ·have Yc:decide ((s.size:Int)<=(k:Int)+2)=false:=by simp;omega
     have ZI:k+1<s.size:=by omega
     have ZJ:k+2<s.size:=by omega
     rw [Zl.out (k+1) ZI,Zl.out (k+1+1) ZJ,zgR,zhV,zhV,Zk (k+1) ZI,show ((s[k+1+1].toNat:Nat):Int)=PlainAid.bt s (k+2) from Zk (k+2) ZJ] at hg;have hA:=hexI_bd (PlainAid.bt s (k+1));have hB:=hexI_bd (PlainAid.bt s (k+2));have Q7:=yb (fun W=>hx_187 (PlainAid.bt s (k+1)) W (PlainAid.bt_nonneg _ _) (PlainAid.bt_le _ _));have Zo:=yb (fun W=>hx_187 (PlainAid.bt s (k+2)) W (PlainAid.bt_nonneg _ _) (PlainAid.bt_le _ _));generalize hexI (PlainAid.bt s (k+1))=A at *;generalize hexI (PlainAid.bt s (k+2))=B at *
     by_cases hAn:A<0
     ·have Qe:=yb (show V=none by rw [hg,yg (.inl hAn)];rfl)
      clear hg;obtain ⟨⟨k0,k1,k2,k3⟩,f0,f1,f2,f3⟩:=zad Qr.out;go_wp2_with fail
      refine (Q7.out _).mono ?_;rintro e w9 ⟨rfl,rfl⟩;go_wp2;refine yi (zaa rfl _ _ r 25 _ (0,0) _ rfl (set4 Qr.out _ _ _ _) Tryz.underlying25 rfl zao _ rfl) rfl ?_;exact zbS Qe.out (zae QQ.out (by have:=Qg.out;omega) _ _ _ _)
     ·have YL:decide (A<0)=false:=by simpa using hAn
      by_cases hBn:B<0
      ·have Qe:=yb (show V=none by rw [hg,yg (.inr hBn)];rfl)
       clear hg hAn;obtain ⟨⟨k0,k1,k2,k3⟩,f0,f1,f2,f3⟩:=zad Qr.out;go_wp2_with fail
       refine (Q7.out _).mono ?_;rintro e w9 ⟨rfl,rfl⟩;go_wp2_with fail
       refine (Zo.out _).mono ?_;rintro e w9 ⟨rfl,rfl⟩;go_wp2;refine yi (zaa rfl _ _ r 25 _ (0,0) _ rfl (set4 Qr.out _ _ _ _) Tryz.underlying25 rfl zao _ rfl) rfl ?_;exact zbS Qe.out (zae QQ.out (by have:=Qg.out;omega) _ _ _ _)
      ·have YM:decide (B<0)=false:=by simpa using hBn
       rw [yh (by rintro (h|h)<;>contradiction)] at hg
       have Zp:=yb hg;have Yd:=yb (zfA (16*A+B) (by omega) (by omega));have YN:0<=A:=by omega
       have YO:0<=B:=by omega
       obtain ⟨YP,YQ⟩:=hA;obtain ⟨YR,YS⟩:=hB;clear hg hAn hBn;go_wp2_with fail
       refine (Q7.out _).mono ?_;rintro e w9 ⟨rfl,rfl⟩;go_wp2_with fail
       refine (Zo.out _).mono ?_;rintro e w9 ⟨rfl,rfl⟩;go_wp2
       go_quiet ((first|(go_at_call 187;with_reducible exact (Q7.out _).mono fun _ _ ⟨he,hm⟩=>⟨he,_,hm.symm⟩)|(go_at_call 187;with_reducible exact (Zo.out _).mono fun _ _ ⟨he,hm⟩=>⟨he,_,hm.symm⟩)))
       have ZK:=yb (zbh HO.out (zag (Below.refl _ _) nq));have ZL:=yb (zag HB.out nq);have Zq:=ZL.out.size;generalize wr.drewN nq=w3 at *;go_wp2_with (at_builtin;refine zaE zdo rfl (.tmp 55) (.tmp 57) rfl W0.heap.size _ o.length _ rfl (ZK.out.alloc _) _ 1 _ _ rfl (zbz _ _ _) (zbZ rfl) (by unfold maxLen;omega) (by omega) (by rw [zaq];omega) ?_;intro v' w5 hO5 hg5 hnil5;have Zr:=yb hO5;have Zs:=yb hg5;clear hO5 hg5 hnil5)
       go_roundw
       case rel =>
        refine ⟨k+3,o++[UInt8.ofNat (16*A+B).toNat],by omega,by go_num,by simp;omega,yb ?_,yb ?_,yb Zp.out⟩
        ·have:=Zr.out
         rw [Yd.out] at this
         simpa [u8C] using this
        ·exact (ZL.out.alloc Zq _).grown Zs.out (by rw [zaq];omega) (fun q hq=>(ZK.out.lt q hq).1)
       case measure=>simp [intOf];omega
   ·have Zn:(PlainAid.bt s k==35)=false:=by rw [yf];exact h35
    rw [zgc _ _ _ (fun e=>h35 (by rw [<-HX.out,e];rfl))] at hg;have Zp:=yb hg;clear hg h35;go_wp2_with (at_builtin;refine zaE zdo rfl (.tmp 55) (.tmp 57) rfl W0.heap.size _ o.length _ rfl (HO.out.alloc _) _ 1 _ _ rfl (zbz _ _ _) (zbZ rfl) (by unfold maxLen;omega) (by omega) (by rw [zaq];omega) ?_;intro v' w5 hO5 hg5 hnil5;have Zr:=yb hO5;have Zs:=yb hg5;clear hO5 hg5 hnil5)
    go_roundw
    case rel =>
     refine ⟨k+1,o++[s[k]],by omega,by go_num,by simp;omega,yb ?_,yb ?_,Zp⟩
     ·have:=Zr.out
      rw [<-HX.out] at this
      simpa [u8C] using this
     ·exact (HB.out.alloc (by omega) _).grown Zs.out (by rw [zaq];omega) (fun q hq=>(HO.out.lt q hq).1)
    case measure=>simp [intOf];omega
  ·obtain rfl:k=s.size:=by omega
   have hg:=HG.out;rw [show (bl s).drop s.size=[] from by rw [<-zaC];exact List.drop_length] at hg;have QR:V=if 127<o.length\/(0:UInt8)∈o then none else some o:=hg;have Ye:=yb (zer HO.out);have Zt:=yb (bidx_any HO.out 0);have ZM:decide (0<=Lib.indexByte o 0)=decide ((0:UInt8)∈o):=idx_mem o 0;obtain ⟨a1,cap1,Yf,QX,-⟩:=Row.of_owns HO.out;have Qm:=QX.len1;subst Yf;rw [show (0:Int).toNat.toUInt8=0 from rfl] at Zt;clear hg QX
   by_cases h127:127<o.length
   ·have Qe:=yb (show V=none by rw [QR,yg (.inl h127)])
    have QY:decide ((127:Int)<o.length)=true:=by simp;omega
    clear QR ZM;obtain ⟨⟨k0,k1,k2,k3⟩,f0,f1,f2,f3⟩:=zad Qr.out;go_wp2;refine yi (zaa rfl _ _ r 25 _ (0,0) _ rfl (set4 Qr.out _ _ _ _) Tryz.underlying25 rfl zao _ rfl) rfl ?_;exact zbS Qe.out (zae QQ.out (by have:=Qg.out;omega) _ _ _ _)
   ·have QY:decide ((127:Int)<o.length)=false:=by simp;omega
    have ZN:decide (127<o.length)=false:=ye h127;obtain ⟨b,hb⟩:∃b,decide ((0:UInt8)∈o)=b:=⟨_,rfl⟩;rw [hb] at ZM;have QB:=yb hb;generalize Lib.indexByte o 0=ix at *;clear hb
    cases b
    ·have Yg:¬(0:UInt8)∈o:=of_decide_eq_false QB.out
     have HS:=yb (show V=some o by rw [QR,yh (by rintro (h|h)<;>contradiction)])
     clear QR h127 Yg;go_wp2_with fail
     refine Zt.out.mono ?_;rintro e w9 ⟨rfl,rfl⟩;have YT:=Ye.out;obtain ⟨⟨k0,k1,k2,k3⟩,f0,f1,f2,f3⟩:=zad Qr.out;go_wp2;refine yi (zaa rfl _ _ r 25 _ (0,0) _ rfl (set4 Qr.out _ _ _ _) Tryz.underlying25 rfl zao _ rfl) rfl ?_;exact name_some HS.out (zae QQ.out (by have:=Qg.out;omega) _ _ _ _)
    ·have Qe:=yb (show V=none by rw [QR,yg (.inr (of_decide_eq_true QB.out))])
     clear QR h127;obtain ⟨⟨k0,k1,k2,k3⟩,f0,f1,f2,f3⟩:=zad Qr.out;go_wp2_with fail
     refine Zt.out.mono ?_;rintro e w9 ⟨rfl,rfl⟩;go_wp2;refine yi (zaa rfl _ _ r 25 _ (0,0) _ rfl (set4 Qr.out _ _ _ _) Tryz.underlying25 rfl zao _ rfl) rfl ?_;exact zbS Qe.out (zae QQ.out (by have:=Qg.out;omega) _ _ _ _)
def tokC (kind f t vk vn:Int) (vs s:ByteArray):Array Value:=#[.int .i64 kind,.int .i64 f,.int .i64 t,.int .i64 vk,.int .i64 vn,.string vs,.slice none 0 0,.string s]
theorem zaO:(Tryz.prog.info? 112).map (·.size)=some 8:=by kernel_rfl
def zcG (w:World) (S:Nat->Prop) (p:Nat) (X:Src) (V:Int×Tk×List UInt8) (e:Ending) (w':World):Prop :=
 zak S w w'/\∃(k vk vn:Int) (vs s:ByteArray),e=.returned (.tuple #[.agg (tokC k 0 0 vk vn vs s),.int .i64 V.1]) /\
  (V.1=0->k=V.2.1.kind/\vk=V.2.1.vk/\vn=V.2.1.vn/\vs=mkB V.2.1.vs/\s=mkB V.2.1.s/\V.2.2.length<=X.bs.length/\w'.cell? ⟨p,3,none⟩=some (.int .i64 ((X.bs.length-V.2.2.length:Nat):Int)))
theorem set8 {w:World} {b:Nat} {x0 x1 x2 x3 x4 x5 x6 x7:Value} {t:TypeId} (h:w.heap[b]?=some (.cells #[x0,x1,x2,x3,x4,x5,x6,x7] t (0,0))) (y0 y1 y2 y3 y4 y5 y6 y7:Value) :
  ((((((((w.setCell ⟨b,0,none⟩ y0).setCell ⟨b,1,none⟩ y1).setCell ⟨b,2,none⟩ y2).setCell ⟨b,3,none⟩ y3).setCell ⟨b,4,none⟩ y4).setCell ⟨b,5,none⟩ y5).setCell ⟨b,6,none⟩ y6).setCell ⟨b,7,none⟩ y7).heap[b]?=some (.cells #[y0,y1,y2,y3,y4,y5,y6,y7] t (0,0)):=by
 have h0:(w.setCell ⟨b,0,none⟩ y0).heap[b]?=some (.cells #[y0,x1,x2,x3,x4,x5,x6,x7] t (0,0)):=heap_setCell_same w _ 0 _ _ _ h;generalize w.setCell ⟨b,0,none⟩ y0=w0 at *;have h1:(w0.setCell ⟨b,1,none⟩ y1).heap[b]?=some (.cells #[y0,y1,x2,x3,x4,x5,x6,x7] t (0,0)):=heap_setCell_same w0 _ 1 _ _ _ h0;generalize w0.setCell ⟨b,1,none⟩ y1=w1 at *;have h2:(w1.setCell ⟨b,2,none⟩ y2).heap[b]?=some (.cells #[y0,y1,y2,x3,x4,x5,x6,x7] t (0,0)):=heap_setCell_same w1 _ 2 _ _ _ h1;generalize w1.setCell ⟨b,2,none⟩ y2=w2 at *;have h3:(w2.setCell ⟨b,3,none⟩ y3).heap[b]?=some (.cells #[y0,y1,y2,y3,x4,x5,x6,x7] t (0,0)):=heap_setCell_same w2 _ 3 _ _ _ h2;generalize w2.setCell ⟨b,3,none⟩ y3=w3 at *;have h4:(w3.setCell ⟨b,4,none⟩ y4).heap[b]?=some (.cells #[y0,y1,y2,y3,y4,x5,x6,x7] t (0,0)):=heap_setCell_same w3 _ 4 _ _ _ h3;generalize w3.setCell ⟨b,4,none⟩ y4=w4 at *;have h5:(w4.setCell ⟨b,5,none⟩ y5).heap[b]?=some (.cells #[y0,y1,y2,y3,y4,y5,x6,x7] t (0,0)):=heap_setCell_same w4 _ 5 _ _ _ h4;generalize w4.setCell ⟨b,5,none⟩ y5=w5 at *;have h6:(w5.setCell ⟨b,6,none⟩ y6).heap[b]?=some (.cells #[y0,y1,y2,y3,y4,y5,y6,x7] t (0,0)):=heap_setCell_same w5 _ 6 _ _ _ h5;generalize w5.setCell ⟨b,6,none⟩ y6=w6 at *;exact heap_setCell_same w6 _ 7 _ _ _ h6
theorem zbB {S:Nat->Prop} {w W:World} (h:zak S w W) {r:Nat} (hr:w.heap.size<=r) (y0 y1 y2 y3 y4 y5 y6 y7:Value) :
  zak S w ((((((((W.setCell ⟨r,0,none⟩ y0).setCell ⟨r,1,none⟩ y1).setCell ⟨r,2,none⟩ y2).setCell ⟨r,3,none⟩ y3).setCell ⟨r,4,none⟩ y4).setCell ⟨r,5,none⟩ y5).setCell ⟨r,6,none⟩ y6).setCell ⟨r,7,none⟩ y7) :=
 (((((((h.setCell (.inr hr) _).setCell (.inr hr) _).setCell (.inr hr) _).setCell (.inr hr) _).setCell (.inr hr) _).setCell (.inr hr) _).setCell (.inr hr) _).setCell (.inr hr) _
theorem zg9 {W:World} {b r:Nat} (hb:b≠r) (y0 y1 y2 y3 y4 y5 y6 y7:Value) :
  ((((((((W.setCell ⟨r,0,none⟩ y0).setCell ⟨r,1,none⟩ y1).setCell ⟨r,2,none⟩ y2).setCell ⟨r,3,none⟩ y3).setCell ⟨r,4,none⟩ y4).setCell ⟨r,5,none⟩ y5).setCell ⟨r,6,none⟩ y6).setCell ⟨r,7,none⟩ y7).heap[b]?=W.heap[b]?:=by
 rw [heap_setCell_other _ _ _ _ hb,heap_setCell_other _ _ _ _ hb,heap_setCell_other _ _ _ _ hb,heap_setCell_other _ _ _ _ hb,heap_setCell_other _ _ _ _ hb,heap_setCell_other _ _ _ _ hb,heap_setCell_other _ _ _ _ hb,heap_setCell_other _ _ _ _ hb]
theorem zc9 {W:World} {b r:Nat} (hb:b≠r) (i:Nat) (y0 y1 y2 y3 y4 y5 y6 y7:Value) :
  ((((((((W.setCell ⟨r,0,none⟩ y0).setCell ⟨r,1,none⟩ y1).setCell ⟨r,2,none⟩ y2).setCell ⟨r,3,none⟩ y3).setCell ⟨r,4,none⟩ y4).setCell ⟨r,5,none⟩ y5).setCell ⟨r,6,none⟩ y6).setCell ⟨r,7,none⟩ y7).cell? ⟨b,i,none⟩=W.cell? ⟨b,i,none⟩:=by
 simp only [World.cell?];rw [zg9 hb]
theorem zah {w:World} {b:Nat} {x0 x1 x2 x3 x4 x5 x6 x7:Value} {t:TypeId} (h:w.heap[b]?=some (.cells #[x0,x1,x2,x3,x4,x5,x6,x7] t (0,0))) :
  (w.cell? ⟨b,0,none⟩=some x0/\w.cell? ⟨b,1,none⟩=some x1/\w.cell? ⟨b,2,none⟩=some x2/\w.cell? ⟨b,3,none⟩=some x3/\w.cell? ⟨b,4,none⟩=some x4/\w.cell? ⟨b,5,none⟩=some x5/\w.cell? ⟨b,6,none⟩=some x6/\w.cell? ⟨b,7,none⟩=some x7) /\
  (w.frozen? ⟨b,0,none⟩=false/\w.frozen? ⟨b,1,none⟩=false/\w.frozen? ⟨b,2,none⟩=false/\w.frozen? ⟨b,3,none⟩=false/\w.frozen? ⟨b,4,none⟩=false/\w.frozen? ⟨b,5,none⟩=false/\w.frozen? ⟨b,6,none⟩=false/\w.frozen? ⟨b,7,none⟩=false):=by
 refine ⟨⟨?_,?_,?_,?_,?_,?_,?_,?_⟩,frozen_of_row w b 0 _ _ h,frozen_of_row w b 1 _ _ h,frozen_of_row w b 2 _ _ h,frozen_of_row w b 3 _ _ h,frozen_of_row w b 4 _ _ h,frozen_of_row w b 5 _ _ h,frozen_of_row w b 6 _ _ h,frozen_of_row w b 7 _ _ h⟩
 ·rw [cell_of_row w b 0 _ _ _ h];rfl
 ·rw [cell_of_row w b 1 _ _ _ h];rfl
 ·rw [cell_of_row w b 2 _ _ _ h];rfl
 ·rw [cell_of_row w b 3 _ _ _ h];rfl
 ·rw [cell_of_row w b 4 _ _ _ h];rfl
 ·rw [cell_of_row w b 5 _ _ _ h];rfl
 ·rw [cell_of_row w b 6 _ _ _ h];rfl
 ·rw [cell_of_row w b 7 _ _ _ h];rfl
theorem tok_err {w w':World} {S:Nat->Prop} {p:Nat} {X:Src} {V:Int×Tk×List UInt8} {er:Int} (hV:V.1=er) (hn:er≠0) (hk:zak S w w') (k vk vn:Int) (vs s:ByteArray) :
  zcG w S p X V (.returned (.tuple #[.agg (tokC k 0 0 vk vn vs s),.int .i64 er])) w' :=
 ⟨hk,k,vk,vn,vs,s,by rw [hV],fun h=>absurd (hV.symm.trans h) hn⟩
theorem tok_ok {w w':World} {S:Nat->Prop} {p:Nat} {X:Src} {V:Int×Tk×List UInt8} {x:Tk} {t:List UInt8} (hV:V=(0,x,t)) (hk:zak S w w') (ht:t.length<=X.bs.length) (hc:w'.cell? ⟨p,3,none⟩=some (.int .i64 ((X.bs.length-t.length:Nat):Int))) :
  zcG w S p X V (.returned (.tuple #[.agg (tokC x.kind 0 0 x.vk x.vn (mkB x.vs) (mkB x.s)),.int .i64 0])) w':=by
 subst hV;exact ⟨hk,_,_,_,_,_,rfl,fun _=>⟨rfl,rfl,rfl,rfl,rfl,ht,hc⟩⟩
def clV (X:Src) (k:Nat):Int×Tk×List UInt8:=match X.bs.drop k with
 | []=>(if X.yq then 11 else 6,{ kind:=0 },[])
 | d::u=>if d=62 then (0,{ kind:=5 },u) else (11,{ kind:=0 },[])
theorem clV_in {X:Src} {k:Nat} (hk:k<X.bs.length):clV X k=if X.bs.getD k 0=62 then (0,{ kind:=5 },X.bs.drop (k+1)) else (11,{ kind:=0 },[]):=by
 unfold clV;rw [zay hk]
theorem clV_out {X:Src} {k:Nat} (hk:¬k<X.bs.length):clV X k=(if X.yq then 11 else 6,{ kind:=0 },[]):=by
 unfold clV;rw [zbm (by omega)]
theorem ScQ.facts {w:World} {S:Nat->Prop} {p:Nat} {X:Src} {out:List UInt8} {k:Nat} (h:ScQ w S p X out k):(∀b,S b->b<w.heap.size)/\S p/\k<=X.bs.length/\X.bs.length<=400000/\w.cell? ⟨p,3,none⟩=some (.int .i64 k)/\w.cell? ⟨p,4,none⟩=some (.bool X.yq)/\(∀j,w.frozen? ⟨p,j,none⟩=false):=by
 obtain ⟨_,_,h⟩:=h;exact ⟨fun b hb=>(h.lt b hb).2,h.own,h.le,h.small,h.cells.2.2.2.1,h.cells.2.2.2.2,h.free⟩
theorem ScQ.step {w:World} {S:Nat->Prop} {p:Nat} {X:Src} {out:List UInt8} {k:Nat} (h:ScQ w S p X out k) (hk:k<X.bs.length):zar w S p X out (k+1) (w.setCell ⟨p,3,none⟩ (.int .i64 ((k:Int)+1))):=by
 obtain ⟨_,_,h⟩:=h;exact h.move (k+1) hk (by omega)
structure Tm (w:World) (S:Nat->Prop) (p r:Nat) (X:Src) (k:Nat) (W:World):Prop where
 sc:ScQ W S p X [] k
 blk:W.heap[r]?=some (.cells #[.int .i64 0,.int .i64 0,.int .i64 0,.int .i64 0,.int .i64 0,.string ⟨#[]⟩,.slice none 0 0,.string ⟨#[]⟩] 112 (0,0))
 keeps:zak S w W
 pr:p≠r
 wr:w.heap.size<=r
 sr:¬S r
theorem Tm.start {w:World} {S:Nat->Prop} {p:Nat} {X:Src} {k:Nat} (h:ScQ w S p X [] k):Tm w S p w.heap.size X k (w.alloc (.cells #[.int .i64 0,.int .i64 0,.int .i64 0,.int .i64 0,.int .i64 0,.string ⟨#[]⟩,.slice none 0 0,.string ⟨#[]⟩] 112)) :=
 ⟨h.keep (zai w _),zac _ rfl,(zak.refl S w).alloc _,by have:=h.facts.1 p h.facts.2.1;omega,yp _,fun hS=>by have:=h.facts.1 _ hS;omega⟩
theorem Tm.drewN {w W:World} {S:Nat->Prop} {p r:Nat} {X:Src} {k:Nat} (h:Tm w S p r X k W) (q:Nat):Tm w S p r X k (W.drewN q) :=
 ⟨h.sc.drewN q,h.blk,h.keeps.drewN q,h.pr,h.wr,h.sr⟩
theorem ScQ.next {w:World} {S:Nat->Prop} {p:Nat} {X:Src} {k:Nat} (h:ScQ w S p X [] k) (hk:k<X.bs.length):ScQ (w.setCell ⟨p,3,none⟩ (.int .i64 ((k:Int)+1))) S p X [] (k+1):=by
 obtain ⟨ad,v,h⟩:=h;have hb:=h.blk;refine ⟨ad,v,⟨?_,h.ad_,?_,h.at_,h.own,fun b hS=>by have:=h.lt b hS;simpa using this,?_,h.srcb,hk,h.small,by simp,h.nil_⟩⟩
 ·rw [heap_setCell_same _ _ 3 _ _ _ hb];rfl
 ·exact ownsRow_setCell_other h.row (a:=⟨p,3,none⟩) (fun e=>by have:=(h.row.lt p e).1;omega) _
 ·exact h.src.keeps (S:=fun b=>b=p) ((zak.refl (fun b=>b=p) w).setCell (a:=⟨p,3,none⟩) (.inl rfl) _) (fun x hx e=>by have:=h.srcb x hx;omega)
theorem Tm.next {w W:World} {S:Nat->Prop} {p r:Nat} {X:Src} {k:Nat} (h:Tm w S p r X k W) (hk:k<X.bs.length):Tm w S p r X (k+1) (W.setCell ⟨p,3,none⟩ (.int .i64 ((k:Int)+1))) :=
 ⟨h.sc.next hk,by rw [heap_setCell_other _ _ _ _ (Ne.symm h.pr)];exact h.blk,h.keeps.setCell (.inl h.sc.facts.2.1) _,h.pr,h.wr,h.sr⟩
theorem Tm.ok {w W:World} {S:Nat->Prop} {p r:Nat} {X:Src} {k:Nat} {V:Int×Tk×List UInt8} {x:Tk} (h:Tm w S p r X k W) (hV:V=(0,x,X.bs.drop k)) (y0 y1 y2 y3 y4 y5 y6 y7:Value) :
  zcG w S p X V (.returned (.tuple #[.agg (tokC x.kind 0 0 x.vk x.vn (mkB x.vs) (mkB x.s)),.int .i64 0]))
   ((((((((W.setCell ⟨r,0,none⟩ y0).setCell ⟨r,1,none⟩ y1).setCell ⟨r,2,none⟩ y2).setCell ⟨r,3,none⟩ y3).setCell ⟨r,4,none⟩ y4).setCell ⟨r,5,none⟩ y5).setCell ⟨r,6,none⟩ y6).setCell ⟨r,7,none⟩ y7) :=
 tok_ok hV (zbB h.keeps h.wr _ _ _ _ _ _ _ _) (by simp) (by
  rw [zc9 h.pr,h.sc.facts.2.2.2.2.1,ym];have:=h.sc.facts.2.2.1
  congr 2;omega)
theorem Tm.err {w W:World} {S:Nat->Prop} {p r:Nat} {X:Src} {k:Nat} {V:Int×Tk×List UInt8} {er:Int} (h:Tm w S p r X k W) (hV:V.1=er) (hn:er≠0) (y0 y1 y2 y3 y4 y5 y6 y7:Value) (a b c:Int) (vs s:ByteArray) :
  zcG w S p X V (.returned (.tuple #[.agg (tokC a 0 0 b c vs s),.int .i64 er]))
   ((((((((W.setCell ⟨r,0,none⟩ y0).setCell ⟨r,1,none⟩ y1).setCell ⟨r,2,none⟩ y2).setCell ⟨r,3,none⟩ y3).setCell ⟨r,4,none⟩ y4).setCell ⟨r,5,none⟩ y5).setCell ⟨r,6,none⟩ y6).setCell ⟨r,7,none⟩ y7) :=
 tok_err hV hn (zbB h.keeps h.wr _ _ _ _ _ _ _ _) a b c vs s
structure Tn (w:World) (S:Nat->Prop) (p r:Nat) (W:World):Prop where
 blk:W.heap[r]?=some (.cells #[.int .i64 0,.int .i64 0,.int .i64 0,.int .i64 0,.int .i64 0,.string ⟨#[]⟩,.slice none 0 0,.string ⟨#[]⟩] 112 (0,0))
 keeps:zak S w W
 pr:p≠r
 wr:w.heap.size<=r
 sp:S p
theorem Tn.of {w W W':World} {S:Nat->Prop} {p r:Nat} {X:Src} {k:Nat} (h:Tm w S p r X k W) (hk:zak S W W'):Tn w S p r W' :=
 ⟨hk.obj h.blk h.sr,h.keeps.trans hk (fun _ hS=>.inl hS),h.pr,h.wr,h.sc.facts.2.1⟩
theorem Tn.on {w W W':World} {S:Nat->Prop} {p r:Nat} (h:Tn w S p r W) (hb:Below W.heap.size W W'):Tn w S p r W' :=
 ⟨zab hb h.blk,h.keeps.trans (zak.of_below (S:=fun b=>W.heap.size<=b) hb (fun _ h=>h)) (fun _ hS=>.inr (Nat.le_trans h.keeps.size hS)),h.pr,h.wr,h.sp⟩
theorem Tn.alloc {w W:World} {S:Nat->Prop} {p r:Nat} (h:Tn w S p r W) (o:Obj):Tn w S p r (W.alloc o):=h.on (zai W o)
theorem Tn.ok {w W:World} {S:Nat->Prop} {p r:Nat} {X:Src} {V:Int×Tk×List UInt8} {x:Tk} {t:List UInt8} (h:Tn w S p r W) (hV:V=(0,x,t)) (ht:t.length<=X.bs.length) (hc:W.cell? ⟨p,3,none⟩=some (.int .i64 ((X.bs.length-t.length:Nat):Int))) (y0 y1 y2 y3 y4 y5 y6 y7:Value) :
  zcG w S p X V (.returned (.tuple #[.agg (tokC x.kind 0 0 x.vk x.vn (mkB x.vs) (mkB x.s)),.int .i64 0]))
   ((((((((W.setCell ⟨r,0,none⟩ y0).setCell ⟨r,1,none⟩ y1).setCell ⟨r,2,none⟩ y2).setCell ⟨r,3,none⟩ y3).setCell ⟨r,4,none⟩ y4).setCell ⟨r,5,none⟩ y5).setCell ⟨r,6,none⟩ y6).setCell ⟨r,7,none⟩ y7) :=
 tok_ok hV (zbB h.keeps h.wr _ _ _ _ _ _ _ _) ht (by rw [zc9 h.pr];exact hc)
theorem Tn.err {w W:World} {S:Nat->Prop} {p r:Nat} {X:Src} {V:Int×Tk×List UInt8} {er:Int} (h:Tn w S p r W) (hV:V.1=er) (hn:er≠0) (y0 y1 y2 y3 y4 y5 y6 y7:Value) (a b c:Int) (vs s:ByteArray) :
  zcG w S p X V (.returned (.tuple #[.agg (tokC a 0 0 b c vs s),.int .i64 er]))
   ((((((((W.setCell ⟨r,0,none⟩ y0).setCell ⟨r,1,none⟩ y1).setCell ⟨r,2,none⟩ y2).setCell ⟨r,3,none⟩ y3).setCell ⟨r,4,none⟩ y4).setCell ⟨r,5,none⟩ y5).setCell ⟨r,6,none⟩ y6).setCell ⟨r,7,none⟩ y7) :=
 tok_err hV hn (zbB h.keeps h.wr _ _ _ _ _ _ _ _) a b c vs s
theorem Tn.any {w W:World} {S:Nat->Prop} {p r:Nat} {X:Src} {V:Int×Tk×List UInt8} {x:Tk} {t:List UInt8} {er:Int} (h:Tn w S p r W) (hV:V=(er,x,t)) (ht:t.length<=X.bs.length) (hc:W.cell? ⟨p,3,none⟩=some (.int .i64 ((X.bs.length-t.length:Nat):Int))) (y0 y1 y2 y3 y4 y5 y6 y7:Value) :
  zcG w S p X V (.returned (.tuple #[.agg (tokC x.kind 0 0 x.vk x.vn (mkB x.vs) (mkB x.s)),.int .i64 er]))
   ((((((((W.setCell ⟨r,0,none⟩ y0).setCell ⟨r,1,none⟩ y1).setCell ⟨r,2,none⟩ y2).setCell ⟨r,3,none⟩ y3).setCell ⟨r,4,none⟩ y4).setCell ⟨r,5,none⟩ y5).setCell ⟨r,6,none⟩ y6).setCell ⟨r,7,none⟩ y7):=by
 by_cases he:er=0
 ·subst he;exact h.ok hV ht hc _ _ _ _ _ _ _ _
 ·exact h.err (by rw [hV]) he _ _ _ _ _ _ _ _ _ _ _ _ _
theorem zbq {w:World} {b o:Nat} {v:Value} (x:Obj) (h:w.cell? ⟨b,o,none⟩=some v):(w.alloc x).cell? ⟨b,o,none⟩=some v:=cell?_keep (zai w x) h
theorem closing_any {w:World} {S:Nat->Prop} {p:Nat} {X:Src} {k:Nat} (h:ScQ w S p X [] k) :
  Calls Tryz.prog 164 #[.pointer (some ⟨p,0,none⟩)] w (zcG w S p X (clV X k)):=by
 obtain ⟨V,hV⟩:∃V,V=clV X k:=⟨_,rfl⟩;rw [<-hV];have hT:=Tm.start h;obtain ⟨r,hr⟩:∃r,r=w.heap.size:=⟨_,rfl⟩;rw [<-hr] at hT;have Qb:=yb hT;have HR:=yb hr;have hP:=zdf hT.sc;have Qn:=h.facts.2.2.2.1;clear hT hr h
 by_cases hk:k<X.bs.length
 ·have hv:=hV.trans (clV_in hk)
  unfold zfl u8C at hP;rw [yg hk] at hP;have HK:=yb hk;have ZO:k<=399999:=by omega
  clear Qn;generalize X.bs.getD k 0=c at *;have HP:=yb hP;clear hP hV hk
  by_cases hc:c=62
  ·rw [yg hc] at hv
   have HV:=yb hv;have QF:c.toNat=62:=by rw [hc];rfl
   rw [QF] at HP;clear hv hc QF;go_enter Tryz.func164,Tryz.ntmps164
   go_wp2_with fail
   refine HP.out.mono ?_;rintro e w1 ⟨rfl,q,rfl⟩;have Qf:=yb (Qb.out.drewN q);have Qa:=yb (Qf.out.next HK.out);obtain ⟨-,-,-,-,c3,c4,fr⟩:=Qf.out.sc.facts;have f3:=fr 3;rw [<-HR.out];clear fr Qb;generalize (w.alloc _).drewN q=W1 at *;obtain ⟨⟨k0,k1,k2,k3,k4,k5,k6,k7⟩,f0,f1,f2,f3',f4,f5,f6,f7⟩:=zah Qa.out.blk;go_wp2;refine yi (zaa rfl _ _ _ 112 _ (0,0) _ rfl (set8 Qa.out.blk _ _ _ _ _ _ _ _) Tryz.underlying112 rfl zaO _ rfl) rfl ?_;exact Qa.out.ok HV.out _ _ _ _ _ _ _ _
  ·rw [yh hc] at hv
   have HV:=yb hv;have QF:¬c.toNat=62:=fun h=>hc (UInt8.toNat_inj.1 h);have Q8:((c.toNat:Int)==62)=false:=by rw [yf];omega
   generalize c.toNat=x at *;clear hv hc;go_enter Tryz.func164,Tryz.ntmps164
   go_wp2_with fail
   refine HP.out.mono ?_;rintro e w1 ⟨rfl,q,rfl⟩;have Qf:=yb (Qb.out.drewN q);rw [<-HR.out];clear Qb;generalize (w.alloc _).drewN q=W1 at *;obtain ⟨⟨k0,k1,k2,k3,k4,k5,k6,k7⟩,f0,f1,f2,f3,f4,f5,f6,f7⟩:=zah Qf.out.blk;go_wp2;refine yi (zaa rfl _ _ _ 112 _ (0,0) _ rfl (set8 Qf.out.blk _ _ _ _ _ _ _ _) Tryz.underlying112 rfl zaO _ rfl) rfl ?_;exact Qf.out.err (by rw [HV.out]) (by decide) _ _ _ _ _ _ _ _ _ _ _ _ _
 ·have hv:=hV.trans (clV_out hk)
  unfold zfl at hP;rw [yh hk] at hP;have HP:=yb hP;obtain ⟨l,hl⟩:∃l,X.yq=l:=⟨_,rfl⟩;rw [hl] at hv;have HV:=yb hv;have HL:=yb hl;clear hv hV hk hP Qn hl
  cases l
  all_goals
   go_enter Tryz.func164,Tryz.ntmps164
   go_wp2_with fail
   refine HP.out.mono ?_;rintro e w1 ⟨rfl,q,rfl⟩;have Qf:=yb (Qb.out.drewN q);obtain ⟨-,-,-,-,-,c4,-⟩:=Qf.out.sc.facts;rw [HL.out] at c4;rw [<-HR.out];clear Qb;generalize (w.alloc _).drewN q=W1 at *;obtain ⟨⟨k0,k1,k2,k3,k4,k5,k6,k7⟩,f0,f1,f2,f3,f4,f5,f6,f7⟩:=zah Qf.out.blk;go_wp2;refine yi (zaa rfl _ _ _ 112 _ (0,0) _ rfl (set8 Qf.out.blk _ _ _ _ _ _ _ _) Tryz.underlying112 rfl zaO _ rfl) rfl ?_;exact Qf.out.err (by rw [HV.out];rfl) (by decide) _ _ _ _ _ _ _ _ _ _ _ _ _
theorem zdi (l:Bool):zbf l≠0:=by cases l<;>decide
def hexK (yq:Bool) (H:Int×List UInt8×List UInt8):Int×Tk×List UInt8:=if H.1=0 then (0,{ kind:=1,vk:=4,vs:=H.2.1 },H.2.2) else if H.1=1 then (zbf yq,{ kind:=0 },[]) else (11,{ kind:=0 },[])
def opV (X:Src) (k:Nat):Int×Tk×List UInt8:=match X.bs.drop k with
 | []=>(zbf X.yq,{ kind:=0 },[])
 | d::u=>if d=60 then (0,{ kind:=4 },u) else hexK X.yq (hexV [] (-1) (d::u))
theorem opV_in {X:Src} {k:Nat} (hk:k<X.bs.length):opV X k=if X.bs.getD k 0=60 then (0,{ kind:=4 },X.bs.drop (k+1)) else hexK X.yq (hexV [] (-1) (X.bs.drop k)):=by
 unfold opV;rw [zay hk]
theorem opV_out {X:Src} {k:Nat} (hk:¬k<X.bs.length):opV X k=(zbf X.yq,{ kind:=0 },[]):=by
 unfold opV;rw [zbm (by omega)]
theorem opening_any {w:World} {S:Nat->Prop} {p:Nat} {X:Src} {k:Nat} (h:ScQ w S p X [] k) (h1k:1<=k) :
  Calls Tryz.prog 163 #[.pointer (some ⟨p,0,none⟩)] w (zcG w S p X (opV X k)):=by
 obtain ⟨V,hV⟩:∃V,V=opV X k:=⟨_,rfl⟩;rw [<-hV];have hT:=Tm.start h;obtain ⟨r,hr⟩:∃r,r=w.heap.size:=⟨_,rfl⟩;rw [<-hr] at hT;have Qb:=yb hT;have HR:=yb hr;have hP:=zdf hT.sc;have Qn:=h.facts.2.2.2.1;clear hT hr h
 by_cases hk:k<X.bs.length
 ·have hv:=hV.trans (opV_in hk)
  unfold zfl u8C at hP;rw [yg hk] at hP;have HK:=yb hk;have Yh:=yb h1k;have ZO:k<=399999:=by omega
  clear Qn;generalize X.bs.getD k 0=c at *;have HP:=yb hP;clear hP hV hk
  by_cases hc:c=60
  ·rw [yg hc] at hv
   have HV:=yb hv;have QF:c.toNat=60:=by rw [hc];rfl
   rw [QF] at HP;clear hv hc QF;go_enter Tryz.func163,Tryz.ntmps163
   go_wp2_with fail
   refine HP.out.mono ?_;rintro e w1 ⟨rfl,q,rfl⟩;have Qf:=yb (Qb.out.drewN q);have Qa:=yb (Qf.out.next HK.out);obtain ⟨-,-,-,-,c3,c4,fr⟩:=Qf.out.sc.facts;have f3:=fr 3;rw [<-HR.out];clear fr Qb;generalize (w.alloc _).drewN q=W1 at *;obtain ⟨⟨k0,k1,k2,k3,k4,k5,k6,k7⟩,f0,f1,f2,f3',f4,f5,f6,f7⟩:=zah Qa.out.blk;go_wp2;refine yi (zaa rfl _ _ _ 112 _ (0,0) _ rfl (set8 Qa.out.blk _ _ _ _ _ _ _ _) Tryz.underlying112 rfl zaO _ rfl) rfl ?_;exact Qa.out.ok HV.out _ _ _ _ _ _ _ _
  ·rw [yh hc] at hv
   have HV:=yb hv;have QF:¬c.toNat=60:=fun h=>hc (UInt8.toNat_inj.1 h);have Q8:((c.toNat:Int)==60)=false:=by rw [yf];omega
   generalize c.toNat=x at *;clear hv hc;go_enter Tryz.func163,Tryz.ntmps163
   go_wp2_with fail
   refine HP.out.mono ?_;rintro e w1 ⟨rfl,q,rfl⟩;have Qf:=yb (Qb.out.drewN q);rw [<-HR.out];clear Qb;generalize (w.alloc _).drewN q=W1 at *;go_wp2_with fail
   refine (hexes_any Qf.out.sc Yh.out).mono ?_;rintro e w2 ⟨Qd,hh⟩;have Qa:=yb (Tn.of Qf.out Qd);generalize hexV [] (-1) (X.bs.drop k)=H at *;rcases hh with ⟨h1,rfl⟩|⟨h1,rfl⟩|⟨h1,rfl,h2,h3⟩
   ·have HL:=yb (show V.1=zbf X.yq by rw [HV.out,hexK,h1];rfl)
    have HN:=yb (zdi X.yq);generalize zbf X.yq=er at *;clear h1;have Qc:=yb (Qa.out.alloc (.cells (valC 0 0 zbn) 25));obtain ⟨⟨k0,k1,k2,k3,k4,k5,k6,k7⟩,f0,f1,f2,f3,f4,f5,f6,f7⟩:=zah Qc.out.blk;unfold valC zbn at *;go_wp2;refine yi (zaa rfl _ _ _ 112 _ (0,0) _ rfl (set8 Qc.out.blk _ _ _ _ _ _ _ _) Tryz.underlying112 rfl zaO _ rfl) rfl ?_;exact Qc.out.err HL.out HN.out _ _ _ _ _ _ _ _ _ _ _ _ _
   ·have HL:=yb (show V.1=11 by rw [HV.out,hexK,h1];rfl)
    clear h1;have Qc:=yb (Qa.out.alloc (.cells (valC 0 0 zbn) 25));obtain ⟨⟨k0,k1,k2,k3,k4,k5,k6,k7⟩,f0,f1,f2,f3,f4,f5,f6,f7⟩:=zah Qc.out.blk;unfold valC zbn at *;go_wp2;refine yi (zaa rfl _ _ _ 112 _ (0,0) _ rfl (set8 Qc.out.blk _ _ _ _ _ _ _ _) Tryz.underlying112 rfl zaO _ rfl) rfl ?_;exact Qc.out.err HL.out (by decide) _ _ _ _ _ _ _ _ _ _ _ _ _
   ·have HL:=yb (show V=(0,{ kind:=1,vk:=4,vs:=H.2.1 },H.2.2) by rw [HV.out,hexK,yg h1])
    have HA:=yb (fun x=>zbq x h3);have HB:=yb h2;obtain ⟨B,hB⟩:∃B,mkB H.2.1=B:=⟨_,rfl⟩;rw [hB];have QB:=yb hB;have Qc:=yb (Qa.out.alloc (.cells (valC 4 0 B) 25));obtain ⟨⟨k0,k1,k2,k3,k4,k5,k6,k7⟩,f0,f1,f2,f3,f4,f5,f6,f7⟩:=zah Qc.out.blk;unfold valC at *;clear h1 h2 h3 hB;go_wp2;refine yi (zaa rfl _ _ _ 112 _ (0,0) _ rfl (set8 Qc.out.blk _ _ _ _ _ _ _ _) Tryz.underlying112 rfl zaO _ rfl) rfl ?_;have QZ:=QB.out;subst QZ;exact Qc.out.ok (x:={ kind:=1,vk:=4,vs:=H.2.1 }) HL.out HB.out (HA.out _) _ _ _ _ _ _ _ _
 ·have HV:=yb (hV.trans (opV_out hk))
  unfold zfl at hP;rw [yh hk] at hP;have HP:=yb hP;clear hV hk hP Qn;go_enter Tryz.func163,Tryz.ntmps163
  go_wp2_with fail
  refine HP.out.mono ?_;rintro e w1 ⟨rfl,q,rfl⟩;have Qf:=yb (Qb.out.drewN q);rw [<-HR.out];clear Qb;generalize (w.alloc _).drewN q=W1 at *;obtain ⟨⟨k0,k1,k2,k3,k4,k5,k6,k7⟩,f0,f1,f2,f3,f4,f5,f6,f7⟩:=zah Qf.out.blk;go_wp2_with fail
  refine (zei Qf.out.sc).mono ?_;rintro e w2 ⟨rfl,rfl⟩;have HN:=yb (zdi X.yq);go_wp2;refine yi (zaa rfl _ _ _ 112 _ (0,0) _ rfl (set8 Qf.out.blk _ _ _ _ _ _ _ _) Tryz.underlying112 rfl zaO _ rfl) rfl ?_;exact Qf.out.err (by rw [HV.out]) HN.out _ _ _ _ _ _ _ _ _ _ _ _ _
def rgV (X:Src) (k:Nat):Int×Tk×List UInt8 :=
 if runN (X.bs.drop k)=(X.bs.drop k).length/\X.yq=false then (6,{ kind:=0 },[])
 else if isDg (X.bs.getD k 0)=true\/X.bs.getD k 0=43\/X.bs.getD k 0=45\/X.bs.getD k 0=46 then ((zaP (regs (X.bs.drop k))).2.2,{ kind:=1,vk:=(zaP (regs (X.bs.drop k))).1,vn:=(zaP (regs (X.bs.drop k))).2.1 },(X.bs.drop k).drop (runN (X.bs.drop k)))
 else (0,{ kind:=6,s:=regs (X.bs.drop k) },(X.bs.drop k).drop (runN (X.bs.drop k)))
def firstB (x:Nat):Bool:=(((decide (48<=x)&&decide (x<=57))||decide (x=43))||decide (x=45))||decide (x=46)
theorem firstB_eq (c:UInt8):firstB c.toNat=decide (isDg c=true\/c=43\/c=45\/c=46):=by
 have h1:∀d:UInt8,(c=d)↔c.toNat=d.toNat:=fun d=>UInt8.toNat_inj.symm;unfold firstB isDg;simp only [h1,show (43:UInt8).toNat=43 from rfl,show (45:UInt8).toNat=45 from rfl,show (46:UInt8).toNat=46 from rfl];rw [Bool.eq_iff_iff];simp [or_assoc]
theorem regulars_any {w:World} {S:Nat->Prop} {p:Nat} {X:Src} {k:Nat} (h:ScQ w S p X [] k) (hk:k<X.bs.length) (hrg:isRg (X.bs.getD k 0)=true) :
  Calls Tryz.prog 162 #[.pointer (some ⟨p,0,none⟩)] w (zcG w S p X (rgV X k)):=by
 obtain ⟨V,hV⟩:∃V,V=rgV X k:=⟨_,rfl⟩;rw [<-hV];have hT:=Tm.start h;obtain ⟨r,hr⟩:∃r,r=w.heap.size:=⟨_,rfl⟩;rw [<-hr] at hT;have Qb:=yb hT;have HR:=yb hr;have HW:=yb (word_any hT.sc (by omega));have Qn:=h.facts.2.2.2.1;have Qu:(X.bs.drop k).length=X.bs.length-k:=by simp
 have hm:=zbu (X.bs.drop k);have Yi:1<=runN (X.bs.drop k):=by rw [zay hk,zfx _ hrg];omega
 have Qm:(regs (X.bs.drop k)).length=runN (X.bs.drop k):=rfl
 have Q9:(regs (X.bs.drop k)).head?=some (X.bs.getD k 0):=by
  rw [zay hk];unfold regs;rw [List.takeWhile_cons_of_pos hrg];rfl
 have Qo:X.bs.length-((X.bs.drop k).drop (runN (X.bs.drop k))).length=k+runN (X.bs.drop k):=by
  rw [ym,Qu];omega
 have QS:((X.bs.drop k).drop (runN (X.bs.drop k))).length<=X.bs.length:=by rw [ym,Qu];omega
 have Q0:(decide (k+runN (X.bs.drop k)<X.bs.length)||X.yq)=!decide (runN (X.bs.drop k)=(X.bs.drop k).length/\X.yq=false):=by
  rw [Qu]
  cases X.yq
  ·simp only [Bool.or_false,and_true]
   rw [Bool.eq_iff_iff];simp;omega
  ·simp
 have Za:=firstB_eq (X.bs.getD k 0);unfold rgV at hV;unfold zhy at HW;rw [Q0] at HW;rw [Qu] at hm;clear hT hr h Q0 Qu hrg;generalize (X.bs.drop k).drop (runN (X.bs.drop k))=t at *;generalize regs (X.bs.drop k)=R at *;generalize runN (X.bs.drop k)=m at *;generalize X.bs.getD k 0=c at *
 by_cases hb:m=(X.bs.drop k).length/\X.yq=false
 ·rw [yg hb] at hV
  rw [yd hb] at HW;have HV:=yb hV;clear hV hb Q9 Za Qo QS Qm;go_enter Tryz.func162,Tryz.ntmps162
  go_wp2_with fail
  rw [<-HR.out];generalize w.alloc _=W1 at *;refine HW.out.mono ?_;rintro e w2 ⟨rfl,S2,Qk,Qd,-⟩;have Qa:=yb (Tn.of Qb.out Qd);obtain ⟨⟨k0,k1,k2,k3,k4,k5,k6,k7⟩,f0,f1,f2,f3,f4,f5,f6,f7⟩:=zah Qa.out.blk;clear Qk Qd;go_wp2;refine yi (zaa rfl _ _ _ 112 _ (0,0) _ rfl (set8 Qa.out.blk _ _ _ _ _ _ _ _) Tryz.underlying112 rfl zaO _ rfl) rfl ?_;exact Qa.out.err (by rw [HV.out]) (by decide) _ _ _ _ _ _ _ _ _ _ _ _ _
 ·rw [yh hb] at hV
  rw [ye hb] at HW;obtain ⟨s,hs⟩:∃s,mkB R=s:=⟨_,rfl⟩;have Zb:bl s=R:=by rw [<-hs];rfl
  have Zm:s.size=m:=by rw [<-zaC,Zb,Qm]
  have YU:0<s.size:=by omega
  have Zu:s.size<=400000:=by omega
  have hx:(s[0]'YU).toNat=c.toNat:=by
   rw [<-Zb] at Q9;have h2:(bl s)[0]?=some c:=by rw [<-List.head?_eq_getElem?];exact Q9
   have h3:s[0]=c:=by
    rw [List.getElem?_eq_getElem (by rw [zaC];omega),bl_get s 0 (by omega)] at h2;exact Option.some.inj h2
   rw [h3]
  have Zc:c.toNat<256:=c.toNat_lt;obtain ⟨x,ZP⟩:∃x,c.toNat=x:=⟨_,rfl⟩;rw [ZP] at hx Zc Za;have Qv:=yb Qo;have Q1:=yb QS;have HS:=yb hs;have Yj:=yb Zb;have hh:(48<=x/\x<=57)\/x=43\/x=45\/x=46\/(x<48/\x≠43/\x≠45/\x≠46)\/57<x:=by omega
  clear Qm Q9 hb Qo QS Zb Zm ZP hm Yi;rw [yj,hs] at HW;clear hs;have QT:=yb hV;have Zv:=yb Za;clear hV Za;rcases hh with ⟨h1,h2⟩|rfl|rfl|rfl|⟨h1,h2,h3,h4⟩|h1
  case inr.inr.inr.inr.inl =>
   have HV:=yb (show V=(0,{ kind:=6,s:=R },t) by
    rw [QT.out,yh (of_decide_eq_false (Zv.out.symm.trans (by unfold firstB;simp;omega)))])
   have e1:decide ((48:Int)<=x)=false:=by simp;omega
   have e2:((x:Int)==43)=false:=by rw [yf];omega
   have e3:((x:Int)==45)=false:=by rw [yf];omega
   have e4:((x:Int)==46)=false:=by rw [yf];omega
   clear h1;go_enter Tryz.func162,Tryz.ntmps162
   go_wp2_with fail
   rw [<-HR.out];generalize w.alloc _=W1 at *;refine HW.out.mono ?_;rintro e w2 ⟨rfl,S2,Qk,Qd,-⟩;have Qa:=yb (Tn.of Qb.out Qd);have HC:=yb (Qk.facts.2.2.2.2.1);rw [<-Qv.out] at HC;obtain ⟨⟨k0,k1,k2,k3,k4,k5,k6,k7⟩,f0,f1,f2,f3,f4,f5,f6,f7⟩:=zah Qa.out.blk;clear Qk Qd h2 h3 h4 hk Zc Qn;go_wp2;refine yi (zaa rfl _ _ _ 112 _ (0,0) _ rfl (set8 Qa.out.blk _ _ _ _ _ _ _ _) Tryz.underlying112 rfl zaO _ rfl) rfl ?_;have Zw:=HS.out;subst Zw;exact Qa.out.ok (x:={ kind:=6,s:=R }) HV.out Q1.out HC.out _ _ _ _ _ _ _ _
  case inr.inr.inr.inr.inr =>
   have HV:=yb (show V=(0,{ kind:=6,s:=R },t) by
    rw [QT.out,yh (of_decide_eq_false (Zv.out.symm.trans (by unfold firstB;simp;omega)))])
   have e1:decide ((48:Int)<=x)=true:=by simp;omega
   have e0:decide ((x:Int)<=57)=false:=by simp;omega
   have e2:((x:Int)==43)=false:=by rw [yf];omega
   have e3:((x:Int)==45)=false:=by rw [yf];omega
   have e4:((x:Int)==46)=false:=by rw [yf];omega
   clear h1;go_enter Tryz.func162,Tryz.ntmps162
   go_wp2_with fail
   rw [<-HR.out];generalize w.alloc _=W1 at *;refine HW.out.mono ?_;rintro e w2 ⟨rfl,S2,Qk,Qd,-⟩;have Qa:=yb (Tn.of Qb.out Qd);have HC:=yb (Qk.facts.2.2.2.2.1);rw [<-Qv.out] at HC;obtain ⟨⟨k0,k1,k2,k3,k4,k5,k6,k7⟩,f0,f1,f2,f3,f4,f5,f6,f7⟩:=zah Qa.out.blk;clear Qk Qd hk Zc Qn;go_wp2;refine yi (zaa rfl _ _ _ 112 _ (0,0) _ rfl (set8 Qa.out.blk _ _ _ _ _ _ _ _) Tryz.underlying112 rfl zaO _ rfl) rfl ?_;have Zw:=HS.out;subst Zw;exact Qa.out.ok (x:={ kind:=6,s:=R }) HV.out Q1.out HC.out _ _ _ _ _ _ _ _
  all_goals
   have HV:=yb (show V=((zaP (bl s)).2.2,{ kind:=1,vk:=(zaP (bl s)).1,vn:=(zaP (bl s)).2.1 },t) by
    rw [Yj.out,QT.out,yg (of_decide_eq_true (Zv.out.symm.trans (by unfold firstB;simp;try omega)))])
   try have e1:decide ((48:Int)<=x)=true:=by simp;omega
   try have e0:decide ((x:Int)<=57)=true:=by simp;omega
   try clear h1 h2
   go_enter Tryz.func162,Tryz.ntmps162
   go_wp2_with fail
   rw [<-HR.out];generalize w.alloc _=W1 at *;refine HW.out.mono ?_;rintro e w2 ⟨rfl,S2,Qk,Qd,-⟩;have Qa:=yb (Tn.of Qb.out Qd);have HC:=yb (Qk.facts.2.2.2.2.1);rw [<-Qv.out] at HC;clear Qk Qd hk Zc Qn Qb HW;go_wp2_with fail
   refine (parse_any s w2 Zu).mono ?_;rintro e w3 ⟨rfl,QG⟩;generalize zaP (bl s)=P at *;have Qc:=yb ((Qa.out.on QG).alloc (.cells (valC P.1 P.2.1 zbn) 25));have Yk:=yb (zbq (.cells (valC P.1 P.2.1 zbn) 25) (cell?_keep QG HC.out));obtain ⟨⟨k0,k1,k2,k3,k4,k5,k6,k7⟩,f0,f1,f2,f3,f4,f5,f6,f7⟩:=zah Qc.out.blk;obtain ⟨P1,P2,P3⟩:=P;simp only [] at *;unfold valC zbn at *;clear QG Qa HC;go_wp2;refine yi (zaa rfl _ _ _ 112 _ (0,0) _ rfl (set8 Qc.out.blk _ _ _ _ _ _ _ _) Tryz.underlying112 rfl zaO _ rfl) rfl ?_;exact Qc.out.any (x:={ kind:=1,vk:=P1,vn:=P2 }) HV.out Q1.out Yk.out _ _ _ _ _ _ _ _
theorem ze9 (t:List UInt8):t.drop (runN t)=[]↔runN t=t.length:=by
 rw [List.drop_eq_nil_iff];have:=zbu t;omega
theorem zbI {X:Src} {k:Nat} (hk:k<X.bs.length) (h:isRg (X.bs.getD k 0)=true):tokV X.yq (X.bs.getD k 0) (X.bs.drop (k+1))=rgV X k:=by
 unfold tokV rgV;rw [yg h,<-zay hk];simp only [regs_drop,ze9];rfl
def slV (yq:Bool) (t:List UInt8):Int×Tk×List UInt8 :=
 if runN t=t.length/\yq=false then (6,{ kind:=0 },[])
 else match zdR (regs t) with
  | none=>(17,{ kind:=0 },[])
  | some o=>(0,{ kind:=1,vk:=5,vs:=o },t.drop (runN t))
theorem zeT (yq:Bool) (t:List UInt8):tokV yq 47 t=slV yq t:=by
 unfold tokV slV;rw [yh (by decide),yh (by decide),yh (by decide),yh (by decide),yh (by decide),yh (by decide),yg rfl];simp only [regs_drop,ze9];rfl
def txK (yq:Bool) (H:Option (List UInt8×List UInt8)):Int×Tk×List UInt8:=match H with
 | none=>(zbf yq,{ kind:=0 },[])
 | some (x,r)=>(0,{ kind:=1,vk:=4,vs:=x },r)
theorem tokV_text (yq:Bool) (t:List UInt8):tokV yq 40 t=txK yq (zbe yq 1 [] t):=by
 unfold tokV txK;rw [yh (by decide),yh (by decide),yh (by decide),yh (by decide),yh (by decide),yg rfl]
 cases zbe yq 1 [] t<;>rfl
theorem tokV_close (X:Src) (k:Nat):tokV X.yq 62 (X.bs.drop k)=clV X k:=by
 unfold tokV clV;rw [yh (by decide),yh (by decide),yh (by decide),yh (by decide),yg rfl]
 cases X.bs.drop k<;>rfl
theorem tokV_open (X:Src) (k:Nat):tokV X.yq 60 (X.bs.drop k)=opV X k:=by
 unfold tokV opV;rw [yh (by decide),yh (by decide),yh (by decide),yg rfl]
 cases X.bs.drop k with
 | nil=>rfl
 | cons d u=>rfl
theorem tokV_91 (yq:Bool) (t:List UInt8):tokV yq 91 t=(0,{ kind:=2 },t):=by
 unfold tokV;rw [yh (by decide),yg rfl]
theorem tokV_93 (yq:Bool) (t:List UInt8):tokV yq 93 t=(0,{ kind:=3 },t):=by
 unfold tokV;rw [yh (by decide),yh (by decide),yg rfl]
theorem tokV_no (yq:Bool) (c:UInt8) (t:List UInt8) (h:isRg c=false) (h1:c≠91) (h2:c≠93) (h3:c≠60) (h4:c≠62) (h5:c≠40) (h6:c≠47):tokV yq c t=(11,{ kind:=0 },[]):=by
 unfold tokV;rw [yh (by simp [h]),yh h1,yh h2,yh h3,yh h4,yh h5,yh h6]
theorem Tn.pass {w W:World} {S:Nat->Prop} {p r:Nat} {X:Src} {V:Int×Tk×List UInt8} (h:Tn w S p r W) {k vk vn:Int} {vs s:ByteArray} {er:Int} (he:V.1=er)
  (hf:V.1=0->k=V.2.1.kind/\vk=V.2.1.vk/\vn=V.2.1.vn/\vs=mkB V.2.1.vs/\s=mkB V.2.1.s/\V.2.2.length<=X.bs.length/\W.cell? ⟨p,3,none⟩=some (.int .i64 ((X.bs.length-V.2.2.length:Nat):Int))) (y0 y1 y2 y3 y4 y5 y6 y7:Value) :
  zcG w S p X V (.returned (.tuple #[.agg (tokC k 0 0 vk vn vs s),.int .i64 er]))
   ((((((((W.setCell ⟨r,0,none⟩ y0).setCell ⟨r,1,none⟩ y1).setCell ⟨r,2,none⟩ y2).setCell ⟨r,3,none⟩ y3).setCell ⟨r,4,none⟩ y4).setCell ⟨r,5,none⟩ y5).setCell ⟨r,6,none⟩ y6).setCell ⟨r,7,none⟩ y7):=by
 refine ⟨zbB h.keeps h.wr _ _ _ _ _ _ _ _,k,vk,vn,vs,s,by rw [he],fun h0=>?_⟩;obtain ⟨a,b,c,d,e,f,g⟩:=hf h0;exact ⟨a,b,c,d,e,f,by rw [zc9 h.pr];exact g⟩
theorem token_any {w:World} {S:Nat->Prop} {p:Nat} {X:Src} {k:Nat} (h:ScQ w S p X [] k) (hk:k<X.bs.length) :
  Calls Tryz.prog 135 #[.pointer (some ⟨p,0,none⟩),.int .u8 (X.bs.getD k 0).toNat] w (zcG w S p X (tokV X.yq (X.bs.getD k 0) (X.bs.drop (k+1)))):=by
 obtain ⟨V,hV⟩:∃V,V=tokV X.yq (X.bs.getD k 0) (X.bs.drop (k+1)):=⟨_,rfl⟩;rw [<-hV];have hT:=Tm.start h;obtain ⟨r,hr⟩:∃r,r=w.heap.size:=⟨_,rfl⟩;rw [<-hr] at hT;have Qb:=yb hT;have HR:=yb hr;have Qn:=h.facts.2.2.2.1;have ZO:k<=399999:=by omega
 have Qh:=yb (fun W=>zfR (X.bs.getD k 0) W);rw [<-rgI_eq] at Qh;clear hT hr h Qn
 by_cases hrg:isRg (X.bs.getD k 0)=true
 ·have HV:=yb (hV.trans (zbI hk hrg))
  have HK:=yb (show ∀W:World,Tm w S p r X k W->Calls Tryz.prog 162 #[.pointer (some ⟨p,0,none⟩)] W (zcG W S p X (rgV X k)) from fun _ h=>regulars_any h.sc hk hrg);rw [hrg] at Qh;clear hV hrg hk;generalize (X.bs.getD k 0).toNat=x at *;go_enter Tryz.func135,Tryz.ntmps135
  go_wp2_with (go_at_call 161;refine (Qh.out _).mono ?_;rintro e w' ⟨rfl,rfl⟩)
  rw [<-HR.out];generalize w.alloc _=W1 at *;refine (HK.out _ Qb.out).mono ?_;rintro e w2 ⟨Qd,a,b,c,s1,s2,rfl,hf⟩;have Qa:=yb (Tn.of Qb.out Qd);obtain ⟨⟨k0,k1,k2,k3,k4,k5,k6,k7⟩,f0,f1,f2,f3,f4,f5,f6,f7⟩:=zah Qa.out.blk;have HF:=yb hf;rw [HV.out];obtain ⟨er,her⟩:∃er,(rgV X k).1=er:=⟨_,rfl⟩;rw [her];have HE:=yb her;unfold tokC;clear Qd hf her;go_wp2;refine yi (zaa rfl _ _ _ 112 _ (0,0) _ rfl (set8 Qa.out.blk _ _ _ _ _ _ _ _) Tryz.underlying112 rfl zaO _ rfl) rfl ?_;rw [HV.out];exact Qa.out.pass HE.out HF.out _ _ _ _ _ _ _ _
 ·have QH:isRg (X.bs.getD k 0)=false:=by simpa using hrg
  rw [QH] at Qh;have Yl:=yb QH;have HK:=yb hk;clear hrg QH
  by_cases h91:X.bs.getD k 0=91
  ·have hv:=hV
   rw [h91,tokV_91 _ _] at hv;have HV:=yb hv;have hx:(X.bs.getD k 0).toNat=91:=by rw [h91];rfl
   rw [hx] at Qh |-;clear hV hv hx h91 hk;go_enter Tryz.func135,Tryz.ntmps135
   go_wp2_with fail
   rw [<-HR.out];generalize w.alloc _=W1 at *;refine (Qh.out _).mono ?_;rintro e w' ⟨rfl,rfl⟩;have Qa:=yb (Qb.out.next HK.out);obtain ⟨-,-,-,-,c3,c4,fr⟩:=Qb.out.sc.facts;have f3:=fr 3;clear fr;obtain ⟨⟨k0,k1,k2,k3,k4,k5,k6,k7⟩,f0,f1,f2,f3',f4,f5,f6,f7⟩:=zah Qa.out.blk;go_wp2;refine yi (zaa rfl _ _ _ 112 _ (0,0) _ rfl (set8 Qa.out.blk _ _ _ _ _ _ _ _) Tryz.underlying112 rfl zaO _ rfl) rfl ?_;exact Qa.out.ok (x:={ kind:=2 }) HV.out _ _ _ _ _ _ _ _
  by_cases h93:X.bs.getD k 0=93
  ·have hv:=hV
   rw [h93,tokV_93 _ _] at hv;have HV:=yb hv;have hx:(X.bs.getD k 0).toNat=93:=by rw [h93];rfl
   rw [hx] at Qh |-;clear hV hv hx h93 hk;go_enter Tryz.func135,Tryz.ntmps135
   go_wp2_with fail
   rw [<-HR.out];generalize w.alloc _=W1 at *;refine (Qh.out _).mono ?_;rintro e w' ⟨rfl,rfl⟩;have Qa:=yb (Qb.out.next HK.out);obtain ⟨-,-,-,-,c3,c4,fr⟩:=Qb.out.sc.facts;have f3:=fr 3;clear fr;obtain ⟨⟨k0,k1,k2,k3,k4,k5,k6,k7⟩,f0,f1,f2,f3',f4,f5,f6,f7⟩:=zah Qa.out.blk;go_wp2;refine yi (zaa rfl _ _ _ 112 _ (0,0) _ rfl (set8 Qa.out.blk _ _ _ _ _ _ _ _) Tryz.underlying112 rfl zaO _ rfl) rfl ?_;exact Qa.out.ok (x:={ kind:=3 }) HV.out _ _ _ _ _ _ _ _
  by_cases h60:X.bs.getD k 0=60
  ·have hv:=hV
   rw [h60,tokV_open X (k+1)] at hv;have HV:=yb hv;have hx:(X.bs.getD k 0).toNat=60:=by rw [h60];rfl
   rw [hx] at Qh |-;clear hV hv hx h60 hk;go_enter Tryz.func135,Tryz.ntmps135
   go_wp2_with fail
   rw [<-HR.out];generalize w.alloc _=W1 at *;refine (Qh.out _).mono ?_;rintro e w' ⟨rfl,rfl⟩;have Qa:=yb (Qb.out.next HK.out);obtain ⟨-,-,-,-,c3,c4,fr⟩:=Qb.out.sc.facts;have f3:=fr 3;clear fr;go_wp2_with fail
   refine (opening_any Qa.out.sc (by omega)).mono ?_;rintro e w2 ⟨Qd,a,b,c,s1,s2,rfl,hf⟩;have Qc:=yb (Tn.of Qa.out Qd);obtain ⟨⟨k0,k1,k2,k3,k4,k5,k6,k7⟩,f0,f1,f2,f3,f4,f5,f6,f7⟩:=zah Qc.out.blk;have HF:=yb hf;obtain ⟨er,her⟩:∃er,(opV X (k+1)).1=er:=⟨_,rfl⟩;rw [her];have HE:=yb her;unfold tokC;clear Qd hf her c3 c4;go_wp2;refine yi (zaa rfl _ _ _ 112 _ (0,0) _ rfl (set8 Qc.out.blk _ _ _ _ _ _ _ _) Tryz.underlying112 rfl zaO _ rfl) rfl ?_;rw [HV.out];exact Qc.out.pass HE.out HF.out _ _ _ _ _ _ _ _
  by_cases h62:X.bs.getD k 0=62
  ·have hv:=hV
   rw [h62,tokV_close X (k+1)] at hv;have HV:=yb hv;have hx:(X.bs.getD k 0).toNat=62:=by rw [h62];rfl
   rw [hx] at Qh |-;clear hV hv hx h62 hk;go_enter Tryz.func135,Tryz.ntmps135
   go_wp2_with fail
   rw [<-HR.out];generalize w.alloc _=W1 at *;refine (Qh.out _).mono ?_;rintro e w' ⟨rfl,rfl⟩;have Qa:=yb (Qb.out.next HK.out);obtain ⟨-,-,-,-,c3,c4,fr⟩:=Qb.out.sc.facts;have f3:=fr 3;clear fr;go_wp2_with fail
   refine (closing_any Qa.out.sc).mono ?_;rintro e w2 ⟨Qd,a,b,c,s1,s2,rfl,hf⟩;have Qc:=yb (Tn.of Qa.out Qd);obtain ⟨⟨k0,k1,k2,k3,k4,k5,k6,k7⟩,f0,f1,f2,f3,f4,f5,f6,f7⟩:=zah Qc.out.blk;have HF:=yb hf;obtain ⟨er,her⟩:∃er,(clV X (k+1)).1=er:=⟨_,rfl⟩;rw [her];have HE:=yb her;unfold tokC;clear Qd hf her c3 c4;go_wp2;refine yi (zaa rfl _ _ _ 112 _ (0,0) _ rfl (set8 Qc.out.blk _ _ _ _ _ _ _ _) Tryz.underlying112 rfl zaO _ rfl) rfl ?_;rw [HV.out];exact Qc.out.pass HE.out HF.out _ _ _ _ _ _ _ _
  by_cases h40:X.bs.getD k 0=40
  ·have hv:=hV
   rw [h40,tokV_text _ _] at hv;have HV:=yb hv;have hx:(X.bs.getD k 0).toNat=40:=by rw [h40];rfl
   rw [hx] at Qh |-;clear hV hv hx h40 hk;go_enter Tryz.func135,Tryz.ntmps135
   go_wp2_with fail
   rw [<-HR.out];generalize w.alloc _=W1 at *;refine (Qh.out _).mono ?_;rintro e w' ⟨rfl,rfl⟩;have Qa:=yb (Qb.out.next HK.out);obtain ⟨-,-,-,-,c3,c4,fr⟩:=Qb.out.sc.facts;have f3:=fr 3;clear fr;have ZQ:=yb (text_any Qa.out.sc (by omega));generalize zbe X.yq 1 [] (X.bs.drop (k+1))=H at *;go_wp2_with fail
   refine ZQ.out.mono ?_;rintro e w2 ⟨Qd,hh⟩;have Qc:=yb (Tn.of Qa.out Qd);clear Qd c3 c4 f3 ZQ
   cases H
   ·obtain rfl:=hh
    have HN:=yb (zdi X.yq);have HL:=yb (show V.1=zbf X.yq by rw [HV.out];rfl);generalize zbf X.yq=er at *;have Qy:=yb (Qc.out.alloc (.cells (valC 0 0 zbn) 25));obtain ⟨⟨k0,k1,k2,k3,k4,k5,k6,k7⟩,f0,f1,f2,f3,f4,f5,f6,f7⟩:=zah Qy.out.blk;unfold valC zbn at *;go_wp2;refine yi (zaa rfl _ _ _ 112 _ (0,0) _ rfl (set8 Qy.out.blk _ _ _ _ _ _ _ _) Tryz.underlying112 rfl zaO _ rfl) rfl ?_;exact Qy.out.err HL.out HN.out _ _ _ _ _ _ _ _ _ _ _ _ _
   ·rename_i val
    obtain ⟨xs,t⟩:=val;obtain ⟨rfl,h2,h3⟩:=hh;have HL:=yb (show V=(0,{ kind:=1,vk:=4,vs:=xs },t) from HV.out);have HA:=yb (fun x=>zbq x h3);have HB:=yb h2;obtain ⟨B,hB⟩:∃B,mkB xs=B:=⟨_,rfl⟩;rw [hB];have QB:=yb hB;have Qy:=yb (Qc.out.alloc (.cells (valC 4 0 B) 25));obtain ⟨⟨k0,k1,k2,k3,k4,k5,k6,k7⟩,f0,f1,f2,f3,f4,f5,f6,f7⟩:=zah Qy.out.blk;unfold valC at *;clear h2 h3 hB;go_wp2;refine yi (zaa rfl _ _ _ 112 _ (0,0) _ rfl (set8 Qy.out.blk _ _ _ _ _ _ _ _) Tryz.underlying112 rfl zaO _ rfl) rfl ?_;have QZ:=QB.out;subst QZ;exact Qy.out.ok (x:={ kind:=1,vk:=4,vs:=xs }) HL.out HB.out (HA.out _) _ _ _ _ _ _ _ _
  by_cases h47:X.bs.getD k 0=47
  ·have hv:=hV
   rw [h47,zeT _ _] at hv;have HV:=yb hv;have hx:(X.bs.getD k 0).toNat=47:=by rw [h47];rfl
   rw [hx] at Qh |-;clear hV hv hx h47 hk;go_enter Tryz.func135,Tryz.ntmps135
   go_wp2_with fail
   rw [<-HR.out];generalize w.alloc _=W1 at *;refine (Qh.out _).mono ?_;rintro e w' ⟨rfl,rfl⟩;have Qa:=yb (Qb.out.next HK.out);obtain ⟨-,-,-,-,c3,c4,fr⟩:=Qb.out.sc.facts;have f3:=fr 3;clear fr;have HW:=yb (word_any Qa.out.sc (Nat.lt_of_le_of_lt (Nat.zero_le _) HK.out));have Qu:(X.bs.drop (k+1)).length=X.bs.length-(k+1):=by simp
   have hm:=zbu (X.bs.drop (k+1));have Qm:(regs (X.bs.drop (k+1))).length=runN (X.bs.drop (k+1)):=rfl
   have Qo:X.bs.length-((X.bs.drop (k+1)).drop (runN (X.bs.drop (k+1)))).length=k+1+runN (X.bs.drop (k+1)):=by
    have:=HK.out;rw [ym,Qu];omega
   have QS:((X.bs.drop (k+1)).drop (runN (X.bs.drop (k+1)))).length<=X.bs.length:=by rw [ym,Qu];omega
   have Q0:(decide (k+1+runN (X.bs.drop (k+1))<X.bs.length)||X.yq)=!decide (runN (X.bs.drop (k+1))=(X.bs.drop (k+1)).length/\X.yq=false):=by
    have:=HK.out;rw [Qu] at hm |-
    cases X.yq
    ·simp only [Bool.or_false,and_true]
     rw [Bool.eq_iff_iff];simp;omega
    ·simp
   have hv:=HV.out;unfold slV at hv;unfold zhy at HW;rw [Q0] at HW;have Qn:=Qa.out.sc.facts.2.2.2.1;rw [Qu] at hm;clear Q0 Qu;generalize (X.bs.drop (k+1)).drop (runN (X.bs.drop (k+1)))=t at *;generalize regs (X.bs.drop (k+1))=R at *;generalize runN (X.bs.drop (k+1))=m at *;have Qv:=yb Qo;have Q1:=yb QS;have Ym:R.length<=400000:=by omega
   clear Qo QS hm Qm Qn
   by_cases hb:m=(X.bs.drop (k+1)).length/\X.yq=false
   ·rw [yg hb] at hv
    rw [yd hb] at HW;have QC:=yb hv;clear hv hb;go_wp2_with fail
    refine HW.out.mono ?_;rintro e w2 ⟨rfl,S2,Qk,Qd,-⟩;have Qc:=yb (Tn.of Qa.out Qd);clear c3 c4 f3 Qk Qd;obtain ⟨⟨k0,k1,k2,k3,k4,k5,k6,k7⟩,f0,f1,f2,f3,f4,f5,f6,f7⟩:=zah Qc.out.blk;go_wp2;refine yi (zaa rfl _ _ _ 112 _ (0,0) _ rfl (set8 Qc.out.blk _ _ _ _ _ _ _ _) Tryz.underlying112 rfl zaO _ rfl) rfl ?_;exact Qc.out.err (by rw [QC.out]) (by decide) _ _ _ _ _ _ _ _ _ _ _ _ _
   ·rw [yh hb] at hv
    rw [ye hb] at HW;obtain ⟨s,hs⟩:∃s,mkB R=s:=⟨_,rfl⟩;have Zu:s.size<=400000:=by rw [<-hs,zaR];exact Ym
    rw [show R=bl s by rw [<-hs];rfl] at hv;rw [yj,hs] at HW;have QC:=yb hv;clear hv hb hs;go_wp2_with fail
    refine HW.out.mono ?_;rintro e w2 ⟨rfl,S2,Qk,Qd,-⟩;have Qc:=yb (Tn.of Qa.out Qd);have HC:=yb (Qk.facts.2.2.2.2.1);rw [<-Qv.out] at HC;clear c3 c4 f3 Qk Qd;go_wp2_with fail
    refine (name_any s w2 Zu).mono ?_;rintro e w3 ⟨QG,hh⟩;have Qy:=yb (Qc.out.on QG);have Yn:=yb (cell?_keep QG HC.out);clear QG;generalize zdR (bl s)=N at *
    cases N
    ·obtain rfl:=hh
     have QI:=yb (Qy.out.alloc (.cells (valC 0 0 zbn) 25));obtain ⟨⟨k0,k1,k2,k3,k4,k5,k6,k7⟩,f0,f1,f2,f3,f4,f5,f6,f7⟩:=zah QI.out.blk;unfold valC zbn at *;go_wp2;refine yi (zaa rfl _ _ _ 112 _ (0,0) _ rfl (set8 QI.out.blk _ _ _ _ _ _ _ _) Tryz.underlying112 rfl zaO _ rfl) rfl ?_;exact QI.out.err (by rw [QC.out]) (by decide) _ _ _ _ _ _ _ _ _ _ _ _ _
    ·rename_i o
     obtain rfl:=hh;obtain ⟨B,hB⟩:∃B,mkB o=B:=⟨_,rfl⟩;rw [hB];have QB:=yb hB;have HA:=yb (fun x=>zbq x Yn.out);have QI:=yb (Qy.out.alloc (.cells (valC 5 0 B) 25));obtain ⟨⟨k0,k1,k2,k3,k4,k5,k6,k7⟩,f0,f1,f2,f3,f4,f5,f6,f7⟩:=zah QI.out.blk;unfold valC at *;clear hB;go_wp2;refine yi (zaa rfl _ _ _ 112 _ (0,0) _ rfl (set8 QI.out.blk _ _ _ _ _ _ _ _) Tryz.underlying112 rfl zaO _ rfl) rfl ?_;have QZ:=QB.out;subst QZ;exact QI.out.ok (x:={ kind:=1,vk:=5,vs:=o }) QC.out Q1.out (HA.out _) _ _ _ _ _ _ _ _
  have HV:=yb (hV.trans (tokV_no _ _ _ Yl.out h91 h93 h60 h62 h40 h47))
  have QJ:∀d:UInt8,X.bs.getD k 0≠d->((((X.bs.getD k 0).toNat:Nat):Int)==(d.toNat:Int))=false:=fun d hd=>by
   rw [yf];exact fun e=>hd (UInt8.toNat_inj.1 (Int.ofNat_inj.1 e))
  have e1:=QJ 91 h91;have e2:=QJ 93 h93;have e3:=QJ 60 h60;have e4:=QJ 62 h62;have e5:=QJ 40 h40;have e6:=QJ 47 h47;simp only [show (91:UInt8).toNat=91 from rfl,show (93:UInt8).toNat=93 from rfl,show (60:UInt8).toNat=60 from rfl,show (62:UInt8).toNat=62 from rfl,show (40:UInt8).toNat=40 from rfl,show (47:UInt8).toNat=47 from rfl] at e1 e2 e3 e4 e5 e6;clear hV h91 h93 h60 h62 h40 h47 QJ hk;generalize (X.bs.getD k 0).toNat=x at *;go_enter Tryz.func135,Tryz.ntmps135
  go_wp2_with fail
  rw [<-HR.out];generalize w.alloc _=W1 at *;refine (Qh.out _).mono ?_;rintro e w' ⟨rfl,rfl⟩;have Qa:=yb (Qb.out.next HK.out);obtain ⟨-,-,-,-,c3,c4,fr⟩:=Qb.out.sc.facts;have f3:=fr 3;clear fr;obtain ⟨⟨k0,k1,k2,k3,k4,k5,k6,k7⟩,f0,f1,f2,f3',f4,f5,f6,f7⟩:=zah Qa.out.blk;go_wp2;refine yi (zaa rfl _ _ _ 112 _ (0,0) _ rfl (set8 Qa.out.blk _ _ _ _ _ _ _ _) Tryz.underlying112 rfl zaO _ rfl) rfl ?_;exact Qa.out.err (by rw [HV.out]) (by decide) _ _ _ _ _ _ _ _ _ _ _ _ _
def skN (bs:List UInt8) (b:Bool) (j:Nat):Nat:=if bs.length<=j then bs.length else j+zbi b (bs.drop j)
theorem zhs {bs:List UInt8} {b:Bool} {j:Nat} (h:bs.length<=j):skN bs b j=bs.length:=by unfold skN;rw [yg h]
theorem zgr {bs:List UInt8} {b b':Bool} {j:Nat} (h:j<bs.length) (hs:zbi b (bs.getD j 0::bs.drop (j+1))=1+zbi b' (bs.drop (j+1))):skN bs b j=skN bs b' (j+1):=by
 unfold skN;rw [yh (by omega)]
 have hd:bs.drop j=bs.getD j 0::bs.drop (j+1):=by
  rw [List.drop_eq_getElem_cons h];simp [List.getD,h]
 rw [hd,hs]
 by_cases h1:bs.length<=j+1
 ·rw [yg h1,List.drop_eq_nil_of_le h1]
  simp only [zbi];omega
 ·rw [yh h1];omega
theorem skN_stop {bs:List UInt8} {j:Nat} (h:j<bs.length) (h1:bs.getD j 0≠37) (h2:isSp (bs.getD j 0)=false):skN bs false j=j:=by
 unfold skN;rw [yh (by omega)]
 have hd:bs.drop j=bs.getD j 0::bs.drop (j+1):=by
  rw [List.drop_eq_getElem_cons h];simp [List.getD,h]
 rw [hd,zbi,yh h1,yh (by rw [h2];decide),Nat.add_zero]
theorem skipV_skN {bs:List UInt8} {k:Int} (h:0<=k):zaL bs k=skN bs false k.toNat:=by
 unfold zaL skN;rw [yh (by omega)]
 by_cases h1:(bs.length:Int)<=k
 ·rw [yg h1,yg (by omega)]
 ·rw [yh h1,yh (by omega)]
theorem skip_any {w:World} {a:Option Addr} {cap:Nat} {bs:List UInt8} (hr:Row w 1 a bs.length cap (bs.map u8C)) (hn:bs.length<=400000) (k:Int) :
  Calls Tryz.prog 134 #[.slice a bs.length cap,.int .i64 k] w fun e w'=>e=.returned (.int .i64 (zaL bs k:Nat))/\w=w':=by
 obtain ⟨V,hV⟩:∃V,V=zaL bs k:=⟨_,rfl⟩;rw [<-hV]
 by_cases hk:k<0
 ·have HV:=yb (show V=0 by rw [hV];unfold zaL;rw [yg hk])
  have Q2:decide (k<0)=true:=yd hk;clear hV hr;go_enter Tryz.func134,Tryz.ntmps134
  go_wp2;go_ret;exact ⟨by rw [HV.out];rfl,rfl⟩
 ·have hv:=hV.trans (skipV_skN (by omega))
  obtain ⟨j0,Yo⟩:∃j:Nat,k=j:=⟨k.toNat,by omega⟩;subst Yo;rw [Int.toNat_natCast] at hv;have HV:=yb hv;have Q2:decide ((j0:Int)<0)=false:=ye (by omega);have HC:=yb (fun j (hj:j<bs.length)=>hr.at 0 j hj);clear hV hr hv hk;go_enter Tryz.func134,Tryz.ntmps134
  go_wp2
  go_loop [1,5] (fun i c=>∃(j:Nat) (b:Bool),i=.int .i64 j/\c=.bool b/\Hid (V=skN bs b j))
   (fun i _=>bs.length-(intOf i).toNat)
  case atStart=>exact ⟨j0,false,rfl,rfl,HV⟩
  case round =>
   obtain ⟨j,b,rfl,rfl,HJ⟩:=hrel
   by_cases hj:j<bs.length
   ·obtain ⟨b0,off,rfl,-,hc⟩:=HC.out j hj
    have QK:=hc j hj;unfold u8C at QK;have Yp:decide ((j:Int)<bs.length)=true:=by simp;exact hj
    have YV:j<=399999:=by omega
    have Zd:=yb (fun W=>zec (bs.getD j 0).toNat W);rw [<-ze7] at Zd;have HG:=yb (fun b b'=>@zgr bs b b' j hj);have Yq:=yb (fun h1 h2=>@skN_stop bs j hj h1 h2);have HM:=yb (show bs.length-(j+1)<bs.length-j by omega);have Yr:decide (j<bs.length)=true:=yd hj;clear hc HC hn Q2;generalize bs.getD j 0=c at *
    cases b
    ·by_cases h37:c=37
     ·have hx:c.toNat=37:=by rw [h37];rfl
      have Ql:=yb (HJ.out.trans (HG.out false true (by rw [h37];simp [zbi])));rw [hx] at QK;clear hx h37;go_wp2
      go_round
      case rel=>exact ⟨j+1,true,by go_num,rfl,Ql⟩
      case measure=>simpa [intOf] using HM.out
     ·have hx:((c.toNat:Int)==37)=false:=by rw [yf];exact fun e=>h37 (UInt8.toNat_inj.1 (Int.ofNat_inj.1 e))
      obtain ⟨sp,Zx⟩:∃sp,isSp c=sp:=⟨_,rfl⟩;rw [Zx] at Zd;have HS:=yb Zx;have ZR:=yb h37;clear h37 Zx
      cases sp
      ·have Ql:=yb (HJ.out.trans (Yq.out ZR.out HS.out))
       generalize c.toNat=x at *;go_wp2_with (go_at_call 136;refine (Zd.out _).mono ?_;rintro e w' ⟨rfl,rfl⟩)
       go_ret;exact ⟨by rw [Ql.out];rfl,rfl⟩
      ·have Ql:=yb (HJ.out.trans (HG.out false false (by rw [zbi,yh ZR.out,yg HS.out])))
       generalize c.toNat=x at *;go_wp2_with (go_at_call 136;refine (Zd.out _).mono ?_;rintro e w' ⟨rfl,rfl⟩)
       go_round
       case rel=>exact ⟨j+1,false,by go_num,rfl,Ql⟩
       case measure=>simpa [intOf] using HM.out
    ·have Ql:=yb (HJ.out.trans (HG.out true (c != 10&&c != 13) (by rw [zbi])))
     by_cases h10:c=10
     ·have hx:c.toNat=10:=by rw [h10];rfl
      rw [hx] at QK;rw [show (c != 10&&c != 13)=false by rw [h10];rfl] at Ql;clear hx h10;go_wp2
      go_round
      case rel=>exact ⟨j+1,false,by go_num,rfl,Ql⟩
      case measure=>simpa [intOf] using HM.out
     ·by_cases h13:c=13
      ·have hx:c.toNat=13:=by rw [h13];rfl
       rw [hx] at QK;rw [show (c != 10&&c != 13)=false by rw [h13];rfl] at Ql;clear hx h10 h13;go_wp2
       go_round
       case rel=>exact ⟨j+1,false,by go_num,rfl,Ql⟩
       case measure=>simpa [intOf] using HM.out
      ·rw [show (c != 10&&c != 13)=true by simp [h10,h13]] at Ql
       have e1:((c.toNat:Int)==10)=false:=by rw [yf];exact fun e=>h10 (UInt8.toNat_inj.1 (Int.ofNat_inj.1 e))
       have e2:((c.toNat:Int)==13)=false:=by rw [yf];exact fun e=>h13 (UInt8.toNat_inj.1 (Int.ofNat_inj.1 e))
       have e3:((c.toNat:Int) != 10)=true:=by simp only [bne,e1,yj]
       have e4:((c.toNat:Int) != 13)=true:=by simp only [bne,e2,yj]
       clear h10 h13;generalize c.toNat=x at *;go_wp2
       go_round
       case rel=>exact ⟨j+1,true,by go_num,rfl,Ql⟩
       case measure=>simpa [intOf] using HM.out
   ·have Yp:decide ((j:Int)<bs.length)=false:=ye (by omega)
    have Ql:=yb (HJ.out.trans (zhs (by omega)));have Yr:decide (j<bs.length)=false:=ye hj;clear hj HC;go_wp2;go_ret;exact ⟨by rw [Ql.out];rfl,rfl⟩
def tokN (x:Tk) (f t:Int):Array Value:=#[.int .i64 x.kind,.int .i64 f,.int .i64 t,.int .i64 x.vk,.int .i64 x.vn,.string (mkB x.vs),.slice none 0 0,.string (mkB x.s)]
def zaF (w:World) (V:Tk×Int×Int×Int) (e:Ending) (w':World):Prop :=
 e=.returned (.tuple #[.agg (tokN V.1 V.2.1 V.2.2.1),.int .i64 V.2.2.2])/\Below w.heap.size w w'
structure Nx (w:World) (r:Nat) (W:World):Prop where
 blk:W.heap[r]?=some (.cells #[.int .i64 0,.int .i64 0,.int .i64 0,.int .i64 0,.int .i64 0,.string ⟨#[]⟩,.slice none 0 0,.string ⟨#[]⟩] 112 (0,0))
 bel:Below w.heap.size w W
 wr:w.heap.size<=r
theorem Nx.start (w:World):Nx w w.heap.size (w.alloc (.cells #[.int .i64 0,.int .i64 0,.int .i64 0,.int .i64 0,.int .i64 0,.string ⟨#[]⟩,.slice none 0 0,.string ⟨#[]⟩] 112)) :=
 ⟨zac _ rfl,zai _ _,yp _⟩
theorem Nx.on {w W W':World} {r:Nat} (h:Nx w r W) (hb:Below W.heap.size W W'):Nx w r W':=⟨zab hb h.blk,h.bel.trans (hb.mono h.bel.size),h.wr⟩
theorem Nx.alloc {w W:World} {r:Nat} (h:Nx w r W) (o:Obj):Nx w r (W.alloc o):=h.on (zai W o)
theorem Nx.set {w W:World} {r:Nat} (h:Nx w r W) {b:Nat} (hb:w.heap.size<=b) (hn:b≠r) (i:Nat) (v:Value):Nx w r (W.setCell ⟨b,i,none⟩ v) :=
 ⟨by rw [heap_setCell_other _ _ _ _ (Ne.symm hn)];exact h.blk,h.bel.setCell hb v,h.wr⟩
theorem Nx.drewN {w W:World} {r:Nat} (h:Nx w r W) (q:Nat):Nx w r (W.drewN q):=⟨h.blk,zag h.bel q,h.wr⟩
theorem Nx.keeps {w W W':World} {r p:Nat} (h:Nx w r W) (hk:zak (fun b=>b=p) W W') (hp:w.heap.size<=p) (hn:p≠r):Nx w r W' :=
 ⟨hk.obj h.blk (Ne.symm hn),h.bel.trans (hk.below h.bel.size (fun b hb=>by rw [hb];exact hp)),h.wr⟩
theorem za9 {B:Nat} {w0 w:World} (h:Below B w0 w) {b:Nat} (hb:B<=b) (y0 y1 y2 y3 y4 y5 y6 y7:Value) :
  Below B w0 ((((((((w.setCell ⟨b,0,none⟩ y0).setCell ⟨b,1,none⟩ y1).setCell ⟨b,2,none⟩ y2).setCell ⟨b,3,none⟩ y3).setCell ⟨b,4,none⟩ y4).setCell ⟨b,5,none⟩ y5).setCell ⟨b,6,none⟩ y6).setCell ⟨b,7,none⟩ y7) :=
 (((((((h.setCell hb _).setCell hb _).setCell hb _).setCell hb _).setCell hb _).setCell hb _).setCell hb _).setCell hb _
theorem Nx.fin {w W:World} {r:Nat} {V:Tk×Int×Int×Int} {x:Tk} {f t er:Int} (h:Nx w r W) (hV:V=(x,f,t,er)) (y0 y1 y2 y3 y4 y5 y6 y7:Value) :
  zaF w V (.returned (.tuple #[.agg (tokN x f t),.int .i64 er]))
   ((((((((W.setCell ⟨r,0,none⟩ y0).setCell ⟨r,1,none⟩ y1).setCell ⟨r,2,none⟩ y2).setCell ⟨r,3,none⟩ y3).setCell ⟨r,4,none⟩ y4).setCell ⟨r,5,none⟩ y5).setCell ⟨r,6,none⟩ y6).setCell ⟨r,7,none⟩ y7):=by
 subst hV;exact ⟨rfl,za9 h.bel h.wr _ _ _ _ _ _ _ _⟩
theorem sc_new {w:World} {a:Option Addr} {cap:Nat} {bs:List UInt8} (hr:Row w 1 a bs.length cap (bs.map u8C)) (hn:bs.length<=400000) (yq:Bool) {f:Nat} (hf:f<bs.length) :
  ScQ (w.alloc (.cells #[.pointer none,.slice none 0 0,.slice a bs.length cap,.int .i64 f,.bool yq] 192)) (fun b=>b=w.heap.size) w.heap.size ⟨a,cap,bs,yq⟩ [] f:=by
 refine ⟨.pointer none,.slice none 0 0,⟨zac _ rfl,.inl rfl,World.ownsRow_nil _ _ _ _,fun b hb=>(by cases hb),rfl,fun b hb=>⟨by omega,by rw [zaq];omega⟩,hr.mono (zai _ _),fun x hx=>?_,by show f<=bs.length;omega,hn,by simp,fun _=>rfl⟩⟩;obtain ⟨b,off,ha,hb,-⟩:=hr.2.2.2.2 (by omega);have ZS:a=some x:=hx;rw [ha] at ZS
 cases ZS
 exact hb
theorem skipV_le (bs:List UInt8) (k:Int):zaL bs k<=bs.length:=by
 unfold zaL
 split
 ·omega
 ·split
  ·omega
  ·have:=zeb false (bs.drop k.toNat)
   rw [ym] at this;omega
theorem zd6 {w:World} {a:Option Addr} {cap:Nat} {bs:List UInt8} (hr:Row w 1 a bs.length cap (bs.map u8C)) (hn:bs.length<=400000) (k:Int) (yq:Bool) :
  Calls Tryz.prog 100 #[.slice a bs.length cap,.int .i64 k,.bool yq] w (zaF w (zan bs k yq)):=by
 obtain ⟨V,hV⟩:∃V,V=zan bs k yq:=⟨_,rfl⟩;rw [<-hV];unfold zan at hV;have hT:=Nx.start w;obtain ⟨r,QU⟩:∃r,r=w.heap.size:=⟨_,rfl⟩;rw [<-QU] at hT;have Qb:=yb hT;have HR:=yb QU;clear hT QU;have Zy:=yb hr;have HN:=yb hn;clear hr
 by_cases hk:k<0\/(bs.length:Int)<k
 ·rw [yg hk] at hV
  have HV:=yb hV;clear hV Qb HR
  by_cases hk0:k<0
  ·have Q2:decide (k<0)=true:=yd hk0
   clear hk;go_enter Tryz.func100,Tryz.ntmps100
   go_wp2;refine yi (zaa rfl _ _ w.heap.size 112 _ (0,0) _ rfl (zac _ rfl) Tryz.underlying112 rfl (by exact zaO) _ rfl) rfl ?_;rw [HV.out];exact ⟨rfl,zai _ _⟩
  ·have Ze:(bs.length:Int)<k:=by omega
   have Q2:decide (k<0)=false:=ye hk0;have Zz:decide ((bs.length:Int)<k)=true:=yd Ze;clear hk;go_enter Tryz.func100,Tryz.ntmps100
   go_wp2;refine yi (zaa rfl _ _ w.heap.size 112 _ (0,0) _ rfl (zac _ rfl) Tryz.underlying112 rfl (by exact zaO) _ rfl) rfl ?_;rw [HV.out];exact ⟨rfl,zai _ _⟩
 ·rw [yh hk] at hV
  have Q2:decide (k<0)=false:=ye (by omega);have Zz:decide ((bs.length:Int)<k)=false:=ye (by omega);have hk0:0<=k:=by omega
  have Ze:k<=bs.length:=by omega
  clear hk;have HS:=yb (fun (W:World) (h:Below w.heap.size w W)=>skip_any (Zy.out.mono h) hn k);have YW:=skipV_le bs k;generalize zaL bs k=f at *;have QT:=yb hV;clear hV hk0 Ze;go_enter Tryz.func100,Tryz.ntmps100
  go_wp2_with fail
  refine (HS.out _ Qb.out.bel).mono ?_;rintro e w' ⟨rfl,rfl⟩;rw [<-HR.out];generalize w.alloc _=W1 at *;have hV:=QT.out;clear QT
  by_cases hf:f=bs.length
  ·subst hf
   rw [zbm (by omega)] at hV;have HV:=yb hV;obtain ⟨⟨k0,k1,k2,k3,k4,k5,k6,k7⟩,f0,f1,f2,f3,f4,f5,f6,f7⟩:=zah Qb.out.blk;clear hV HS
   cases yq
   all_goals
    go_wp2;refine yi (zaa rfl _ _ _ 112 _ (0,0) _ rfl (set8 Qb.out.blk _ _ _ _ _ _ _ _) Tryz.underlying112 rfl zaO _ rfl) rfl ?_;exact Qb.out.fin HV.out _ _ _ _ _ _ _ _
  ·have QL:f<bs.length:=by omega
   rw [zay QL] at hV;have YX:decide (f=bs.length)=false:=ye hf;have YY:((f:Int)==(bs.length:Int))=false:=by rw [yf];omega
   have ZT:=yb (sc_new (Zy.out.mono Qb.out.bel) hn yq QL);have HF:=yb QL;obtain ⟨b0,off,ha,Ys,hc⟩:=Zy.out.at 0 f QL;have QK:=cell?_keep (Qb.out.alloc (.cells #[.pointer none,.slice none 0 0,.slice a bs.length cap,.int .i64 f,.bool yq] 192)).bel (hc f QL);have Q3:=cell?_keep Qb.out.bel (hc f QL);have Yt:¬b0=W1.heap.size:=by have:=Qb.out.bel.size;omega
   unfold u8C at QK Q3;subst ha;have Yu:b0<W1.heap.size:=by have:=Qb.out.bel.size;omega
   have YZ:(f:Int)<bs.length:=by omega
   have ZU:Calls Tryz.prog 135 #[.pointer (some ⟨W1.heap.size,0,none⟩),.int .u8 (bs.getD f 0).toNat] (W1.alloc (.cells #[.pointer none,.slice none 0 0,.slice (some ⟨b0,off,none⟩) bs.length cap,.int .i64 f,.bool yq] 192)) (zcG _ (fun b=>b=W1.heap.size) W1.heap.size ⟨some ⟨b0,off,none⟩,cap,bs,yq⟩ (tokV yq (bs.getD f 0) (bs.drop (f+1)))):=token_any ZT.out QL;have ZV:V=if (tokV yq (bs.getD f 0) (bs.drop (f+1))).1=0 then ((tokV yq (bs.getD f 0) (bs.drop (f+1))).2.1,(f:Int),(bs.length:Int)-((tokV yq (bs.getD f 0) (bs.drop (f+1))).2.2.length:Int),0) else ({ kind:=0 },(f:Int),(f:Int),(tokV yq (bs.getD f 0) (bs.drop (f+1))).1):=hV;generalize tokV yq (bs.getD f 0) (bs.drop (f+1))=T at *;generalize bs.getD f 0=cc at *;have HV:=yb ZV;have ZW:=yb ZU;have QU:=(Array.getElem?_eq_some_iff.1 Qb.out.blk).1;have QV:w.heap.size<=W1.heap.size:=Qb.out.bel.size;have Qf:=yb (Qb.out.alloc (.cells #[.pointer none,.slice none 0 0,.slice (some ⟨b0,off,none⟩) bs.length cap,.int .i64 f,.bool yq] 192));have Yv:=yb (show W1.heap.size≠r by omega);have Yw:=yb QV;have Qg:=yb QU;have ZX:=yb (zaq W1 (.cells #[.pointer none,.slice none 0 0,.slice (some ⟨b0,off,none⟩) bs.length cap,.int .i64 f,.bool yq] 192));clear hV ZV ZU HS hc QU QV ZT Ys;go_wp2_with fail
   refine ZW.out.mono ?_;rintro e w2 ⟨Qd,kk,vk,vn,vs,s,rfl,ZY⟩;have Qa:=yb (Qf.out.keeps Qd Yw.out Yv.out);have ZZ:W1.heap.size<w2.heap.size:=by have:=Qd.size;rw [ZX.out] at this;omega
   have Yx:=yb ZZ;have Z0:=yb ZY;clear ZW Qf ZX Qd QK Q3 Yt Yu ZY ZZ;generalize W1.alloc _=W1' at *;generalize W1.heap.size=p at *;have Qc:=yb (Qa.out.alloc (.cells (tokC kk 0 0 vk vn vs s) 112));obtain ⟨er,her⟩:∃er,T.1=er:=⟨_,rfl⟩;have HE:=yb her;rw [her];clear her;have Qs:r<w2.heap.size:=(Array.getElem?_eq_some_iff.1 Qa.out.blk).1;have Qt:=yb Qs;clear Qs
   by_cases h0:er=0
   ·subst h0
    obtain ⟨Z1,Z2,Z3,Z4,hs,Z5,Q8⟩:=Z0.out HE.out;obtain ⟨t,ht⟩:∃t:Nat,t=bs.length-T.2.2.length:=⟨_,rfl⟩;have Q4:w2.cell? ⟨p,3,none⟩=some (.int .i64 (t:Int)):=by rw [ht];exact Q8
    have QC:=yb (show V=(T.2.1,(f:Int),(t:Int),0) by
     rw [HV.out,yg HE.out,ht];have h2:T.2.2.length<=bs.length:=Z5
     congr 3;omega)
    have Zf:=zbq (.cells (tokC kk 0 0 vk vn vs s) 112) Q4;have Q5:(w2.alloc (.cells (tokC kk 0 0 vk vn vs s) 112)).heap[w2.heap.size]?=some (.cells #[.int .i64 kk,.int .i64 0,.int .i64 0,.int .i64 vk,.int .i64 vn,.string vs,.slice none 0 0,.string s] 112 (0,0)):=zac _ rfl;have QM:=yb Q5;have Yy:=yb Zf;have Zg:=yb (show w.heap.size<=w2.heap.size from Qa.out.bel.size);have Yz:=yb (show w2.heap.size≠r from Nat.ne_of_gt Qt.out);have YA:=yb (show p≠w2.heap.size from Nat.ne_of_lt Yx.out);have YB:=yb Z1;have YC:=yb Z2;have YD:=yb Z3;have YE:=yb Z4;have YF:=yb hs;clear Z1 Z2 Z3 Z4 hs Z5 Q8 Q4 Zf Q5 HE Z0 HV ht;unfold tokC at *;go_wp2;generalize w2.alloc _=W3 at *;generalize w2.heap.size=r2 at *;have Zf:=Yy.out;have Zh:=Yz.out;have YG:=YA.out;obtain ⟨⟨g0,g1,g2,g3,g4,g5,g6,g7⟩,m0,m1,m2,m3,m4,m5,m6,m7⟩:=zah QM.out
    have Z6:=yb (show Nx w r ((W3.setCell ⟨r2,1,none⟩ (.int .i64 f)).setCell ⟨r2,2,none⟩ (.int .i64 t)).drew/\((W3.setCell ⟨r2,1,none⟩ (.int .i64 f)).setCell ⟨r2,2,none⟩ (.int .i64 t)).drew.heap[r2]?=some (.cells #[.int .i64 kk,.int .i64 f,.int .i64 t,.int .i64 vk,.int .i64 vn,.string vs,.slice none 0 0,.string s] 112 (0,0)) from
     ⟨((Qc.out.set Zg.out Zh 1 _).set Zg.out Zh 2 _).drewN 1,heap_setCell_same _ _ 2 _ _ _ (heap_setCell_same W3 _ 1 _ _ _ QM.out)⟩)
    have Z7:=yb (show Nx w r ((W3.setCell ⟨r2,2,none⟩ (.int .i64 t)).setCell ⟨r2,1,none⟩ (.int .i64 f)).drew/\((W3.setCell ⟨r2,2,none⟩ (.int .i64 t)).setCell ⟨r2,1,none⟩ (.int .i64 f)).drew.heap[r2]?=some (.cells #[.int .i64 kk,.int .i64 f,.int .i64 t,.int .i64 vk,.int .i64 vn,.string vs,.slice none 0 0,.string s] 112 (0,0)) from
     ⟨((Qc.out.set Zg.out Zh 2 _).set Zg.out Zh 1 _).drewN 1,heap_setCell_same _ _ 1 _ _ _ (heap_setCell_same W3 _ 2 _ _ _ QM.out)⟩)
    go_region
    all_goals
     clear Zf YG g0 g1 g2 g3 g4 g5 g6 g7 m0 m1 m2 m3 m4 m5 m6 m7
     first
      |(obtain ⟨W4,QD⟩:∃W4,W4=((W3.setCell ⟨r2,1,none⟩ (.int .i64 f)).setCell ⟨r2,2,none⟩ (.int .i64 t)).drew:=⟨_,rfl⟩;rw [<-QD];have Zi:=yb (show Nx w r W4 by rw [QD];exact Z6.out.1);have Z8:=yb (show W4.heap[r2]?=some (.cells #[.int .i64 kk,.int .i64 f,.int .i64 t,.int .i64 vk,.int .i64 vn,.string vs,.slice none 0 0,.string s] 112 (0,0)) by rw [QD];exact Z6.out.2))
      |(obtain ⟨W4,QD⟩:∃W4,W4=((W3.setCell ⟨r2,2,none⟩ (.int .i64 t)).setCell ⟨r2,1,none⟩ (.int .i64 f)).drew:=⟨_,rfl⟩;rw [<-QD];have Zi:=yb (show Nx w r W4 by rw [QD];exact Z7.out.1);have Z8:=yb (show W4.heap[r2]?=some (.cells #[.int .i64 kk,.int .i64 f,.int .i64 t,.int .i64 vk,.int .i64 vn,.string vs,.slice none 0 0,.string s] 112 (0,0)) by rw [QD];exact Z7.out.2))
     clear QD;obtain ⟨⟨g0,g1,g2,g3,g4,g5,g6,g7⟩,m0,m1,m2,m3,m4,m5,m6,m7⟩:=zah Z8.out;obtain ⟨⟨k0,k1,k2,k3,k4,k5,k6,k7⟩,f0,f1,f2,f3,f4,f5,f6,f7⟩:=zah Zi.out.blk;go_wp2;refine yi (zaa rfl _ _ _ 112 _ (0,0) _ rfl (set8 Zi.out.blk _ _ _ _ _ _ _ _) Tryz.underlying112 rfl zaO _ rfl) rfl ?_;have e1:=YB.out;have e2:=YC.out;have e3:=YD.out;have e4:=YE.out;have e5:=YF.out;subst e1 e2 e3 e4 e5;exact Zi.out.fin QC.out _ _ _ _ _ _ _ _
   ·have QC:=yb (show V=({ kind:=0 },(f:Int),(f:Int),er) by rw [HV.out,HE.out,yh h0])
    have e1:(er==0)=false:=by rw [yf];exact h0
    have e2:(er != 0)=true:=by simp only [bne,e1,yj]
    clear h0;obtain ⟨⟨k0,k1,k2,k3,k4,k5,k6,k7⟩,f0,f1,f2,f3,f4,f5,f6,f7⟩:=zah Qc.out.blk;unfold tokC at *;go_wp2;refine yi (zaa rfl _ _ _ 112 _ (0,0) _ rfl (set8 Qc.out.blk _ _ _ _ _ _ _ _) Tryz.underlying112 rfl zaO _ rfl) rfl ?_;exact Qc.out.fin QC.out _ _ _ _ _ _ _ _
theorem more_any (e:Int) (w:World):Calls Tryz.prog 174 #[.int .i64 e] w fun x w'=>x=.returned (.int .i64 (moreV e))/\w=w':=by
 unfold moreV
 by_cases h:e=6
 ·subst h
  go_enter Tryz.func174,Tryz.ntmps174
  go_wp2;go_ret;exact ⟨rfl,rfl⟩
 ·have hd:(e==6)=false:=by rw [yf];exact h
  rw [yh h];clear h;go_enter Tryz.func174,Tryz.ntmps174
  go_wp2;go_ret;exact ⟨rfl,rfl⟩
theorem zav:(Tryz.prog.info? 25).map (·.size)=some 4:=by kernel_rfl
theorem whole_tk (x:Tk) (f t:Int) (w:World):Calls Tryz.prog 142 #[.agg (tokN x f t)] w fun e w'=>e=.returned (.bool (zaN x))/\Below w.heap.size w w':=by
 unfold tokN zaN;generalize x.kind=a0 at *;generalize x.vk=a1 at *;generalize x.vn=a2 at *;generalize mkB x.vs=s1 at *;generalize mkB x.s=s2 at *
 cases h0:(a0==1)
 ·go_enter Tryz.func142,Tryz.ntmps142
  go_wp2;go_ret;exact ⟨rfl,zai w _⟩
 ·go_enter Tryz.func142,Tryz.ntmps142
  go_wp2;go_ret;exact ⟨rfl,zai w _⟩
def wordE (s:List UInt8):PV×Int:=match zeN s with|none=>(PV.none,11)|some v=>(v,0)
theorem zcl (a b:List UInt8):((mkB a).toList==b)=decide (a=b):=by
 have:(mkB a).toList=a:=by unfold mkB;exact ByteArray.toList_eq _
 rw [this];by_cases h:a=b<;>simp [h]
theorem pword_any (s:List UInt8) (w:World):Calls Tryz.prog 141 #[.string (mkB s)] w fun e w'=>e=.returned (.tuple #[pvA (wordE s).1 (.slice none 0 0),.int .i64 (wordE s).2])/\Below w.heap.size w w':=by
 have h1:=zcl s [116,114,117,101];have h2:=zcl s [102,97,108,115,101];have h3:=zcl s [110,117,108,108];unfold wordE zeN pvA
 by_cases g1:s=[116,114,117,101]
 ·rw [yg g1]
  rw [yd g1] at h1;clear g1 h2 h3;go_enter Tryz.func141,Tryz.ntmps141
  go_wp2;refine yi (zaa rfl _ _ w.heap.size 25 _ (0,0) _ rfl (zac _ rfl) Tryz.underlying25 rfl (by exact zav) _ rfl) rfl ?_;exact ⟨rfl,zai _ _⟩
 rw [yh g1];rw [ye g1] at h1
 by_cases g2:s=[102,97,108,115,101]
 ·rw [yg g2]
  rw [yd g2] at h2;clear g1 g2 h3;go_enter Tryz.func141,Tryz.ntmps141
  go_wp2;refine yi (zaa rfl _ _ w.heap.size 25 _ (0,0) _ rfl (zac _ rfl) Tryz.underlying25 rfl (by exact zav) _ rfl) rfl ?_;exact ⟨rfl,zai _ _⟩
 rw [yh g2];rw [ye g2] at h2
 by_cases g3:s=[110,117,108,108]
 ·rw [yg g3]
  rw [yd g3] at h3;clear g1 g2 g3;go_enter Tryz.func141,Tryz.ntmps141
  go_wp2;refine yi (zaa rfl _ _ w.heap.size 25 _ (0,0) _ rfl (zac _ rfl) Tryz.underlying25 rfl (by exact zav) _ rfl) rfl ?_;exact ⟨rfl,zai _ _⟩
 ·rw [yh g3]
  rw [ye g3] at h3;clear g1 g2 g3;go_enter Tryz.func141,Tryz.ntmps141
  go_wp2;refine yi (zaa rfl _ _ w.heap.size 25 _ (0,0) _ rfl (zac _ rfl) Tryz.underlying25 rfl (by exact zav) _ rfl) rfl ?_;exact ⟨rfl,zai _ _⟩
def ptrs (gs:List Nat):List Value:=gs.reverse.map fun g=>.pointer (some ⟨g,0,none⟩)
def Lvs (w:World) (B:Nat) (F:Nat->Prop):(Nat->Prop)->List Lv->List Nat->Prop
 | _,[],gs=>gs=[]
 | G,v::st,gs=>∃g t sl cs,gs=g::t/\B<=g/\¬G g/\w.heap[g]?=some (.cells #[.bool v.dict,sl] 128 (0,0))/\w.ownsRow B 25 4 sl v.l.length cs/\IsVs w F v.l cs /\
   (∀b,sl.ownBlock=some b->¬F b/\¬G b)/\Lvs w B F (fun b=>G b\/b=g\/sl.ownBlock=some b) st t
theorem zbd {w w':World} {base e sz:Nat} {v:Value} {n:Nat} {xs:List Value} (h:w.ownsRow base e sz v n xs) (hk:∀b,v.ownBlock=some b->w'.heap[b]?=w.heap[b]?):w'.ownsRow base e sz v n xs:=by
 obtain ⟨h1,h2⟩:=h;refine ⟨h1,?_⟩;rcases h2 with h2|⟨g,cap,cur,hv,hg,hh,r⟩
 ·exact .inl h2
 ·exact .inr ⟨g,cap,cur,hv,hg,by rw [hk g (by rw [hv];rfl)];exact hh,r⟩
theorem zaY {w:World} {base e sz:Nat} {v:Value} {n:Nat} {xs:List Value} (h:w.ownsRow base e sz v n xs) {b:Nat} (hb:v.ownBlock=some b):∃cs,w.heap[b]?=some (.cells cs e (0,0)):=by
 rcases h.2 with ⟨rfl,_⟩|⟨g,cap,cur,rfl,hg,hh,r⟩
 ·cases hb
 ·cases hb;exact ⟨cur,hh⟩
theorem zaB {w:World} {base e sz:Nat} {v:Value} {n:Nat} {xs:List Value} (h:w.ownsRow base e sz v n xs):∃a cap,v=.slice a n cap/\n<=cap/\cap<=maxLen:=by
 obtain ⟨a,cap,rfl,hr,_⟩:=Row.of_owns h;exact ⟨a,cap,rfl,hr.2.1,hr.2.2.1⟩
theorem zam {w:World} {b:Nat} {o:Obj} (h:w.heap[b]?=some o):b<w.heap.size:=(Array.getElem?_eq_some_iff.1 h).1
theorem zbj {w:World} {b c:Nat} {x y:Array Value} {t u:TypeId} {f1 f2:Nat×Nat} (hb:w.heap[b]?=some (.cells x t f1)) (hc:w.heap[c]?=some (.cells y u f2)) (h:t≠u):b≠c:=by
 rintro rfl;rw [hb] at hc;injection hc with hc;injection hc with _ h2 _;exact h h2
def IsLV (w:World) (b:Nat):Prop:=(∃cs,w.heap[b]?=some (.cells cs 128 (0,0)))\/∃cs,w.heap[b]?=some (.cells cs 25 (0,0))
theorem Lvs.keep' {w w':World} {B:Nat} {F F':Nat->Prop} (hF:zaU F w w') (hFF:∀b,F b->F' b):∀ {st:List Lv} {G G':Nat->Prop} {gs:List Nat},Lvs w B F G st gs ->
  (∀b,b<w.heap.size->¬G b->IsLV w b->w'.heap[b]?=w.heap[b]?)->(∀b,F' b->F b\/G b\/w.heap.size<=b)->(∀b,G' b->G b\/w.heap.size<=b)->Lvs w' B F' G' st gs
 | [],_,_,_,h,_,_,_=>h
 | v::st,G,G',_,⟨g,t,sl,cs,h1,h2,h3,h4,h5,h6,h7,h8⟩,hg,hF',hG'=>by
  have YH:=zam h4;have ZA:∀b,sl.ownBlock=some b->b<w.heap.size:=fun b hb=>(h5.lt b hb).2;refine ⟨g,t,sl,cs,h1,h2,fun h=>?_,?_,zbd h5 fun b hb=>hg b (ZA b hb) (h7 b hb).2 (.inr (zaY h5 hb)),IsVs.keep hF hFF _ h6,fun b hb=>⟨fun h=>?_,fun h=>?_⟩,?_⟩
  ·rcases hG' g h with h|h
   ·exact h3 h
   ·omega
  ·rw [hg g YH h3 (.inl ⟨_,h4⟩)];exact h4
  ·rcases hF' b h with h|h|h
   ·exact (h7 b hb).1 h
   ·exact (h7 b hb).2 h
   ·have:=ZA b hb;omega
  ·rcases hG' b h with h|h
   ·exact (h7 b hb).2 h
   ·have:=ZA b hb;omega
  ·refine Lvs.keep' hF hFF h8 (fun b hb hn=>hg b hb fun h=>hn (.inl h)) (fun b h=>?_) (fun b h=>?_)
   ·rcases hF' b h with h|h|h
    ·exact .inl h
    ·exact .inr (.inl (.inl h))
    ·exact .inr (.inr h)
   ·rcases h with h|h|h
    ·rcases hG' b h with h|h
     ·exact .inl (.inl h)
     ·exact .inr h
    ·exact .inl (.inr (.inl h))
    ·exact .inl (.inr (.inr h))
theorem Lvs.keep {w w':World} {B:Nat} {F F':Nat->Prop} (hF:zaU F w w') (hFF:∀b,F b->F' b) {st:List Lv} {G G':Nat->Prop} {gs:List Nat} (h:Lvs w B F G st gs)
  (hg:∀b,b<w.heap.size->¬G b->w'.heap[b]?=w.heap[b]?) (hF':∀b,F' b->F b\/G b\/w.heap.size<=b) (hG':∀b,G' b->G b\/w.heap.size<=b):Lvs w' B F' G' st gs :=
 h.keep' hF hFF (fun b h1 h2 _=>hg b h1 h2) hF' hG'
theorem Lvs.len {w:World} {B:Nat} {F:Nat->Prop}:∀ {st:List Lv} {G:Nat->Prop} {gs:List Nat},Lvs w B F G st gs->gs.length=st.length
 | [],_,_,h=>by cases h;rfl
 | _::_,_,_,⟨_,_,_,_,h1,_,_,_,_,_,_,h8⟩=>by subst h1;simp [h8.len]
structure zaA (w0 w:World) (F G:Nat->Prop) (p:Nat) (a:Option Addr) (cap:Nat) (bs:List UInt8) (yq:Bool) (st:List Lv) (at_:Int) (gs:List Nat) (osl:Value):Prop where
 blk:w.heap[p]?=some (.cells #[.slice a bs.length cap,.int .i64 at_,.bool yq,osl] 122 (0,0))
 base:w0.heap.size<=p
 gp:¬G p
 own:w.ownsRow w0.heap.size 125 1 osl st.length (ptrs gs)
 go:∀b,osl.ownBlock=some b->¬G b
 lvs:Lvs w w0.heap.size F G st gs
 fb:∀b,F b->w0.heap.size<=b/\¬G b/\∃cs,w.heap[b]?=some (.cells cs 25 (0,0))
 gb:∀b,G b->w0.heap.size<=b/\b<w.heap.size
 bel:Below w0.heap.size w0 w
 row:Row w0 1 a bs.length cap (bs.map u8C)
 small:bs.length<=400000
 deep:st.length<=64
section
variable {w0 w w' : World} {F F' G G' : Nat -> Prop} {p : Nat} {a : Option Addr} {cap : Nat} {bs : List UInt8} {yq : Bool} {st : List Lv} {at_ : Int} {gs : List Nat} {osl : Value}
theorem zaA.lt (h:zaA w0 w F G p a cap bs yq st at_ gs osl):p<w.heap.size:=zam h.blk
theorem zaA.frame' (h:zaA w0 w F G p a cap bs yq st at_ gs osl) (hk:zak G w w') (hG':∀b,G' b->G b\/(w.heap.size<=b/\b<w'.heap.size)) (hFF:∀b,F b->F' b) (hF':∀b,F' b->F b\/(w.heap.size<=b/\¬G' b/\∃cs,w'.heap[b]?=some (.cells cs 25 (0,0)))) :
  zaA w0 w' F' G' p a cap bs yq st at_ gs osl:=by
 have Zm:=h.bel.size;have hp:=h.lt;have Z9:∀b,F b->b<w.heap.size:=fun b hb=>by obtain ⟨_,_,cs,hc⟩:=h.fb b hb;exact zam hc
 have Ya:∀b,osl.ownBlock=some b->b<w.heap.size:=fun b hb=>(h.own.lt b hb).2;refine ⟨by rw [hk.block p hp h.gp];exact h.blk,h.base,fun h1=>?_,zbd h.own fun b hb=>hk.block b (Ya b hb) (h.go b hb),fun b hb h1=>?_,?_,fun b hb=>?_,fun b hb=>?_,?_,h.row,h.small,h.deep⟩
 ·rcases hG' p h1 with h1|h1
  ·exact h.gp h1
  ·omega
 ·rcases hG' b h1 with h1|h1
  ·exact h.go b hb h1
  ·have:=Ya b hb;omega
 ·refine h.lvs.keep ⟨hk.size,fun b hb hf=>hk.block b hb (h.fb b hf).2.1⟩ hFF (fun b hb hn=>hk.block b hb hn) (fun b hb=>?_) (fun b hb=>?_)
  ·rcases hF' b hb with h1|h1
   ·exact .inl h1
   ·exact .inr (.inr h1.1)
  ·exact (hG' b hb).imp id fun h=>h.1
 ·rcases hF' b hb with h1|⟨h1,h2,h3⟩
  ·obtain ⟨h2,h3,cs,h4⟩:=h.fb b h1
   refine ⟨h2,fun h5=>?_,cs,by rw [hk.block b (Z9 b h1) h3];exact h4⟩;rcases hG' b h5 with h5|h5
   ·exact h3 h5
   ·have:=Z9 b h1;omega
  ·exact ⟨by omega,h2,h3⟩
 ·have:=hk.size
  rcases hG' b hb with h1|h1
  ·have:=h.gb b h1;omega
  ·omega
 ·exact h.bel.trans ⟨hk.os,hk.tape,hk.output,hk.size,fun b hb=>hk.block b (by omega) (fun h1=>by have:=h.gb b h1;omega)⟩
theorem zaA.frame (h:zaA w0 w F G p a cap bs yq st at_ gs osl) (hk:zak G w w') (hG':∀b,G' b->G b\/(w.heap.size<=b/\b<w'.heap.size)):zaA w0 w' F G' p a cap bs yq st at_ gs osl :=
 h.frame' hk hG' (fun _ h=>h) (fun _ h=>.inl h)
theorem zaA.mono (h:zaA w0 w F G p a cap bs yq st at_ gs osl) (hb:Below w.heap.size w w'):zaA w0 w' F G p a cap bs yq st at_ gs osl :=
 h.frame ⟨hb.os,hb.tape,hb.output,hb.size,fun b h1 _=>hb.block b h1⟩ (fun _ h=>.inl h)
theorem zaA.cells (h:zaA w0 w F G p a cap bs yq st at_ gs osl):(w.cell? ⟨p,0,none⟩=some (.slice a bs.length cap)/\w.cell? ⟨p,1,none⟩=some (.int .i64 at_)/\w.cell? ⟨p,2,none⟩=some (.bool yq)/\w.cell? ⟨p,3,none⟩=some osl) /\
  (w.frozen? ⟨p,0,none⟩=false/\w.frozen? ⟨p,1,none⟩=false/\w.frozen? ⟨p,2,none⟩=false/\w.frozen? ⟨p,3,none⟩=false):=zad h.blk
theorem zaA.notF (h:zaA w0 w F G p a cap bs yq st at_ gs osl) {b:Nat} (hb:F b):b≠p:=by obtain ⟨_,_,cs,hc⟩:=h.fb b hb;exact zbj hc h.blk (by decide)
theorem zaA.setAt (h:zaA w0 w F G p a cap bs yq st at_ gs osl) (at2:Int):zaA w0 (w.setCell ⟨p,1,none⟩ (.int .i64 at2)) F G p a cap bs yq st at2 gs osl:=by
 have hk:∀b,b≠p->(w.setCell ⟨p,1,none⟩ (.int .i64 at2)).heap[b]?=w.heap[b]?:=fun b hb=>heap_setCell_other _ _ _ _ hb;have hs:(w.setCell ⟨p,1,none⟩ (.int .i64 at2)).heap.size=w.heap.size:=by simp [World.setCell]
 have hl:∀ {st:List Lv} {G:Nat->Prop} {gs:List Nat},Lvs w w0.heap.size F G st gs->Lvs (w.setCell ⟨p,1,none⟩ (.int .i64 at2)) w0.heap.size F G st gs:=by
  intro st
  induction st with
  | nil=>exact fun h=>h
  | cons v st ih =>
   rintro G gs ⟨g,t,sl,cs,h1,h2,h3,h4,h5,h6,h7,h8⟩
   exact ⟨g,t,sl,cs,h1,h2,h3,by rw [hk g (zbj h4 h.blk (by decide))];exact h4,zbd h5 fun b hb=>hk b (by obtain ⟨cs,hc⟩:=zaY h5 hb;exact zbj hc h.blk (by decide)),
    IsVs.keep ⟨by omega,fun b _ hb=>hk b (h.notF hb)⟩ (fun _ h=>h) _ h6,h7,ih h8⟩
 exact ⟨heap_setCell_same w p 1 _ _ _ h.blk,h.base,h.gp,zbd h.own fun b hb=>hk b (by obtain ⟨cs,hc⟩:=zaY h.own hb;exact zbj hc h.blk (by decide)),h.go,hl h.lvs,fun b hb=>by
  obtain ⟨h1,h2,cs,h3⟩:=h.fb b hb;exact ⟨h1,h2,cs,by rw [hk b (h.notF hb)];exact h3⟩,fun b hb=>by rw [hs];exact h.gb b hb,h.bel.trans ((Below.refl _ _).setCell h.base _),h.row,h.small,h.deep⟩
theorem zaA.drewN (h:zaA w0 w F G p a cap bs yq st at_ gs osl) (q:Nat):zaA w0 (w.drewN q) F G p a cap bs yq st at_ gs osl:=h.mono (zag (Below.refl _ _) q)
theorem zaA.alloc (h:zaA w0 w F G p a cap bs yq st at_ gs osl) (o:Obj):zaA w0 (w.alloc o) F G p a cap bs yq st at_ gs osl:=h.mono (zai w o)
theorem zaA.bytes (h:zaA w0 w F G p a cap bs yq st at_ gs osl):Row w 1 a bs.length cap (bs.map u8C):=h.row.mono h.bel
theorem zaA.res (h:zaA w0 w F G p a cap bs yq st at_ gs osl) (hb:Below w.heap.size w w') (hG':∀b,G' b->G b\/(w.heap.size<=b/\b<w'.heap.size)):zaA w0 w' F G' p a cap bs yq st at_ gs osl :=
 h.frame ⟨hb.os,hb.tape,hb.output,hb.size,fun b h1 _=>hb.block b h1⟩ hG'
theorem zaA.set (h:zaA w0 w F G p a cap bs yq st at_ gs osl) {r:Nat} (hr:G r) (i:Nat) (v:Value):zaA w0 (w.setCell ⟨r,i,none⟩ v) F G p a cap bs yq st at_ gs osl :=
 h.frame ((zak.refl G w).setCell (a:=⟨r,i,none⟩) (.inl hr) v) (fun _ h=>.inl h)
theorem zaA.set8 (h:zaA w0 w F G p a cap bs yq st at_ gs osl) {r:Nat} (hr:G r) (y0 y1 y2 y3 y4 y5 y6 y7:Value) :
  zaA w0 ((((((((w.setCell ⟨r,0,none⟩ y0).setCell ⟨r,1,none⟩ y1).setCell ⟨r,2,none⟩ y2).setCell ⟨r,3,none⟩ y3).setCell ⟨r,4,none⟩ y4).setCell ⟨r,5,none⟩ y5).setCell ⟨r,6,none⟩ y6).setCell ⟨r,7,none⟩ y7) F G p a cap bs yq st at_ gs osl :=
 (((((((h.set hr _ _).set hr _ _).set hr _ _).set hr _ _).set hr _ _).set hr _ _).set hr _ _).set hr _ _
theorem zaA.set4 (h:zaA w0 w F G p a cap bs yq st at_ gs osl) {r:Nat} (hr:G r) (y0 y1 y2 y3:Value) :
  zaA w0 ((((w.setCell ⟨r,0,none⟩ y0).setCell ⟨r,1,none⟩ y1).setCell ⟨r,2,none⟩ y2).setCell ⟨r,3,none⟩ y3) F G p a cap bs yq st at_ gs osl :=
 (((h.set hr _ _).set hr _ _).set hr _ _).set hr _ _
theorem zaA.give (h:zaA w0 w F G p a cap bs yq st at_ gs osl) (hG:∀b,G' b->G b):zaA w0 w F G' p a cap bs yq st at_ gs osl:=h.frame (zak.refl G w) fun b hb=>.inl (hG b hb)
end
theorem zaz {w w':World} {S:Nat->Prop} (h:Below w.heap.size w w'):zak S w w':=⟨h.os,h.tape,h.output,h.size,fun b hb _=>h.block b hb⟩
section
variable {w0 w w' : World} {F G : Nat -> Prop} {p : Nat} {a : Option Addr} {cap : Nat} {bs : List UInt8} {yq : Bool} {st : List Lv} {at_ : Int}
def Stk (w0 w:World) (F G:Nat->Prop) (p:Nat) (a:Option Addr) (cap:Nat) (bs:List UInt8) (yq:Bool) (st:List Lv) (at_:Int):Prop:=∃gs osl,zaA w0 w F G p a cap bs yq st at_ gs osl
structure Nxt (w0 w:World) (F G:Nat->Prop) (p:Nat) (a:Option Addr) (cap:Nat) (bs:List UInt8) (yq:Bool) (st:List Lv) (at_:Int) (F':Nat->Prop) (w':World):Prop where
 stk:Stk w0 w' F' G p a cap bs yq st at_
 sg:zaU G w w'
 sf:zaU F w w'
 ff:∀b,F b->F' b
end
section
variable {w w' : World} {p q u o0 o1 o2 r : Nat} {x0 x1 x2 : Value}
def S3 (w:World) (p o0:Nat) (x0:Value) (q o1:Nat) (x1:Value) (u o2:Nat) (x2:Value):Prop:=w.cell? ⟨p,o0,none⟩=some x0/\w.cell? ⟨q,o1,none⟩=some x1/\w.cell? ⟨u,o2,none⟩=some x2
theorem S3.below (h:S3 w p o0 x0 q o1 x1 u o2 x2) (hb:Below w.heap.size w w'):S3 w' p o0 x0 q o1 x1 u o2 x2:=⟨cell?_keep hb h.1,cell?_keep hb h.2.1,cell?_keep hb h.2.2⟩
theorem S3.alloc (h:S3 w p o0 x0 q o1 x1 u o2 x2) (o:Obj):S3 (w.alloc o) p o0 x0 q o1 x1 u o2 x2:=h.below (zai w o)
theorem S3.drew (h:S3 w p o0 x0 q o1 x1 u o2 x2):S3 w.drew p o0 x0 q o1 x1 u o2 x2:=h
theorem S3.set8 (h:S3 w p o0 x0 q o1 x1 u o2 x2) (hp:p≠r) (hq:q≠r) (hu:u≠r) (y0 y1 y2 y3 y4 y5 y6 y7:Value) :
  S3 ((((((((w.setCell ⟨r,0,none⟩ y0).setCell ⟨r,1,none⟩ y1).setCell ⟨r,2,none⟩ y2).setCell ⟨r,3,none⟩ y3).setCell ⟨r,4,none⟩ y4).setCell ⟨r,5,none⟩ y5).setCell ⟨r,6,none⟩ y6).setCell ⟨r,7,none⟩ y7) p o0 x0 q o1 x1 u o2 x2 :=
 ⟨(zc9 hp _ _ _ _ _ _ _ _ _).trans h.1,(zc9 hq _ _ _ _ _ _ _ _ _).trans h.2.1,(zc9 hu _ _ _ _ _ _ _ _ _).trans h.2.2⟩
end
structure TkM (w W:World) (r:Nat) (cs:Array Value):Prop where
 bel:Below w.heap.size w W
 blk:W.heap[r]?=some (.cells cs 112 (0,0))
 new:w.heap.size<=r
section
variable {w0 w w' : World} {F F' G : Nat -> Prop} {p : Nat} {a : Option Addr} {cap : Nat} {bs : List UInt8} {yq : Bool} {st : List Lv} {at_ : Int} {gs : List Nat} {osl : Value}
theorem pnext_any (h:zaA w0 w F G p a cap bs yq st at_ gs osl):Calls Tryz.prog 63 #[.pointer (some ⟨p,0,none⟩)] w fun e w' =>
  e=.returned (.tuple #[.agg (tokN (zan bs at_ yq).1 (zan bs at_ yq).2.1 (zan bs at_ yq).2.2.1),.int .i64 (zan bs at_ yq).2.2.2]) /\
  zaA w0 w' F G p a cap bs yq st (if (zan bs at_ yq).2.2.2=0 then (zan bs at_ yq).2.2.1 else at_) gs osl/\zak (fun b=>b=p) w w':=by
 have HN:=yb (fun (W:World) (hb:Below w.heap.size w W)=>zd6 (h.bytes.mono hb) h.small at_ yq);generalize zan bs at_ yq=V at *;unfold zaF tokN at HN;obtain ⟨x,f,t,er⟩:=V;simp only at HN |-;unfold tokN;generalize x.kind=a0 at *;generalize x.vk=a1 at *;generalize x.vn=a2 at *;generalize mkB x.vs=s1 at *;generalize mkB x.s=s2 at *;have HS:=yb h;have QV:=h.lt;clear h;go_enter Tryz.func63,Tryz.ntmps63
 go_wp2;have Qp:=yb (zai w (.cells #[.int .i64 0,.int .i64 0,.int .i64 0,.int .i64 0,.int .i64 0,.string ⟨#[]⟩,.slice none 0 0,.string ⟨#[]⟩] 112));have Qz:=yb (HS.out.mono Qp.out);have QN:=yb (zac (w:=w) (b:=w.heap.size) (.cells #[.int .i64 0,.int .i64 0,.int .i64 0,.int .i64 0,.int .i64 0,.string ⟨#[]⟩,.slice none 0 0,.string ⟨#[]⟩] 112) rfl);generalize w.alloc _=W1 at *;obtain ⟨r,hr⟩:∃r,r=w.heap.size:=⟨_,rfl⟩;have Qq:p≠r:=by omega
 rw [<-hr] at QN |-;have Qg:=yb hr;clear hr QV;obtain ⟨⟨c0,c1,c2,c3⟩,f0,f1,f2,f3⟩:=Qz.out.cells;have QO:=yb (fun o:Obj=>(zai W1 o).drew);have ZB:=yb (fun o:Obj=>Qp.out.trans ((QO.out o).mono (show w.heap.size<=W1.heap.size from Qp.out.size)));have Qw:Hid (S3 W1 p 0 (.slice a bs.length cap) p 1 (.int .i64 at_) p 2 (.bool yq)):=yb ⟨c0,c1,c2⟩;have QA:p≠W1.heap.size:=Nat.ne_of_lt Qz.out.lt;have QP:=yb (show r<W1.heap.size from zam QN.out)
 go_region_held3 (fun w'=>w'.cell? ⟨p,0,none⟩=some (.slice a bs.length cap)/\w'.cell? ⟨p,1,none⟩=some (.int .i64 at_)/\w'.cell? ⟨p,2,none⟩=some (.bool yq))
  ((show S3 _ p 0 (.slice a bs.length cap) p 1 (.int .i64 at_) p 2 (.bool yq);(first
   |(with_reducible exact Qw.out.drew)
   |(with_reducible exact Qw.out)
   |(with_reducible exact (Qw.out.alloc _).drew)
   |(with_reducible exact Hid.out (by assumption))
   |(with_reducible exact S3.alloc (Hid.out (by assumption)) _)
   |(with_reducible exact S3.set8 (Hid.out (by assumption)) QA QA QA _ _ _ _ _ _ _ _))))
  ((go_at_call 100;first
   |((with_reducible refine (HN.out _ Qp.out.drew).mono ?_);rintro e wN ⟨rfl,Qx⟩;have Qi:Below W1.heap.size W1 wN:=(Below.refl _ _).drew.trans Qx;have Q6:=yb (Qw.out.below Qi))
   |((with_reducible refine (HN.out _ (ZB.out _)).mono ?_);rintro e wN ⟨rfl,Qx⟩;have Qi:Below W1.heap.size W1 wN:=(QO.out _).trans (Qx.mono (QO.out _).size);have Q6:=yb (Qw.out.below Qi);have HZ:=yb (zab Qx (zac (w:=W1) (b:=W1.heap.size) (.cells #[.int .i64 0,.int .i64 0,.int .i64 0,.int .i64 0,.int .i64 0,.string ⟨#[]⟩,.slice none 0 0,.string ⟨#[]⟩] 112) rfl));obtain ⟨⟨z0,z1,z2,z3,z4,z5,z6,z7⟩,y0,y1,y2,y3,y4,y5,y6,y7⟩:=zah HZ.out)))
 all_goals
  first
   |(obtain ⟨W2,Qj⟩:∃W2,W2=wN.alloc (.cells #[.int .i64 a0,.int .i64 f,.int .i64 t,.int .i64 a1,.int .i64 a2,.string s1,.slice none 0 0,.string s2] 112):=⟨_,rfl⟩
     rw [<-Qj];have HT:=yb (show TkM W1 W2 wN.heap.size #[.int .i64 a0,.int .i64 f,.int .i64 t,.int .i64 a1,.int .i64 a2,.string s1,.slice none 0 0,.string s2] from ⟨by rw [Qj];exact Qi.alloc Qi.size _,by rw [Qj];exact zac _ rfl,Qi.size⟩);obtain ⟨r2,Qs⟩:∃r2,r2=wN.heap.size:=⟨_,rfl⟩;rw [<-Qs] at HT |-)
   |(obtain ⟨W2,Qj⟩:∃W2,W2=((((((((wN.setCell ⟨W1.heap.size,0,none⟩ (.int .i64 a0)).setCell ⟨W1.heap.size,1,none⟩ (.int .i64 f)).setCell ⟨W1.heap.size,2,none⟩ (.int .i64 t)).setCell ⟨W1.heap.size,3,none⟩ (.int .i64 a1)).setCell ⟨W1.heap.size,4,none⟩ (.int .i64 a2)).setCell ⟨W1.heap.size,5,none⟩ (.string s1)).setCell ⟨W1.heap.size,6,none⟩ (.slice none 0 0)).setCell ⟨W1.heap.size,7,none⟩ (.string s2)):=⟨_,rfl⟩
     rw [<-Qj];have HT:=yb (show TkM W1 W2 W1.heap.size #[.int .i64 a0,.int .i64 f,.int .i64 t,.int .i64 a1,.int .i64 a2,.string s1,.slice none 0 0,.string s2] from ⟨by rw [Qj];exact za9 Qi (yp _) _ _ _ _ _ _ _ _,by rw [Qj];exact set8 HZ.out _ _ _ _ _ _ _ _,yp _⟩);clear z0 z1 z2 z3 z4 z5 z6 z7 y0 y1 y2 y3 y4 y5 y6 y7 HZ;obtain ⟨r2,Qs⟩:∃r2,r2=W1.heap.size:=⟨_,rfl⟩;rw [<-Qs] at HT |-)
  clear Qj Qs Qx Qi Q6;have QW:=yb (Qz.out.mono HT.out.bel);have Qt:=yb (zab HT.out.bel QN.out);have YI:p≠r2:=by have:=HT.out.new;have:=Qz.out.lt;omega
  have ZC:r≠r2:=by have:=HT.out.new;have:=QP.out;omega
  have QE:=yb (Qp.out.trans (HT.out.bel.mono Qp.out.size));clear c0 c1 c2 c3 f0 f1 f2 f3 QA;obtain ⟨⟨c0,c1,c2,c3⟩,f0,f1,f2,f3⟩:=QW.out.cells;obtain ⟨⟨k0,k1,k2,k3,k4,k5,k6,k7⟩,m0,m1,m2,m3,m4,m5,m6,m7⟩:=zah HT.out.blk;obtain ⟨⟨g0,g1,g2,g3,g4,g5,g6,g7⟩,l0,l1,l2,l3,l4,l5,l6,l7⟩:=zah Qt.out
  by_cases her:er=0
  ·subst her
   go_wp2;refine yi (zaa rfl _ _ r 112 _ (0,0) _ rfl (set8 ((heap_setCell_other _ _ _ _ (Ne.symm Qq)).trans Qt.out) _ _ _ _ _ _ _ _) Tryz.underlying112 rfl zaO _ rfl) rfl ?_;refine ⟨rfl,?_,?_⟩
   ·exact (((HS.out.res (G':=fun b=>G b\/b=r) QE.out (fun b hb=>hb.imp id fun e=>by rw [e];exact ⟨Nat.le_of_eq Qg.out.symm,zam Qt.out⟩)).setAt t).set8 (.inr rfl) _ _ _ _ _ _ _ _).give fun b hb=>.inl hb
   ·exact zbB (zak.setCell (S:=fun b=>b=p) (a:=⟨p,1,none⟩) (zaz QE.out) (.inl rfl) _) (Nat.le_of_eq Qg.out.symm) _ _ _ _ _ _ _ _
  ·have e1:(er==0)=false:=by rw [yf];exact her
   go_wp2;refine yi (zaa rfl _ _ r 112 _ (0,0) _ rfl (set8 Qt.out _ _ _ _ _ _ _ _) Tryz.underlying112 rfl zaO _ rfl) rfl ?_;refine ⟨rfl,?_,?_⟩
   ·exact ((HS.out.res (G':=fun b=>G b\/b=r) QE.out (fun b hb=>hb.imp id fun e=>by rw [e];exact ⟨Nat.le_of_eq Qg.out.symm,zam Qt.out⟩)).set8 (.inr rfl) _ _ _ _ _ _ _ _).give fun b hb=>.inl hb
   ·exact zbB (zaz QE.out) (Nat.le_of_eq Qg.out.symm) _ _ _ _ _ _ _ _
def topP:List Nat->Option Addr
 | []=>none
 | g::_=>some ⟨g,0,none⟩
theorem zhp (h:zaA w0 w F G p a cap bs yq st at_ gs osl):Calls Tryz.prog 65 #[.pointer (some ⟨p,0,none⟩)] w fun e w'=>e=.returned (.pointer (topP gs))/\∃q,w'=w.drewN q:=by
 have hl:=h.lvs.len;have hd:=h.deep;obtain ⟨ao,oc,rfl,Zj,-⟩:=Row.of_owns h.own;obtain ⟨⟨c0,c1,c2,c3⟩,f0,f1,f2,f3⟩:=h.cells
 cases gs with
 | nil =>
  have h0:st.length=0:=by simpa using hl.symm
  rw [h0] at c3;clear hl Zj h h0 hd;go_enter Tryz.func65,Tryz.ntmps65
  go_wp2;go_ret;exact ⟨rfl,0,rfl⟩
 | cons g t =>
  have h0:st.length=t.length+1:=by simpa using hl.symm
  rw [h0] at Zj c3 hd;obtain ⟨b,off,rfl,hb,hc⟩:=Zj.2.2.2.2 (by omega);have Yb:=hc t.length (.pointer (some ⟨g,0,none⟩)) (by simp [ptrs]);have Y0:decide (t.length+1=0)=false:=by simp
  have Y1:((t.length:Int)+1==0)=false:=by rw [yf];omega
  have h1:(0:Int)<=(t.length:Int)+1-1:=by omega
  have h2:((t.length:Int)+1-1).toNat=t.length:=by omega
  have h3:IntKind.i64.wrap ((t.length:Int)+1-1)=(t.length:Int):=by rw [IntWalk.i64_in _ (by omega)];omega
  have h4:(t.length:Int)<(t.length:Int)+1:=by omega
  have h5:(0:Int)<=(t.length:Int):=by omega
  have h6:((t.length:Int)).toNat=t.length:=by omega
  clear hc Zj hl h h0;unfold topP;generalize t.length=n at *;go_enter Tryz.func65,Tryz.ntmps65
  go_wp2
  go_quiet (fail)
  go_wp2;go_ret;exact ⟨rfl,_,rfl⟩
end
structure IsRd (w0 w:World) (p:Nat) (a:Option Addr) (cap:Nat) (bs:List UInt8) (yq:Bool) (at_:Int):Prop where
 blk:w.heap[p]?=some (.cells #[.slice a bs.length cap,.int .i64 at_,.bool yq] 73 (0,0))
 new:w0.heap.size<=p
 row:Row w0 1 a bs.length cap (bs.map u8C)
 bel:Below w0.heap.size w0 w
 small:bs.length<=400000
theorem set3 {w:World} {b:Nat} {x0 x1 x2:Value} {t:TypeId} (h:w.heap[b]?=some (.cells #[x0,x1,x2] t (0,0))) (y:Value):(w.setCell ⟨b,1,none⟩ y).heap[b]?=some (.cells #[x0,y,x2] t (0,0)):=by
 rw [heap_setCell_same w b 1 _ _ _ h];rfl
section
variable {w0 w w' : World} {p : Nat} {a : Option Addr} {cap : Nat} {bs : List UInt8} {yq : Bool} {at_ : Int}
theorem IsRd.lt (h:IsRd w0 w p a cap bs yq at_):p<w.heap.size:=zam h.blk
theorem IsRd.mono (h:IsRd w0 w p a cap bs yq at_) (hb:Below w.heap.size w w'):IsRd w0 w' p a cap bs yq at_ :=
 ⟨zab hb h.blk,h.new,h.row,h.bel.trans (hb.mono h.bel.size),h.small⟩
theorem IsRd.bytes (h:IsRd w0 w p a cap bs yq at_):Row w 1 a bs.length cap (bs.map u8C):=h.row.mono h.bel
theorem IsRd.cells (h:IsRd w0 w p a cap bs yq at_):(w.cell? ⟨p,0,none⟩=some (.slice a bs.length cap)/\w.cell? ⟨p,1,none⟩=some (.int .i64 at_)/\w.cell? ⟨p,2,none⟩=some (.bool yq)) /\
  w.frozen? ⟨p,0,none⟩=false/\w.frozen? ⟨p,1,none⟩=false/\w.frozen? ⟨p,2,none⟩=false :=
 ⟨⟨by rw [cell_of_row _ _ _ _ _ _ h.blk];rfl,by rw [cell_of_row _ _ _ _ _ _ h.blk];rfl,by rw [cell_of_row _ _ _ _ _ _ h.blk];rfl⟩,frozen_of_row _ _ _ _ _ h.blk,frozen_of_row _ _ _ _ _ h.blk,frozen_of_row _ _ _ _ _ h.blk⟩
theorem IsRd.setAt (h:IsRd w0 w p a cap bs yq at_) (at2:Int):IsRd w0 (w.setCell ⟨p,1,none⟩ (.int .i64 at2)) p a cap bs yq at2 :=
 ⟨set3 h.blk _,h.new,h.row,h.bel.setCell h.new _,h.small⟩
theorem IsRd.set8 (h:IsRd w0 w p a cap bs yq at_) {r:Nat} (hr:p≠r) (h0:w0.heap.size<=r) (y0 y1 y2 y3 y4 y5 y6 y7:Value) :
  IsRd w0 ((((((((w.setCell ⟨r,0,none⟩ y0).setCell ⟨r,1,none⟩ y1).setCell ⟨r,2,none⟩ y2).setCell ⟨r,3,none⟩ y3).setCell ⟨r,4,none⟩ y4).setCell ⟨r,5,none⟩ y5).setCell ⟨r,6,none⟩ y6).setCell ⟨r,7,none⟩ y7) p a cap bs yq at_ :=
 ⟨(zg9 hr _ _ _ _ _ _ _ _).trans h.blk,h.new,h.row,za9 h.bel h0 _ _ _ _ _ _ _ _,h.small⟩
theorem nxt_1 (bs:List UInt8) (yq:Bool) (k:Int):(nxtV bs yq k).1=(zan bs k yq).1:=by unfold nxtV;split<;>rfl
theorem nxt_2 (bs:List UInt8) (yq:Bool) (k:Int):(nxtV bs yq k).2.1=(zan bs k yq).2.1:=by unfold nxtV;split<;>rfl
theorem nxt_3 (bs:List UInt8) (yq:Bool) (k:Int):(nxtV bs yq k).2.2.1=(zan bs k yq).2.2.1:=by unfold nxtV;split<;>rfl
def nxE (V:Tk×Int×Int×Int):Int:=if V.2.2.2=0/\V.1.kind=0 then 10 else V.2.2.2
theorem nxt_4 (bs:List UInt8) (yq:Bool) (k:Int):(nxtV bs yq k).2.2.2=nxE (zan bs k yq):=by unfold nxtV nxE;split<;>rfl
theorem zgh (h:IsRd w0 w p a cap bs yq at_):Calls Tryz.prog 60 #[.pointer (some ⟨p,0,none⟩)] w fun e w' =>
  e=.returned (.tuple #[.agg (tokN (nxtV bs yq at_).1 (nxtV bs yq at_).2.1 (nxtV bs yq at_).2.2.1),.int .i64 (nxtV bs yq at_).2.2.2]) /\
  IsRd w0 w' p a cap bs yq (if (nxtV bs yq at_).2.2.2=0 then (nxtV bs yq at_).2.2.1 else at_)/\zak (fun b=>b=p) w w':=by
 have HN:=yb (fun (W:World) (hb:Below w.heap.size w W)=>zd6 (h.bytes.mono hb) h.small at_ yq);rw [nxt_1,nxt_2,nxt_3,nxt_4];generalize zan bs at_ yq=V at *;unfold zaF tokN at HN;obtain ⟨x,f,t,er⟩:=V;simp only at HN |-;unfold tokN nxE;simp only;generalize x.kind=a0 at *;obtain ⟨E,hE⟩:∃E,E=(if er=0/\a0=0 then (10:Int) else er):=⟨_,rfl⟩;rw [<-hE];obtain ⟨A,hA⟩:∃A,A=(if E=0 then t else at_):=⟨_,rfl⟩;rw [<-hA];have ZD:=yb hE;have ZE:=yb hA;clear hE hA;generalize x.vk=a1 at *;generalize x.vn=a2 at *;generalize mkB x.vs=s1 at *;generalize mkB x.s=s2 at *;have HS:=yb h;have QV:=h.lt;clear h;go_enter Tryz.func60,Tryz.ntmps60
 go_wp2;have Qp:=yb (zai w (.cells #[.int .i64 0,.int .i64 0,.int .i64 0,.int .i64 0,.int .i64 0,.string ⟨#[]⟩,.slice none 0 0,.string ⟨#[]⟩] 112));have Qz:=yb (HS.out.mono Qp.out);have QN:=yb (zac (w:=w) (b:=w.heap.size) (.cells #[.int .i64 0,.int .i64 0,.int .i64 0,.int .i64 0,.int .i64 0,.string ⟨#[]⟩,.slice none 0 0,.string ⟨#[]⟩] 112) rfl);generalize w.alloc _=W1 at *;obtain ⟨r,hr⟩:∃r,r=w.heap.size:=⟨_,rfl⟩;have Qq:p≠r:=by omega
 rw [<-hr] at QN |-;have Qg:=yb hr;clear hr QV;obtain ⟨⟨c0,c1,c2⟩,f0,f1,f2⟩:=Qz.out.cells;have QO:=yb (fun o:Obj=>(zai W1 o).drew);have ZB:=yb (fun o:Obj=>Qp.out.trans ((QO.out o).mono (show w.heap.size<=W1.heap.size from Qp.out.size)));have Qw:Hid (S3 W1 p 0 (.slice a bs.length cap) p 1 (.int .i64 at_) p 2 (.bool yq)):=yb ⟨c0,c1,c2⟩;have QA:p≠W1.heap.size:=Nat.ne_of_lt Qz.out.lt;have QP:=yb (show r<W1.heap.size from zam QN.out)
 go_region_held3 (fun w'=>w'.cell? ⟨p,0,none⟩=some (.slice a bs.length cap)/\w'.cell? ⟨p,1,none⟩=some (.int .i64 at_)/\w'.cell? ⟨p,2,none⟩=some (.bool yq))
  ((show S3 _ p 0 (.slice a bs.length cap) p 1 (.int .i64 at_) p 2 (.bool yq);(first
   |(with_reducible exact Qw.out.drew)
   |(with_reducible exact Qw.out)
   |(with_reducible exact (Qw.out.alloc _).drew)
   |(with_reducible exact Hid.out (by assumption))
   |(with_reducible exact S3.alloc (Hid.out (by assumption)) _)
   |(with_reducible exact S3.set8 (Hid.out (by assumption)) QA QA QA _ _ _ _ _ _ _ _))))
  ((go_at_call 100;first
   |((with_reducible refine (HN.out _ Qp.out.drew).mono ?_);rintro e wN ⟨rfl,Qx⟩;have Qi:Below W1.heap.size W1 wN:=(Below.refl _ _).drew.trans Qx;have Q6:=yb (Qw.out.below Qi))
   |((with_reducible refine (HN.out _ (ZB.out _)).mono ?_);rintro e wN ⟨rfl,Qx⟩;have Qi:Below W1.heap.size W1 wN:=(QO.out _).trans (Qx.mono (QO.out _).size);have Q6:=yb (Qw.out.below Qi);have HZ:=yb (zab Qx (zac (w:=W1) (b:=W1.heap.size) (.cells #[.int .i64 0,.int .i64 0,.int .i64 0,.int .i64 0,.int .i64 0,.string ⟨#[]⟩,.slice none 0 0,.string ⟨#[]⟩] 112) rfl));obtain ⟨⟨z0,z1,z2,z3,z4,z5,z6,z7⟩,y0,y1,y2,y3,y4,y5,y6,y7⟩:=zah HZ.out)))
 all_goals
  first
   |(obtain ⟨W2,Qj⟩:∃W2,W2=wN.alloc (.cells #[.int .i64 a0,.int .i64 f,.int .i64 t,.int .i64 a1,.int .i64 a2,.string s1,.slice none 0 0,.string s2] 112):=⟨_,rfl⟩
     rw [<-Qj];have HT:=yb (show TkM W1 W2 wN.heap.size #[.int .i64 a0,.int .i64 f,.int .i64 t,.int .i64 a1,.int .i64 a2,.string s1,.slice none 0 0,.string s2] from ⟨by rw [Qj];exact Qi.alloc Qi.size _,by rw [Qj];exact zac _ rfl,Qi.size⟩);obtain ⟨r2,Qs⟩:∃r2,r2=wN.heap.size:=⟨_,rfl⟩;rw [<-Qs] at HT |-)
   |(obtain ⟨W2,Qj⟩:∃W2,W2=((((((((wN.setCell ⟨W1.heap.size,0,none⟩ (.int .i64 a0)).setCell ⟨W1.heap.size,1,none⟩ (.int .i64 f)).setCell ⟨W1.heap.size,2,none⟩ (.int .i64 t)).setCell ⟨W1.heap.size,3,none⟩ (.int .i64 a1)).setCell ⟨W1.heap.size,4,none⟩ (.int .i64 a2)).setCell ⟨W1.heap.size,5,none⟩ (.string s1)).setCell ⟨W1.heap.size,6,none⟩ (.slice none 0 0)).setCell ⟨W1.heap.size,7,none⟩ (.string s2)):=⟨_,rfl⟩
     rw [<-Qj];have HT:=yb (show TkM W1 W2 W1.heap.size #[.int .i64 a0,.int .i64 f,.int .i64 t,.int .i64 a1,.int .i64 a2,.string s1,.slice none 0 0,.string s2] from ⟨by rw [Qj];exact za9 Qi (yp _) _ _ _ _ _ _ _ _,by rw [Qj];exact set8 HZ.out _ _ _ _ _ _ _ _,yp _⟩);clear z0 z1 z2 z3 z4 z5 z6 z7 y0 y1 y2 y3 y4 y5 y6 y7 HZ;obtain ⟨r2,Qs⟩:∃r2,r2=W1.heap.size:=⟨_,rfl⟩;rw [<-Qs] at HT |-)
  clear Qj Qs Qx Qi Q6;have QW:=yb (Qz.out.mono HT.out.bel);have Qt:=yb (zab HT.out.bel QN.out);have YI:p≠r2:=by have:=HT.out.new;have:=Qz.out.lt;omega
  have ZC:r≠r2:=by have:=HT.out.new;have:=QP.out;omega
  have QE:=yb (Qp.out.trans (HT.out.bel.mono Qp.out.size));clear c0 c1 c2 f0 f1 f2 QA;obtain ⟨⟨c0,c1,c2⟩,f0,f1,f2⟩:=QW.out.cells;obtain ⟨⟨k0,k1,k2,k3,k4,k5,k6,k7⟩,m0,m1,m2,m3,m4,m5,m6,m7⟩:=zah HT.out.blk;obtain ⟨⟨g0,g1,g2,g3,g4,g5,g6,g7⟩,l0,l1,l2,l3,l4,l5,l6,l7⟩:=zah Qt.out;have ZF:=Nat.le_trans HS.out.bel.size (Nat.le_of_eq Qg.out.symm)
  by_cases her:er=0
  ·subst her
   by_cases hk0:a0=0
   ·subst hk0
    obtain rfl:E=10:=by rw [ZD.out,yg ⟨rfl,rfl⟩]
    obtain rfl:at_=A:=by rw [ZE.out,yh (by decide)]
    go_wp2;refine yi (zaa rfl _ _ r 112 _ (0,0) _ rfl (set8 Qt.out _ _ _ _ _ _ _ _) Tryz.underlying112 rfl zaO _ rfl) rfl ?_;refine ⟨rfl,?_,?_⟩
    ·exact QW.out.set8 Qq ZF _ _ _ _ _ _ _ _
    ·exact zbB (zaz QE.out) (Nat.le_of_eq Qg.out.symm) _ _ _ _ _ _ _ _
   ·have Ze:(a0==0)=false:=by rw [yf];exact hk0
    obtain rfl:E=0:=by rw [ZD.out,yh (fun h=>hk0 h.2)]
    obtain rfl:t=A:=by rw [ZE.out,yg rfl]
    go_wp2;refine yi (zaa rfl _ _ r 112 _ (0,0) _ rfl (set8 ((heap_setCell_other _ _ _ _ (Ne.symm Qq)).trans Qt.out) _ _ _ _ _ _ _ _) Tryz.underlying112 rfl zaO _ rfl) rfl ?_;refine ⟨rfl,?_,?_⟩
    ·exact (QW.out.setAt t).set8 Qq ZF _ _ _ _ _ _ _ _
    ·exact zbB (zak.setCell (S:=fun b=>b=p) (a:=⟨p,1,none⟩) (zaz QE.out) (.inl rfl) _) (Nat.le_of_eq Qg.out.symm) _ _ _ _ _ _ _ _
  ·have e1:(er==0)=false:=by rw [yf];exact her
   obtain rfl:er=E:=by rw [ZD.out,yh (fun h=>her h.1)]
   obtain rfl:at_=A:=by rw [ZE.out,yh her]
   go_wp2;refine yi (zaa rfl _ _ r 112 _ (0,0) _ rfl (set8 Qt.out _ _ _ _ _ _ _ _) Tryz.underlying112 rfl zaO _ rfl) rfl ?_;refine ⟨rfl,?_,?_⟩
   ·exact QW.out.set8 Qq ZF _ _ _ _ _ _ _ _
   ·exact zbB (zaz QE.out) (Nat.le_of_eq Qg.out.symm) _ _ _ _ _ _ _ _
end
end Go.Proofs.YtcmoehknppjkiaaGreatDoor
