/-
  Our texts Rk1 to SpE, in one.
-/
import Derived.Test.YtfafdeemfeaedaaGreatPkV11
import Derived.Test.YtfafdeemfeaedaaGreatProg
import Derived.Lib.SlBytesRow
import Derived.Deep.LoopGhost
import Derived.Deep.CutBlock
import Derived.BigQuiet
import Derived.Deep.QuietTactic
import Derived.Maps.OwnOps
import Derived.Maps.Views
import Derived.Laws.CopyOwn
import Derived.IntWalk
import Derived.Maps.RangeWalk
import Derived.Ground.SlsfProg
import Derived.Shelf.SlSortCmp.WholeK
import Derived.Sort.LotA
import Derived.Carry
import Derived.StillTailTactics
import Derived.Lib.SliceRun
set_option maxRecDepth 8000
set_option maxHeartbeats 8000000
open Go
variable {A A0 B N c2 e f g i j k kc m mb n' off p r tot u:Nat} {F G S U X:Nat->Prop} {L R T T':List (Int×Int)} {P at2 er gap tto x:Int} {W W' W0 W1 W2 W8 w' w0 w1 w2:World} {ad gv sl sv sx v' x0 x1 x2 x3 x4 y0 y1 y2 y3 z:Value} {c:UInt8} {cs xs:List Value} {ds rd:List Int} {ka sa:Option Addr} {key:List UInt8} {ov yq:Bool} {t ty:TypeId}
namespace Go.Proofs.YtfafdeemfeaedaaGreat
open Go.RowKit Go.Lib
theorem szByte (w:World):(Go.sizeOf 5).run Tryz.prog w=.ok 1 w:=by kernel_rfl
theorem zgE (W:World) (b o len c l n:Nat) (hl:l+n=len) (hn:1<=n) (hc:len<=c) :
  (Instr.slice 22 (.slice (some ⟨b,o,none⟩) len c) (some (.int .i64 (l:Int))) none none).run Tryz.prog W=.ok (.slice (some ⟨b,o+l,none⟩) n (c-l)) W:=by
 have ht':Tryz.prog.underlying 22=some (.slice (Tryz.prog.elem 22)):=by simp [Program.elem,Tryz.underlying22]
 have he:Tryz.prog.elem 22=5:=by simp [Program.elem,Tryz.underlying22]
 rw [run_slice_l W 22 _ _ _ ht' .i64 _ (by omega) (by omega),he,szByte]
 have hne:¬c=l:=by omega
 subst hl
 by_cases h0:l=0
 ·subst h0
  simp [Result.andThen,sliced,Addr.add,hne]
 ·simp [Result.andThen,sliced,Addr.add,hne,h0]
theorem hashrev_any (b o c:Nat) (sep:ByteArray) (hs:sep.size<4294967281) (w:World) (hc0:Lib.Bytes w b o sep) :
  Calls Tryz.prog 135 #[.slice (some ⟨b,o,none⟩) sep.size c] w fun e w'=>e=.returned (.tuple #[.int .u32 (RK.H sep.data.toList.reverse % 4294967296),.int .u32 (16777619 ^ sep.size % 4294967296)])/\w'=w:=by
 have hc:=yb hc0
 clear hc0
 go_enter Tryz.func135,Tryz.ntmps135
 go_wp2
 go_loop [4,5] (fun vh vi=>∃(k:Nat) (z h:Int),k<=sep.size/\Hid (z+1=(k:Int))/\-1<=z/\z<4294967281/\vi=.int .i64 z/\vh=.int .u32 h/\Hid (h=RK.H (sep.data.toList.drop k).reverse % 4294967296)) (fun _ vi=>((RowKit.intOf vi)+1).toNat)
 case atStart=>exact ⟨sep.size,(sep.size:Int)-1,0,yp _,yb (by omega),by omega,by omega,rfl,rfl,yb (by show (0:Int)=_;rw [List.drop_of_length_le (by simp)];rfl)⟩
 case round =>
  obtain ⟨k,z,h,hk,hz,hz0,hz1,rfl,rfl,hh⟩:=hrel
  by_cases hp:0<=z
  ·obtain ⟨j,rfl⟩:∃j:Nat,z=(j:Int):=⟨z.toNat,by omega⟩
   have hzo:=hz.out
   obtain rfl:k=j+1:=by omega
   have hj:j<sep.size:=by omega
   have ck:=hc.out j hj
   have HS:=yb (LastIndex.hashrev_step sep (j+1) (by omega) hk hh.out)
   clear hzo hz hh
   go_wp2
   go_round
   case rel=>exact ⟨j,(j:Int)-1,_,by omega,yb (by omega),by omega,by omega,rfl,rfl,HS⟩
   case measure=>simp [RowKit.intOf]<;>omega
  ·have hzo:=hz.out
   obtain rfl:z=-1:=by omega
   obtain rfl:k=0:=by omega
   clear hzo hz
   go_wp2
   go_loop [6,7,8] (fun vp vq vi=>∃(i:Nat) (pw sq:Int),vi=.int .i64 i/\vp=.int .u32 pw/\vq=.int .u32 sq/\0<=pw/\pw<4294967296/\i<=sep.size/\Hid (RK.PowInv sep.size i pw sq)) (fun _ _ vi=>(RowKit.intOf vi).toNat)
   case atStart=>exact ⟨sep.size,1,16777619,rfl,rfl,rfl,by omega,by omega,yp _,RK.pow_start _⟩
   case round =>
    obtain ⟨i,pw,sq,rfl,rfl,rfl,p0,p1,hi,hinv⟩:=hrel
    have ea:=and_one i (by omega)
    go_wp2
    ·have ht:((i:Int) % 2 != 0)=true:=by assumption
     have ho:i % 2=1:=by simp at ht;omega
     go_round
     case rel=>exact ⟨i / 2,_,_,by first|go_num|(congr 1;omega),rfl,rfl,by omega,by omega,by omega,RK.pow_odd hinv.out ho⟩
     case measure=>simp [RowKit.intOf];omega
    ·have ht:((i:Int) % 2 != 0)=false:=by assumption
     have he:i % 2=0:=by simp at ht;omega
     go_round
     case rel=>exact ⟨i / 2,_,_,by first|go_num|(congr 1;omega),rfl,rfl,p0,p1,by omega,RK.pow_even hinv.out he⟩
     case measure=>simp [RowKit.intOf];omega
    ·have hi0:i=0:=by omega
     subst hi0
     have e1:h=RK.H sep.data.toList.reverse % 4294967296:=by
      have:=hh.out
      rwa [List.drop_zero] at this
     have e2:=RK.pow_end hinv.out p0 p1
     go_ret2
     rw [<-e1,<-e2]
     exact ⟨rfl,rfl⟩
def occB (s sep:ByteArray) (j:Nat):Bool:=occAt s.data.toList sep.data.toList j
theorem occB_is (s sep:ByteArray) (j:Nat) (hj:j+sep.size<=s.size):((s.extract j (j+sep.size)).toList==sep.toList)=occB s sep j:=by
 cases h:((s.extract j (j+sep.size)).toList==sep.toList) with
 | true=>exact (occ_yes s sep j hj h).symm
 | false=>exact (occ_no s sep j hj h).symm
set_option maxRecDepth 100000 in
set_option maxHeartbeats 16000000 in
theorem lastrk_any (b1 o1 c1 b2 o2 c2:Nat) (s sep:ByteArray) (h1:1<=sep.size) (h2:sep.size<=s.size) (hs:s.size<4294967281) (w:World) (hc1:Lib.Bytes w b1 o1 s) (hc2:Lib.Bytes w b2 o2 sep) (hcap:s.size<=c1) :
  Calls Tryz.prog 94 #[.slice (some ⟨b1,o1,none⟩) s.size c1,.slice (some ⟨b2,o2,none⟩) sep.size c2] w fun e w'=>e=.returned (.int .i64 (Lib.lastIndex s.data.toList sep.data.toList))/\∃q,w'=w.drewN q:=by
 obtain ⟨hh,Hh⟩:∃hh:Int,hh=RK.H sep.data.toList.reverse % 4294967296:=⟨_,rfl⟩
 obtain ⟨pw,Hp⟩:∃pw:Int,pw=16777619 ^ sep.size % 4294967296:=⟨_,rfl⟩
 have hc:=yb (show Calls Tryz.prog 135 #[.slice (some ⟨b2,o2,none⟩) sep.size c2] w fun e w'=>e=.returned (.tuple #[.int .u32 hh,.int .u32 pw])/\w'=w by rw [Hh,Hp];exact hashrev_any b2 o2 c2 sep (by omega) w hc2)
 have HH:=yb Hh
 have HP:=yb Hp
 clear Hh Hp
 obtain ⟨yq,hlast⟩:∃yq:Nat,yq+sep.size=s.size:=⟨s.size-sep.size,by omega⟩
 have elast:(s.size:Int)-sep.size=yq:=by omega
 have HL:=yb (show Lib.lastIndex s.data.toList sep.data.toList=Lib.lastOcc s.data.toList sep.data.toList (yq+1) by
  unfold Lib.lastIndex
  rw [yg (by simp;omega)]
  congr 1
  simp;omega)
 have hvs:=yb (fun n=>Lib.run_convert_whole (P:=Tryz.prog) (w.drewN n) 22 5 9 Tryz.underlying22 Tryz.underlying5 Tryz.underlying9 b2 o2 sep (Lib.Bytes.drewN hc2 n) c2)
 have hvw:=yb (fun n j cap (hj:j+sep.size<=s.size)=>Lib.run_convert_window (P:=Tryz.prog) (w.drewN n) 22 5 9 Tryz.underlying22 Tryz.underlying5 Tryz.underlying9 b1 o1 s (Lib.Bytes.drewN hc1 n) j sep.size cap hj)
 have C1:=yb hc1
 clear hc1 hc2
 go_enter Tryz.func94,Tryz.ntmps94
 go_wp2_with fail
 refine hc.out.mono ?_
 rintro e w' ⟨rfl,hw'⟩
 have hw2:=hw'.symm
 subst hw2
 clear hw'
 go_wp2_with fail
 go_loopg [9,10] (s.size+1) (fun gh vh vi wr=>∃(k:Nat) (z h:Int),yq<=k/\k<=s.size/\Hid (z+1=(k:Int))/\Hid (k+1<=gh)/\-1<=z/\z<4294967281/\vi=.int .i64 z/\vh=.int .u32 h/\wr=w/\Hid (h=RK.H (s.data.toList.drop k).reverse % 4294967296))
 case atStart=>exact ⟨s.size,(s.size:Int)-1,0,by omega,yp _,yb (by omega),yb (yp _),by omega,by omega,rfl,rfl,rfl,yb (by show (0:Int)=_;rw [List.drop_of_length_le (by simp)];rfl)⟩
 case round =>
  obtain ⟨k,z,h,hk1,hk,hz,hgh,hz0,hz1,rfl,rfl,hwr,hk2⟩:=hrel
  have hw2:=hwr.symm
  subst hw2
  clear hwr
  by_cases hp:(yq:Int)<=z
  ·obtain ⟨j,rfl⟩:∃j:Nat,z=(j:Int):=⟨z.toNat,by omega⟩
   have hzo:=hz.out
   obtain rfl:k=j+1:=by omega
   have hj:j<s.size:=by omega
   have hjl:yq<=j:=by omega
   have ck:=C1.out j hj
   have HS:=yb (LastIndex.hashrev_step s (j+1) (by omega) hk hk2.out)
   clear hzo hz hk2
   go_wp2
   go_roundg (j+1)
   case measure=>have:=hgh.out;omega
   case rel=>exact ⟨j,(j:Int)-1,_,hjl,by omega,yb (by omega),yb (yp _),by omega,by omega,rfl,rfl,rfl,HS⟩
  ·have hzo:=hz.out
   obtain rfl:k=yq:=by omega
   obtain rfl:z=(k:Int)-1:=by omega
   have HW:=yb (show h=RK.H (RK.win s.data.toList k sep.size).reverse % 4294967296 by
    have:=hk2.out
    rwa [show s.data.toList.drop k=RK.win s.data.toList k sep.size from (List.take_of_length_le (by simp;omega)).symm] at this)
   have hv0:=fun n cap=>hvw.out n k cap (by omega)
   have hvs2:=hvs.out
   have hsl:=fun W=>zgE W b1 o1 s.size c1 k sep.size hlast h1 hcap
   clear hzo hz hk2 hgh
   go_upto_region 9 with fail
   go_cut [50] from 12 (fun v wx=>∃(q:Nat) (B:Bool),v=.bool B/\wx=w.drewN q/\Hid (B=occB s sep k))
   case first =>
    by_cases ehh:h=hh
    ·subst ehh
     go_wp2_with fail
     go_quiet (fail)
     go_wp2
     go_meet
     exact ⟨_,_,rfl,rfl,yb (by have:=occB_is s sep k (by omega);rwa [hlast] at this)⟩
    ·have hb:(h==hh)=false:=beq_eq_false_iff_ne.2 ehh
     have HO:=yb (LastIndex.occ_no_hashrev s sep k (by omega) HW.out HH.out ehh)
     clear ehh
     go_wp2_with fail
     go_quiet (fail)
     go_wp2
     go_meet
     exact ⟨_,_,rfl,rfl,yb HO.out.symm⟩
   case rest =>
    obtain ⟨q0,B,rfl,rfl,HB⟩:=hcut
    clear hv0 hvs2 hsl
    cases B
    case true =>
     have HE:=yb (show Lib.lastIndex s.data.toList sep.data.toList=(k:Int) by rw [HL.out,Lib.lastOcc_hit _ _ k HB.out.symm])
     go_wp2_with fail
     go_ret
     rw [HE.out]
     exact ⟨rfl,_,rfl⟩
    have HL2:=yb (show Lib.lastIndex s.data.toList sep.data.toList=Lib.lastOcc s.data.toList sep.data.toList k by rw [HL.out,Lib.lastOcc_miss _ _ k HB.out.symm])
    clear HL HB
    go_wp2_with fail
    go_loopg [9,11] (k+1) (fun gh vh vi wr=>∃(j:Nat) (z g:Int) (q:Nat),j<=k/\Hid (z+1=(j:Int))/\Hid (j+1<=gh)/\-1<=z/\z<4294967281/\vi=.int .i64 z/\vh=.int .u32 g/\wr=w.drewN q/\Hid (g=RK.H (RK.win s.data.toList j sep.size).reverse % 4294967296)/\Hid (Lib.lastIndex s.data.toList sep.data.toList=Lib.lastOcc s.data.toList sep.data.toList j))
    case atStart=>exact ⟨k,(k:Int)-1,h,q0,yp _,yb (by omega),yb (yp _),by omega,by omega,rfl,rfl,rfl,HW,HL2⟩
    case round =>
     obtain ⟨j,z,g,q,hj,hz,hgh,hz2,hz3,rfl,rfl,rfl,hg,hl⟩:=hrel
     by_cases hp2:0<=z
     ·obtain ⟨i,rfl⟩:∃i:Nat,z=(i:Int):=⟨z.toNat,by omega⟩
      have hzo:=hz.out
      obtain rfl:j=i+1:=by omega
      have ck1:=C1.out i (by omega)
      have ck2:=C1.out (i+sep.size) (by omega)
      have HR:=yb (LastIndex.rollrev_step s sep.size i h1 (by omega) hg.out HP.out)
      have hv0:=fun n cap=>hvw.out n i cap (by omega)
      have hvs2:=hvs.out
      have hin:(i:Int)+(sep.size:Int)=((i+sep.size:Nat):Int):=by omega
      have hsl:∀W,(Instr.slice 22 (.slice (some ⟨b1,o1,none⟩) s.size c1) (some (.int .i64 (i:Int))) (some (.int .i64 ((i:Int)+(sep.size:Int)))) none).run Tryz.prog W=.ok (.slice (some ⟨b1,o1+i,none⟩) sep.size (c1-i)) W:=fun W=>by
       rw [hin,Lib.run_slice_window W 22 5 Tryz.underlying22 szByte b1 o1 s.size c1 i (i+sep.size) (by omega) (by omega),show i+sep.size-i=sep.size by omega]
      have hk3:i+1+sep.size<=s.size:=by omega
      clear hzo hz hg hin
      go_upto_region 17 with fail
      obtain ⟨G2,hG2⟩:∃G2:Int,G2=((g*16777619+(s[i].toNat:Int)) % 4294967296-pw*((s[i+sep.size].toNat:Int) % 4294967296) % 4294967296) % 4294967296:=⟨_,rfl⟩
      rw [<-hG2]
      have HG2:=yb (show G2=RK.H (RK.win s.data.toList i sep.size).reverse % 4294967296 by rw [hG2];have:=HR.out;omega)
      clear hG2 HR ck1 ck2
      go_cut [92] from 54 to 93 (fun v wx=>∃(q2:Nat) (B:Bool),v=.bool B/\wx=w.drewN q2/\Hid (B=occB s sep i))
      case first =>
       by_cases ehh:G2=hh
       ·subst ehh
        go_wp2_with fail
        go_quiet (fail)
        go_wp2
        go_meet
        exact ⟨_,_,rfl,by rw [World.drewN_drewN],yb (occB_is s sep i (by omega))⟩
       ·have hb:(G2==hh)=false:=beq_eq_false_iff_ne.2 ehh
        have HO:=yb (LastIndex.occ_no_hashrev s sep i (by omega) HG2.out HH.out ehh)
        clear ehh
        go_wp2_with fail
        go_quiet (fail)
        go_wp2
        go_meet
        exact ⟨_,_,rfl,by rw [World.drewN_drewN],yb HO.out.symm⟩
      case rest =>
       obtain ⟨q2,B,rfl,rfl,HB⟩:=hcut
       clear hv0 hvs2 hsl
       cases B
       case true =>
        have HE:=yb (show Lib.lastIndex s.data.toList sep.data.toList=(i:Int) by rw [hl.out,Lib.lastOcc_hit _ _ i HB.out.symm])
        go_wp2_with fail
        go_ret
        rw [HE.out]
        exact ⟨rfl,_,rfl⟩
       have HL3:=yb (show Lib.lastIndex s.data.toList sep.data.toList=Lib.lastOcc s.data.toList sep.data.toList i by rw [hl.out,Lib.lastOcc_miss _ _ i HB.out.symm])
       clear hl HB
       go_wp2_with fail
       go_roundg (i+1)
       case measure=>have:=hgh.out;omega
       case rel=>exact ⟨i,(i:Int)-1,G2,q2,by omega,yb (by omega),yb (yp _),by omega,by omega,rfl,rfl,rfl,HG2,HL3⟩
     ·have hzo:=hz.out
      obtain rfl:j=0:=by omega
      obtain rfl:z=-1:=by omega
      have HE:=yb (show Lib.lastIndex s.data.toList sep.data.toList=-1 from hl.out)
      clear hzo hz
      go_wp2_with fail
      go_ret
      rw [HE.out]
      exact ⟨rfl,_,rfl⟩
end Go.Proofs.YtfafdeemfeaedaaGreat
namespace Go.Proofs.YtfafdeemfeaedaaGreat
open Go.RowKit
theorem zgC {w:World} {b o cap:Nat} {bs:List UInt8} (h:Row w 1 (some ⟨b,o,none⟩) bs.length cap (bs.map u8C)):Lib.Bytes w b o (mkB bs):=by
 intro i hi
 have hl:i<bs.length:=by rw [zbN] at hi;exact hi
 obtain ⟨b',o',e,-,hc⟩:=h.2.2.2.2 (by omega)
 cases e
 exact hc i _ (by rw [List.getElem?_map,List.getElem?_eq_getElem hl];rfl)
theorem lastW_gt {w b:List UInt8} (h:b.length<w.length):zcN w b=none:=by unfold zcN;rw [yg h]
theorem lastW_eq {w b:List UInt8} (h:w.length=b.length):zcN w b=if b=w then some 0 else none:=by
 unfold zcN
 rw [yh (by omega),h,Nat.sub_self]
 unfold zdt
 rw [List.drop_zero,h,List.take_of_length_le (yp _)]
theorem bequal_any {w:World} {a a2:Option Addr} {cap:Nat} {bs sep:List UInt8} (hr:Row w 1 a bs.length cap (bs.map u8C)) (hs:Row w 1 a2 sep.length c2 (sep.map u8C)) :
  Calls Tryz.prog 93 #[.slice a bs.length cap,.slice a2 sep.length c2] w fun e w'=>e=.returned (.bool (decide (bs=sep)))/\w=w':=by
 have h1:=zc7 hr
 have h2:=zc7 hs
 have hq:((mkB bs).toList==(mkB sep).toList)=decide (bs=sep):=by rw [zaP sep];exact zbM bs sep
 clear hr hs
 generalize mkB bs=x at *
 generalize mkB sep=y at *
 generalize decide (bs=sep)=d at *
 go_enter Tryz.func93,Tryz.ntmps93
 go_wp2
 go_ret
 exact ⟨rfl,rfl⟩
theorem zgU {w:World} {a a2:Option Addr} {cap:Nat} {bs sep:List UInt8} (hr:Row w 1 a bs.length cap (bs.map u8C)) (hs:Row w 1 a2 sep.length c2 (sep.map u8C)) (hl:bs.length<4000000000) (hn:2<=sep.length) (hn2:sep.length<=1000) :
  Calls Tryz.prog 56 #[.slice a bs.length cap,.slice a2 sep.length c2] w fun e w'=>e=.returned (.int .i64 (zcU (zcN sep bs)))/\Below w.heap.size w w':=by
 have n0:((sep.length:Int)==0)=false:=by rw [yf];omega
 have n1:((sep.length:Int)==1)=false:=by rw [yf];omega
 obtain ⟨V,hV⟩:∃V,V=zcN sep bs:=⟨_,rfl⟩
 rw [<-hV]
 by_cases h1:sep.length=bs.length
 ·have HE:=yb (bequal_any hr hs)
  have q1:((sep.length:Int)==(bs.length:Int))=true:=by rw [beq_iff_eq];omega
  have q2:(sep.length==bs.length)=true:=by rw [beq_iff_eq];exact h1
  rw [lastW_eq h1] at hV
  obtain ⟨d,hd⟩:∃d,d=decide (bs=sep):=⟨_,rfl⟩
  rw [<-hd] at HE
  have HV:=yb (show V=if d=true then some 0 else none by rw [hV,hd];by_cases h:bs=sep<;>simp [h])
  clear hV hd hr hs h1
  generalize bs.length=N at *
  generalize sep.length=M at *
  cases d
  all_goals
   go_enter Tryz.func56,Tryz.ntmps56
   go_wp2_with (go_at_call 93;refine HE.out.mono ?_;rintro e w' ⟨rfl,rfl⟩)
   go_ret
   exact ⟨by rw [HV.out];rfl,Below.refl _ _⟩
 have q1:((sep.length:Int)==(bs.length:Int))=false:=by rw [yf];omega
 have q2:(sep.length==bs.length)=false:=by rw [yf];exact h1
 by_cases h2:bs.length<sep.length
 ·have d1:decide ((bs.length:Int)<(sep.length:Int))=true:=yd (by omega)
  have d2:decide (bs.length<sep.length)=true:=yd h2
  rw [lastW_gt h2] at hV
  have HV:=yb hV
  clear hV hr hs h1 h2
  generalize bs.length=N at *
  generalize sep.length=M at *
  go_enter Tryz.func56,Tryz.ntmps56
  go_wp2
  go_ret
  exact ⟨by rw [HV.out];rfl,Below.refl _ _⟩
 have d1:decide ((bs.length:Int)<(sep.length:Int))=false:=ye (by omega)
 have d2:decide (bs.length<sep.length)=false:=ye h2
 obtain ⟨b,o,rfl,-,-⟩:=hr.at 0 0 (by omega)
 obtain ⟨b2,o2,rfl,-,-⟩:=hs.at 0 0 (by omega)
 have HK:=yb (lastrk_any b o cap b2 o2 c2 (mkB bs) (mkB sep) (by rw [zbN];omega) (by rw [zbN,zbN];omega) (by rw [zbN];omega) w (zgC hr) (zgC hs) (by rw [zbN];exact hr.2.1))
 have hlk:Lib.lastIndex bs sep=zcU (zcN sep bs):=by rw [lastW_is];cases zcN sep bs<;>rfl
 rw [zbN,zbN,show (mkB bs).data.toList=bs from rfl,show (mkB sep).data.toList=sep from rfl,hlk,<-hV] at HK
 clear hlk
 clear hV hr hs h1 h2
 generalize bs.length=N at *
 generalize sep.length=M at *
 go_enter Tryz.func56,Tryz.ntmps56
 go_wp2_with (go_at_call 94;refine HK.out.mono ?_;rintro e w' ⟨rfl,q,rfl⟩)
 go_ret
 exact ⟨rfl,zah (Below.refl _ _) q⟩
def startN (L:Nat) (S:Tk×Int×Int×Int):Int×Int×Int:=if S.2.2.2≠0\/S.1.vn<0\/(L:Int)<=S.1.vn then (0,0,22) else (S.1.vn,0,0)
theorem start_one (L:Nat) (V:Tk×Int×Int×Int):(if V.2.2.2≠0\/zaH V.1=false\/V.1.vn<0\/(L:Int)<=V.1.vn then ((0:Int),(0:Int),(22:Int)) else (V.1.vn,0,0))=startN L (oneW zaH V):=by
 unfold startN oneW
 by_cases he:V.2.2.2≠0
 ·rw [yg (.inl he),yg he,yg (.inl he)]
 rw [yh he]
 by_cases hk:V.1.kind=0
 ·have hw:zaH V.1=false:=by unfold zaH;rw [hk];rfl
  rw [yg (.inr (.inl hw)),yg hk,yg (.inl (by decide))]
 rw [yh hk]
 by_cases hw:zaH V.1=false
 ·rw [yg (.inr (.inl hw)),yg hw,yg (.inl (by decide))]
 rw [yh hw]
 by_cases hr:V.1.vn<0\/(L:Int)<=V.1.vn
 ·rw [yg (.inr (.inr hr)),yg (.inr hr)]
 ·rw [yh (by rintro (h|h|h);exact he h;exact hw h;exact hr h),yh (by rintro (h|h);exact h rfl;exact hr h)]
theorem zfC {bs:List UInt8} {kn:List Bool} (h:zaU kn (bs.length-64)<bs.length):zbj bs kn=(0,((zaU kn (bs.length-64):Nat):Int),6):=by unfold zbj;rw [yg h]
theorem zfK {bs:List UInt8} {kn:List Bool} (h:¬zaU kn (bs.length-64)<bs.length) (hk:zcN zbv (bs.drop (bs.length-64))=none):zbj bs kn=(0,0,22):=by unfold zbj;rw [yh h,hk]
theorem zfh {bs:List UInt8} {kn:List Bool} (h:¬zaU kn (bs.length-64)<bs.length) (hk:zcN zbv (bs.drop (bs.length-64))=some k):zbj bs kn=startN bs.length (oneW zaH (zal (bs.drop (bs.length-64)) ((k:Int)+9) true)):=by
 rw [<-start_one];unfold zbj;rw [yh h,hk]
def zeW (w:World) (V:Int×Int×Int) (e:Ending) (w':World):Prop:=e=.returned (.tuple #[.int .i64 V.1,.int .i64 V.2.1,.int .i64 V.2.2])/\Below w.heap.size w w'
theorem start_any {w:World} {bs:List UInt8} {kn:List Bool} (h:SrcI w p bs kn) (hl:bs.length<=390000) :
  Calls Tryz.prog 20 #[.pointer (some ⟨p,0,none⟩)] w (zeW w (zbj bs kn)):=by
 obtain ⟨fr,hfr⟩:∃fr,fr=bs.length-64:=⟨_,rfl⟩
 have HT:=yb h.total
 have HF:=yb (fun W hb=>h.first W hb fr (by omega))
 have HR:=yb (fun W hb=>h.read W hb fr 64 (by omega) (by omega) (by omega))
 have hmx:max (0:Int) ((bs.length:Int)-64)=(fr:Int):=by omega
 obtain ⟨n1,n2⟩:=zdf (kn:=kn) (a:=fr) (by have:=h.len;omega)
 rw [h.len] at n2
 have HS1:=yb (fun h=>zfC (bs:=bs) (kn:=kn) h)
 have HS2:=yb (fun h hk=>zfK (bs:=bs) (kn:=kn) h hk)
 have HS3:=yb (fun k h hk=>zfh (bs:=bs) (kn:=kn) h (k:=k) hk)
 rw [<-hfr] at HS1 HS2 HS3
 have HFR:=yb hfr
 obtain ⟨V,hV⟩:∃V,V=zbj bs kn:=⟨_,rfl⟩
 rw [<-hV] at HS1 HS2 HS3 |-
 have hcv:=fun (W:World) (C:Array Value) (n c:Nat)=>Lib.run_convert_bytes_const (P:=Tryz.prog) W 22 5 C n c Tryz.underlying22 Tryz.underlying5
 unfold zeD at HR
 generalize zaU kn fr=n at *
 clear h hV hfr
 have HT0:=yb (HT.out _ (Below.refl _ _))
 have HR0:=yb (HR.out _ (Below.refl _ _))
 go_enter Tryz.func20,Tryz.ntmps20
 go_wp2_with fail
 refine HT0.out.mono ?_
 rintro e w1 ⟨rfl,rfl⟩
 go_wp2_with fail
 refine HR0.out.mono ?_
 rintro e w2 ⟨ba,bc,rfl,hrow,hb2⟩
 have HB2:=yb hb2
 clear hb2 HT0 HR0 HR
 by_cases hn:n=bs.length
 case neg =>
  have hq:(n==bs.length)=false:=by rw [yf];exact hn
  have HE:=yb (HS1.out (by omega))
  have HF2:=yb (HF.out _ HB2.out)
  clear HS1 HS2 HS3 HF HT hrow hcv hn
  rw [hq]
  generalize (List.take (n-fr) (List.drop fr bs)).length=L at *
  go_wp2_with fail
  refine HF2.out.mono ?_
  rintro e w3 ⟨rfl,hb3⟩
  have HB3:=yo HB2 hb3
  clear hb3
  go_wp2
  go_ret3
  rw [HE.out]
  exact ⟨rfl,HB3.out⟩
 have HNN:=yb (show ¬n<bs.length by omega)
 have HCS:=yb (show (bs.drop fr).take (n-fr)=bs.drop fr by rw [List.take_of_length_le (by rw [ym];omega)])
 rw [HCS.out] at hrow
 rw [HCS.out,show (n==bs.length)=true by rw [beq_iff_eq];exact hn]
 have HDL:=yb (show (bs.drop fr).length<=390000 by rw [ym];omega)
 have HDE:=yb (ym (i:=fr) (l:=bs))
 clear HCS hn HF HS1
 generalize bs.drop fr=cs at *
 have HRW:=yb hrow
 have HLI:=yb (zgU (w:=w2.alloc (.cells (zbv.map u8C).toArray 5 (zbv.length,zbv.length+1))) (hrow.mono (zam _ _)) (row_bsX (w:=w2) zbv 5 (by decide)) (by have:=HDL.out;omega) (by decide) (by decide))
 have HB3:=yb (HB2.out.alloc HB2.out.size (.cells (zbv.map u8C).toArray 5 (zbv.length,zbv.length+1)))
 have HA3:=yb (zam w2 (.cells (zbv.map u8C).toArray 5 (zbv.length,zbv.length+1)))
 clear hrow
 go_wp2_with fail
 refine HLI.out.mono ?_
 rintro e w3 ⟨rfl,hb3⟩
 have HB4:=yo HB3 hb3
 have HX4:=yo HA3 hb3
 clear hb3 HB3 HA3 HLI hcv
 cases hlw:zcN zbv cs with
 | none =>
  have HE:=yb (HS2.out HNN.out hlw)
  clear HS2 HS3 hlw
  unfold zcU
  go_wp2
  go_ret3
  rw [HE.out]
  exact ⟨rfl,HB4.out⟩
 | some k =>
  have HE:=yb (HS3.out k HNN.out hlw)
  have hkl:=lastW_le hlw
  have hd0:decide ((k:Int)<0)=false:=ye (by omega)
  have hk9:k<=390000:=by have:=HDL.out;omega
  have HN:=yb (pnumber_any (HRW.out.mono HX4.out) (by have:=HDL.out;omega) ((k:Int)+9) true)
  have HT4:=yb (fun (W:World) (hb:Below w3.heap.size w3 W)=>HT.out W (HB4.out.trans (hb.mono HB4.out.size)))
  generalize oneW zaH (zal cs ((k:Int)+9) true)=S at *
  clear HS2 HS3 hlw HT hkl HRW
  obtain ⟨x,f,t,er⟩:=S
  unfold zdK at HN
  unfold startN at HE
  simp only at HN HE
  unfold zcU
  simp only
  generalize x.vn=xn at *
  go_wp2_with fail
  refine HN.out.mono ?_
  rintro e w5 ⟨rfl,hb5⟩
  have HB5:=yo HB4 hb5
  have HT5:=yb (HT4.out w5 hb5)
  clear hb5 HT4 HN
  by_cases he:er=0
  case neg =>
   have HE2:=yb (HE.out.trans (yg (.inl he)))
   have e0:(er==0)=false:=by rw [yf];exact he
   have e1:(er != 0)=true:=by simp only [bne,e0,yj]
   clear HE he
   go_wp2
   go_ret3
   rw [HE2.out]
   exact ⟨rfl,HB5.out⟩
  subst he
  by_cases h1:xn<0
  ·have HE2:=yb (HE.out.trans (yg (.inr (.inl h1))))
   have d1:decide (xn<0)=true:=yd h1
   clear HE h1
   go_wp2
   go_ret3
   rw [HE2.out]
   exact ⟨rfl,HB5.out⟩
  have d1:decide (xn<0)=false:=ye h1
  by_cases h2:(bs.length:Int)<=xn
  ·have HE2:=yb (HE.out.trans (yg (.inr (.inr h2))))
   have d2:decide ((bs.length:Int)<=xn)=true:=yd h2
   clear HE h2 h1
   go_wp2_with (go_at_call 54;refine HT5.out.mono ?_;rintro e w6 ⟨rfl,rfl⟩)
   go_ret3
   rw [HE2.out]
   exact ⟨rfl,HB5.out⟩
  have d2:decide ((bs.length:Int)<=xn)=false:=ye h2
  have HE2:=yb (HE.out.trans (yh (by rintro (h|h|h);exact h rfl;exact h1 h;exact h2 h)))
  clear HE h1 h2
  go_wp2_with (go_at_call 54;refine HT5.out.mono ?_;rintro e w6 ⟨rfl,rfl⟩)
  go_ret3
  rw [HE2.out]
  exact ⟨rfl,HB5.out⟩
theorem entsV_len {bs:List UInt8} {yq:Bool}:∀(n k:Nat) (l:List Ent),(zb5 bs yq n k l).1.length<=l.length+n
 | 0,_,_=>yp _
 | n+1,k,l=>by
  unfold zb5
  split
  ·simp
  ·have:=entsV_len (bs:=bs) (yq:=yq) n (entV bs yq k).2.1 (l++[(entV bs yq k).1])
   simp only [List.length_append,List.length_singleton] at this
   omega
theorem zfc {bs:List UInt8} {yq:Bool}:∀(g:Nat) (gs:List Grp) (k:Int),zgG gs->zgG (zbF bs yq g gs k).1
 | 0,_,_,_=>fun x hx=>(by cases hx)
 | g+1,gs,k,h=>by
  unfold zbF
  simp only
  split
  ·exact fun x hx=>(by cases hx)
  split
  ·exact h
  split
  ·exact fun x hx=>(by cases hx)
  split
  ·exact fun x hx=>(by cases hx)
  split
  ·exact fun x hx=>(by cases hx)
  rename_i hf
  split
  ·exact fun x hx=>(by cases hx)
  ·refine zfc g _ _ ?_
   intro x hx
   rcases List.mem_append.1 hx with h1|h1
   ·exact h x h1
   ·rcases List.mem_singleton.1 h1 with rfl
    have hft:zdb (nxtV bs yq k).1.vn (nxtV bs yq (nxtV bs yq k).2.2.1).1.vn=true:=by
     cases hq:zdb (nxtV bs yq k).1.vn (nxtV bs yq (nxtV bs yq k).2.2.1).1.vn with
     | true=>rfl
     | false=>exact absurd (.inr (.inr hq)) hf
    unfold zdb at hft
    simp only [Bool.and_eq_true,decide_eq_true_eq] at hft
    refine ⟨by show _<=(nxtV bs yq k).1.vn;omega,by show (nxtV bs yq k).1.vn<=_;omega,?_⟩
    have h9:=entsV_len (bs:=bs) (yq:=yq) (nxtV bs yq (nxtV bs yq k).2.2.1).1.vn.toNat (nxtV bs yq (nxtV bs yq k).2.2.1).2.2.1.toNat []
    simp only [List.length_nil] at h9
    show (zb5 bs yq _ _ []).1.length<=100000
    omega
theorem sec_small {bs:List UInt8} {k:Int}:zgG (secV bs yq k).1.gs:=by
 unfold secV
 simp only
 split
 ·exact fun x hx=>(by cases hx)
 split
 ·exact fun x hx=>(by cases hx)
 split
 ·exact fun x hx=>(by cases hx)
 split
 ·exact fun x hx=>(by cases hx)
 ·exact zfc 65 [] _ (fun x hx=>(by cases hx))
theorem ze9 {bs:List UInt8} {kn:List Bool}:∀(g:Nat) (rd:List Int) (l:List Sec) (a:Int),zfS l->evenL l->zfS (zcf bs kn g rd l a).1/\evenL (zcf bs kn g rd l a).1
 | 0,_,_,_,_,_=>⟨fun x hx=>(by cases hx),fun x hx=>(by cases hx)⟩
 | g+1,rd,l,a,h1,h2=>by
  rw [zei]
  split
  ·exact ⟨fun x hx=>(by cases hx),fun x hx=>(by cases hx)⟩
  split
  ·exact ⟨fun x hx=>(by cases hx),fun x hx=>(by cases hx)⟩
  split
  ·exact ⟨fun x hx=>(by cases hx),fun x hx=>(by cases hx)⟩
  split
  ·exact ⟨fun x hx=>(by cases hx),fun x hx=>(by cases hx)⟩
  rename_i he
  have he0:(zc8 bs kn a.toNat).2.2=0:=by omega
  have hl1:zfS (l++[(zc8 bs kn a.toNat).1]):=fun x hx=>by
   rcases List.mem_append.1 hx with h|h
   ·exact h1 x h
   ·rcases List.mem_singleton.1 h with rfl
    exact sec_small
  have hl2:evenL (l++[(zc8 bs kn a.toNat).1]):=fun x hx h7=>by
   rcases List.mem_append.1 hx with h|h
   ·exact h2 x h h7
   ·rcases List.mem_singleton.1 h with rfl
    exact (zhi he0).2
  split
  ·exact ⟨hl1,hl2⟩
  ·split
   ·exact ⟨fun x hx=>(by cases hx),fun x hx=>(by cases hx)⟩
   ·exact ze9 g _ _ _ hl1 hl2
def zgK (w:World) (V:Tab×Int×Int) (e:Ending) (w':World):Prop :=
 ∃pa pc,e=.returned (.tuple #[.agg #[.slice pa V.1.ps.length pc,.int .i64 V.1.root],.int .i64 V.2.1,.int .i64 V.2.2])/\Row w' 1 pa V.1.ps.length pc (V.1.ps.map (Value.int .i64))/\(∀x,pa=some x->w.heap.size<=x.block)/\Below w.heap.size w w'
theorem zhm {w:World} {V:Tab×Int×Int} {n e:Int} (hV:V=({},n,e)) (hb:Below w.heap.size w W) (hr:w.heap.size<=r) (y0 y1:Value) :
  zgK w V (.returned (.tuple #[.agg #[.slice none 0 0,.int .i64 0],.int .i64 n,.int .i64 e])) ((W.setCell ⟨r,0,none⟩ y0).setCell ⟨r,1,none⟩ y1):=by
 subst hV
 exact ⟨none,0,rfl,Row.nil _ 1,fun x hx=>(by cases hx),(hb.setCell (p:=⟨r,0,none⟩) hr _).setCell (p:=⟨r,1,none⟩) hr _⟩
theorem loadV_def (bs:List UInt8) (kn:List Bool):loadV bs kn=if (zbj bs kn).2.2≠0 then ({},(zbj bs kn).2.1,(zbj bs kn).2.2)
  else if (zcf bs kn 33 [] [] (zbj bs kn).1).2.2≠0 then ({},(zcf bs kn 33 [] [] (zbj bs kn).1).2.1,(zcf bs kn 33 [] [] (zbj bs kn).1).2.2)
  else ((tabV (zcf bs kn 33 [] [] (zbj bs kn).1).1).1,0,(tabV (zcf bs kn 33 [] [] (zbj bs kn).1).1).2):=rfl
theorem load_any {w:World} {bs:List UInt8} {kn:List Bool} (h:SrcI w p bs kn) (hl:bs.length<=390000):Calls Tryz.prog 36 #[.pointer (some ⟨p,0,none⟩)] w (zgK w (loadV bs kn)):=by
 have HI:=yb h
 have HS:=yb (fun (W:World) (hb:Below w.heap.size w W)=>start_any (h.mono hb) hl)
 have HQ:=yb (fun (W:World) (hb:Below w.heap.size w W) (k:Int)=>zeP (h.mono hb) hl k)
 obtain ⟨hg1,hg2⟩:=ze9 (bs:=bs) (kn:=kn) 33 [] [] (zbj bs kn).1 (fun x hx=>(by cases hx)) (fun x hx=>(by cases hx))
 have HG:=yb (And.intro hg1 hg2)
 obtain ⟨V,hV⟩:∃V,V=loadV bs kn:=⟨_,rfl⟩
 rw [<-hV]
 rw [loadV_def] at hV
 have HV:=yb hV
 unfold zeW at HS
 clear h hV hg1 hg2
 generalize zbj bs kn=A at *
 obtain ⟨sa,sn,se⟩:=A
 simp only at HV HS HG
 have HQ1:=yb (fun (W:World) (hb:Below w.heap.size w W)=>HQ.out W hb sa)
 clear HQ
 generalize zcf bs kn 33 [] [] sa=D at *
 obtain ⟨l,ln,le⟩:=D
 unfold zfJ at HQ1
 simp only at HV HQ1 HG
 obtain ⟨r,hr⟩:∃r,r=w.heap.size:=⟨_,rfl⟩
 have HZ1:=yb (zac (w:=w) (b:=r) (.cells #[.slice none 0 0,.int .i64 0] 74) hr)
 have HB1:=yb (zam w (.cells #[.slice none 0 0,.int .i64 0] 74))
 have HRW:=yb (Nat.le_of_eq hr.symm)
 go_enter Tryz.func36,Tryz.ntmps36
 go_upto_region 1 with fail
 try rw [<-hr]
 clear hr
 generalize w.alloc _=W1 at *
 have HS1:=yb (HS.out _ HB1.out)
 clear HS
 go_wp2_with fail
 refine HS1.out.mono ?_
 rintro e w2 ⟨rfl,hb2⟩
 have HZ2:=yb (zab hb2 HZ1.out)
 have HB2:=yo HB1 hb2
 clear hb2 HZ1 HB1 HS1
 obtain ⟨⟨z0,z1⟩,y0,y1⟩:=zaA HZ2.out
 by_cases hse:se=0
 case neg =>
  have HE:=yb (HV.out.trans (yg hse))
  have e0:(se==0)=false:=by rw [yf];exact hse
  have e1:(se != 0)=true:=by simp only [bne,e0,yj]
  clear hse HV HG
  go_wp2_with fail
  refine yi (zae rfl _ _ r 74 _ (0,0) _ rfl (by exact zbW HZ2.out _ _) Tryz.underlying74 rfl (by exact zcP) _ _ rfl rfl) rfl ?_
  exact zhm HE.out HB2.out HRW.out _ _
 subst hse
 have HV2:=yb (HV.out.trans (yh (fun h=>h rfl)))
 have HQ2:=yb (HQ1.out _ HB2.out)
 clear HV HQ1
 go_wp2_with fail
 refine HQ2.out.mono ?_
 rintro e w3 ⟨lv,rfl,hlv,hb3⟩
 obtain ⟨la,lc,rfl,-,-,-⟩:=hlv.len
 have HZ3:=yb (zab hb3 HZ2.out)
 have HB3:=yo HB2 hb3
 have HO:=yb (of_any hlv HG.out.1 HG.out.2)
 clear hb3 HZ2 HB2 HQ2 z0 z1 y0 y1 hlv HG
 obtain ⟨⟨z0,z1⟩,y0,y1⟩:=zaA HZ3.out
 by_cases hle:le=0
 case neg =>
  have HE:=yb (HV2.out.trans (yg hle))
  have e0:(le==0)=false:=by rw [yf];exact hle
  have e1:(le != 0)=true:=by simp only [bne,e0,yj]
  clear hle HV2 HO
  go_wp2_with fail
  refine yi (zae rfl _ _ r 74 _ (0,0) _ rfl (by exact zbW HZ3.out _ _) Tryz.underlying74 rfl (by exact zcP) _ _ rfl rfl) rfl ?_
  exact zhm HE.out HB3.out HRW.out _ _
 subst hle
 have HE:=yb (HV2.out.trans (yh (fun h=>h rfl)))
 clear HV2
 generalize tabV l=T at *
 obtain ⟨⟨ps,root⟩,te⟩:=T
 unfold OfEnd at HO
 simp only at HE HO
 go_wp2_with fail
 refine HO.out.mono ?_
 rintro e w4 ⟨pa,pc,rfl,hrow,hpb,hb4⟩
 have hb4a:=hb4.alloc hb4.size (.cells #[.slice pa ps.length pc,.int .i64 root] 74)
 have HT4:=yb (zac (w:=w4) (b:=w4.heap.size) (.cells #[.slice pa ps.length pc,.int .i64 root] 74) rfl)
 have HZ4:=yb (zab hb4a HZ3.out)
 have HB4:=yo HB3 hb4a
 have HR4:=yb (hrow.mono (zam w4 (.cells #[.slice pa ps.length pc,.int .i64 root] 74)))
 have HPB:=yb (show ∀x,pa=some x->w.heap.size<=x.block/\x.block≠r from fun x hx=>by have h1:=hpb x hx;have h2:=HB3.out.size;have h3:=zai HZ3.out;omega)
 clear hb4 hb4a HZ3 HB3 HO z0 z1 y0 y1 hpb
 go_upto_region 8 with fail
 generalize w4.heap.size=T4 at *
 generalize World.alloc _ _=W4 at *
 obtain ⟨⟨z0,z1⟩,y0,y1⟩:=zaA HZ4.out
 obtain ⟨⟨t0,t1⟩,-⟩:=zaA HT4.out
 go_wp2_with fail
 refine yi (zae rfl _ _ r 74 _ (0,0) _ rfl (by exact zbW HZ4.out _ _) Tryz.underlying74 rfl (by exact zcP) _ _ rfl rfl) rfl ?_
 rw [HE.out]
 refine ⟨pa,pc,rfl,?_,fun x hx=>(HPB.out x hx).1,(HB4.out.setCell (p:=⟨r,0,none⟩) HRW.out _).setCell (p:=⟨r,1,none⟩) HRW.out _⟩
 exact HR4.out.stays (F:=fun b=>b≠r) ⟨by simp [World.setCell],fun b _ hb=>by rw [heap_setCell_other _ _ _ _ hb,heap_setCell_other _ _ _ _ hb]⟩ (fun _ x hx=>(HPB.out x hx).2)
theorem zbV:(Tryz.prog.info? 78).map (·.size)=some 2:=by kernel_rfl
theorem table_any (a:Option Addr) (n c:Nat) (r0:Int) (w:World):Calls Tryz.prog 35 #[.agg #[.slice a n c,.int .i64 r0]] w fun e w'=>e=.returned (.agg #[.slice a n c,.int .i64 r0])/\Below w.heap.size w w':=by
 obtain ⟨B,hB⟩:∃B,B=w.heap.size:=⟨_,rfl⟩
 have HB1:=yb (zbm w (.cells #[.slice a n c,.int .i64 r0] 74) (.cells #[.slice none 0 0,.int .i64 0] 78))
 have HX1:=yb (zak (w:=w.alloc (.cells #[.slice a n c,.int .i64 r0] 74)) (.cells #[.slice none 0 0,.int .i64 0] 78) (zac (w:=w) (b:=B) (.cells #[.slice a n c,.int .i64 r0] 74) hB))
 have HY1:=yb (zac (w:=w.alloc (.cells #[.slice a n c,.int .i64 r0] 74)) (b:=B+1) (.cells #[.slice none 0 0,.int .i64 0] 78) (by rw [zan,hB]))
 have HW:=yb (show w.heap.size<=B+1 by omega)
 go_enter Tryz.func35,Tryz.ntmps35
 go_upto_region 1 with fail
 try rw [<-hB]
 generalize World.alloc _ _=W1 at *
 clear hB
 generalize B+1=B2 at *
 obtain ⟨⟨p0,p1⟩,-⟩:=zaA HX1.out
 obtain ⟨⟨q0,q1⟩,f0,f1⟩:=zaA HY1.out
 go_wp2_with fail
 refine yi (results_cell_row rfl _ _ B2 78 _ (0,0) _ rfl (by exact zbW HY1.out _ _) Tryz.underlying78 rfl (by exact zbV)) rfl ?_
 exact ⟨rfl,(HB1.out.setCell (p:=⟨B2,0,none⟩) HW.out _).setCell (p:=⟨B2,1,none⟩) HW.out _⟩
theorem tsame_eq {w:World} {a a2:Option Addr} {c:Nat} {ps:List Int} (h:Row w 1 a ps.length c (ps.map (Value.int .i64))) (h2:Row w 1 a2 ps.length c2 (ps.map (Value.int .i64))) (r0:Int) :
  Calls Tryz.prog 34 #[.agg #[.slice a ps.length c,.int .i64 r0],.agg #[.slice a2 ps.length c2,.int .i64 r0]] w fun e w'=>e=.returned (.bool true)/\Below w.heap.size w w':=by
 have hi:=h.i64
 have HB1:=yb (zbm w (.cells #[.slice a ps.length c,.int .i64 r0] 78) (.cells #[.slice a2 ps.length c2,.int .i64 r0] 78))
 have HA:=yb (h.mono HB1.out)
 have HA2:=yb (h2.mono HB1.out)
 obtain ⟨B,hB⟩:∃B,B=w.heap.size:=⟨_,rfl⟩
 have HX1:=yb (zak (w:=w.alloc (.cells #[.slice a ps.length c,.int .i64 r0] 78)) (.cells #[.slice a2 ps.length c2,.int .i64 r0] 78) (zac (w:=w) (b:=B) (.cells #[.slice a ps.length c,.int .i64 r0] 78) hB))
 have HY1:=yb (zac (w:=w.alloc (.cells #[.slice a ps.length c,.int .i64 r0] 78)) (b:=B+1) (.cells #[.slice a2 ps.length c2,.int .i64 r0] 78) (by rw [zan,hB]))
 have hll:((ps.length:Int)==(ps.length:Int))=true:=by simp
 have hrr:(r0==r0)=true:=by simp
 clear h h2
 go_enter Tryz.func34,Tryz.ntmps34
 go_upto_region 1 with fail
 try rw [<-hB]
 generalize World.alloc _ _=W1 at *
 clear hB
 generalize B+1=B2 at *
 obtain ⟨⟨p0,p1⟩,-⟩:=zaA HX1.out
 obtain ⟨⟨q0,q1⟩,-⟩:=zaA HY1.out
 go_wp2_with fail
 go_loopw [5] (fun v wr=>∃k:Nat,v=.int .i64 k/\k<=ps.length/\Hid (Below W1.heap.size W1 wr)) (fun v _=>ps.length-(intOf v).toNat)
 case atStart=>exact ⟨0,rfl,Nat.zero_le _,yb (Below.refl _ _)⟩
 case round =>
  obtain ⟨k,rfl,hk,HBR⟩:=hrel
  have p0':=cell?_keep HBR.out p0
  have q0':=cell?_keep HBR.out q0
  by_cases hlt:k<ps.length
  ·have hcd:decide ((k:Int)<(ps.length:Int))=true:=yd (by omega)
   have hcd2:decide (k<ps.length)=true:=yd hlt
   obtain ⟨b,o,rfl,-,hc⟩:=(HA.out.mono HBR.out).at 0 k hlt
   obtain ⟨b2,o2,rfl,-,hc2⟩:=(HA2.out.mono HBR.out).at 0 k hlt
   have c0:=hc k hlt
   have d0:=hc2 k hlt
   clear hc hc2
   generalize ps.getD k 0=x at *
   have hxx:(x==x)=true:=by simp
   have hxn:(x != x)=false:=by simp
   have hki:(k:Int)<(ps.length:Int):=by omega
   go_wp2_with fail
   go_quiet (fail)
   go_wp2
   go_roundw
   case rel=>exact ⟨k+1,by go_num,by omega,yb (zah HBR.out _)⟩
   case measure=>simp [intOf];omega
  ·have hcd:decide ((k:Int)<(ps.length:Int))=false:=ye (by omega)
   have hcd2:decide (k<ps.length)=false:=ye hlt
   go_wp2_with fail
   go_ret
   exact ⟨rfl,HB1.out.trans (HBR.out.mono HB1.out.size)⟩
end Go.Proofs.YtfafdeemfeaedaaGreat
namespace Go.Proofs.YtfafdeemfeaedaaGreat
open Go.RowKit Go.Maps Go.ChangeMaps
def blkV (g:Nat):Value:=.slice (some ⟨g,0,none⟩) 4096 4096
def RB (v:Value):Option (DataW Nat×List MemPlace):=match v with
 | .slice none n c=>if n=0/\c=0 then some (.nil,[]) else none
 | .slice (some ad) n c=>if ad=⟨ad.block,0,none⟩/\n=4096/\c=4096 then some (.lit (.int .i64 ad.block),[]) else none
 | _=>none
theorem RB_blk (g:Nat):RB (blkV g)=some (.lit (.int .i64 g),[]):=by unfold RB blkV;simp
theorem RB_inv {v:Value} {ps:List MemPlace} (h:RB v=some (.lit (.int .i64 g),ps)):v=blkV g:=by
 unfold RB at h
 split at h
 ·split at h<;>simp at h
 ·rename_i ad n c
  split at h
  ·rename_i hc
   simp at h
   obtain ⟨h1,rfl,rfl⟩:=hc
   obtain ⟨b,o,s⟩:=ad
   simp at h1 h
   obtain ⟨rfl,rfl⟩:=h1
   obtain ⟨h2,-⟩:=h
   have:b=g:=by omega
   subst this;rfl
  ·cases h
 ·cases h
theorem lawK:Keyed Tryz.prog 3:=int_keyed Tryz.underlying3
theorem zeroB (w:World):(zeroValue 22).run Tryz.prog w=.ok (.slice none 0 0) w:=by kernel_rfl
def i64K (k:Int):Prop:=-9223372036854775808<=k/\k<=9223372036854775807
theorem i64K_wf {k:Int} (h:i64K k):(Lit.int .i64 k).wf=true:=by
 obtain ⟨h1,h2⟩:=h
 simp [Lit.wf,IntKind.min,IntKind.max,IntKind.signed,IntKind.bits];omega
theorem keyI {k:Int} (h:i64K k):keyOf Tryz.prog 3 (.int .i64 k)=some (.int .i64 k):=keyOf_int_mk Tryz.underlying3 (i64K_wf h)
def MapB (w:World) (mb n:Nat) (f:Int->Option Nat):Prop :=
 ∃D:DataW Nat,w.ownsMap Tryz.prog 3 RB mb n D/\IsMap D/\∀k,(f k=none->has D (.int .i64 k)=false)/\∀g,f k=some g->D.atKey (.int .i64 k) .nil=.lit (.int .i64 g)
theorem MapB.made (w:World):MapB (w.alloc (.map #[] 0)) w.heap.size 0 (fun _=>none) :=
 ⟨.map [],World.ownsMap_made w _ _ _,isMap_empty,fun k=>⟨fun _=>rfl,fun g h=>by cases h⟩⟩
theorem MapB.lt {w:World} {n:Nat} {f:Int->Option Nat} (h:MapB w mb n f):mb<w.heap.size:=by obtain ⟨D,h,-⟩:=h;exact h.lt
theorem MapB.mono {w:World} {n:Nat} {f:Int->Option Nat} (h:MapB w mb n f) (hm:n<=m):MapB w mb m f:=by obtain ⟨D,h,r⟩:=h;exact ⟨D,h.mono hm,r⟩
theorem MapB.keep {w:World} {n:Nat} {f:Int->Option Nat} (h:MapB w mb n f) (hb:w'.heap[mb]?=w.heap[mb]?):MapB w' mb n f:=by
 obtain ⟨D,⟨es,clock,h1,h2⟩,r⟩:=h
 exact ⟨D,⟨es,clock,hb.trans h1,h2⟩,r⟩
theorem MapB.look {w:World} {n:Nat} {f:Int->Option Nat} (h:MapB w mb n f) {k:Int} (hk:i64K k) (hf:f k=some g) (c:Bool) :
  (Instr.lookup 144 (.map (some mb)) (.int .i64 k) c).run Tryz.prog w=.ok (if c then .tuple #[blkV g,.bool true] else blkV g) w:=by
 obtain ⟨D,⟨es,clock,hb,F,hs,rfl⟩,hm,hD⟩:=h
 have hat:=(hD k).2 g hf
 rcases Maps.fit_look c lawK Tryz.underlying144 (zeroB w) hb F (keyI hk) with ⟨-,-,h0⟩|⟨e0,y,-,-,hrun,hRv,h1,-⟩
 ·rw [h0] at hat;cases hat
 ·have hy:=(h1 .nil).symm.trans hat
  have:e0.val=blkV g:=RB_inv (ps:=y.2) (by rw [hRv,<-hy])
  rw [hrun,this]
theorem MapB.look_no {w:World} {n:Nat} {f:Int->Option Nat} (h:MapB w mb n f) {k:Int} (hk:i64K k) (hf:f k=none) (c:Bool) :
  (Instr.lookup 144 (.map (some mb)) (.int .i64 k) c).run Tryz.prog w=.ok (if c then .tuple #[.slice none 0 0,.bool false] else .slice none 0 0) w:=by
 obtain ⟨D,⟨es,clock,hb,F,hs,rfl⟩,hm,hD⟩:=h
 have hat:=(hD k).1 hf
 rcases Maps.fit_look c lawK Tryz.underlying144 (zeroB w) hb F (keyI hk) with ⟨hrun,-,-⟩|⟨e0,y,-,-,-,-,h1,-⟩
 ·rw [hrun]
 ·rw [has_true_of_atKey h1] at hat;cases hat
theorem MapB.store {w:World} {n:Nat} {f:Int->Option Nat} (h:MapB w mb n f) {k:Int} (hk:i64K k) (g:Nat) (hn:n<maxLen) :
  ∃w',(Instr.mapUpdate 144 (.map (some mb)) (.int .i64 k) (blkV g)).run Tryz.prog w=.ok () w'/\MapB w' mb (n+1) (fun j=>if j=k then some g else f j)/\w.grownBy w' (some mb)/\w'.heap.size=w.heap.size:=by
 obtain ⟨D,ho,hm,hD⟩:=h
 obtain ⟨es,clock,hb,F,hs,hDe⟩:=ho
 obtain ⟨es',clock',hrun,F',hput,_⟩:=Maps.fit_store (R':=RB) lawK Tryz.underlying144 hb F (Nat.lt_of_le_of_lt hs hn) (fun _ _ _ _ hz=>hz) (keyI hk) (RB_blk g)
 obtain ⟨w1,hrun1,ho1,hg1⟩:=World.ownsMap.update (R:=RB) ⟨es,clock,hb,F,hs,hDe⟩ lawK Tryz.underlying144 hn (keyI hk) (RB_blk g)
 have hw1:w1=setBlock w mb (.map es' clock'):=by
  rw [hrun] at hrun1
  simp only [Result.ok.injEq] at hrun1
  exact hrun1.2.symm
 refine ⟨w1,hrun1,⟨D.put (.int .i64 k) (.lit (.int .i64 g)),ho1,hm.put _ _,fun j=>?_⟩,hg1,by rw [hw1];simp [setBlock]⟩
 by_cases hj:j=k
 ·subst hj
  refine ⟨fun h=>by simp at h,fun g' hg'=>?_⟩
  simp at hg'
  subst hg'
  exact atKey_put_same hm (by simp [WideAt.IsKeyLit]) _ _
 ·have hne:(Lit.int .i64 j)≠.int .i64 k:=fun e=>hj (by cases e;rfl)
  simp only [yh hj]
  exact ⟨fun h=>by rw [has_put_other hne];exact (hD j).1 h,fun g' hg'=>by rw [atKey_put_other hne];exact (hD j).2 g' hg'⟩
theorem zfk {w:World} {ops:Array Oper} {rest:List Oper} {o:Oper} {a:Act} {Q:Exit->Act->World->Prop} (hg:o.guard=none) (m x:Operand) (c:Bool) (hop:o.op=Op.lookup 144 m x c)
  {n:Nat} {f:Int->Option Nat} (h:MapB w mb n f) (hm:a.eval m=.map (some mb)) {k:Int} (hx:a.eval x=.int .i64 k) (hk:i64K k) (hf:f k=some g)
  (hK:wpList Tryz.prog ops Q rest (a.put o.dst (if c then .tuple #[blkV g,.bool true] else blkV g)) w):wpList Tryz.prog ops Q (o::rest) a w:=by
 refine wpList_plain hg fun K' hK'=>?_
 have hrun:=h.look hk hf c
 unfold Oper.wp
 simp [execOp,hop,hm,hx,hrun,Result.andThen]
 exact hK' _ _ hK
theorem zfU {w:World} {ops:Array Oper} {rest:List Oper} {o:Oper} {a:Act} {Q:Exit->Act->World->Prop} (hg:o.guard=none) (m x:Operand) (c:Bool) (hop:o.op=Op.lookup 144 m x c)
  {n:Nat} {f:Int->Option Nat} (h:MapB w mb n f) (hm:a.eval m=.map (some mb)) {k:Int} (hx:a.eval x=.int .i64 k) (hk:i64K k) (hf:f k=none)
  (hK:wpList Tryz.prog ops Q rest (a.put o.dst (if c then .tuple #[.slice none 0 0,.bool false] else .slice none 0 0)) w):wpList Tryz.prog ops Q (o::rest) a w:=by
 refine wpList_plain hg fun K' hK'=>?_
 have hrun:=h.look_no hk hf c
 unfold Oper.wp
 simp [execOp,hop,hm,hx,hrun,Result.andThen]
 exact hK' _ _ hK
theorem wpList_store {w:World} {ops:Array Oper} {rest:List Oper} {o:Oper} {a:Act} {Q:Exit->Act->World->Prop} (hg:o.guard=none) (m x v:Operand) (hop:o.op=Op.mapUpdate 144 m x v)
  {n:Nat} {f:Int->Option Nat} (h:MapB w mb n f) (hm:a.eval m=.map (some mb)) {k:Int} (hx:a.eval x=.int .i64 k) (hk:i64K k) (hv:a.eval v=blkV g) (hn:n<maxLen)
  (hK:∀w',MapB w' mb (n+1) (fun j=>if j=k then some g else f j)->w.grownBy w' (some mb)->w'.heap.size=w.heap.size->wpList Tryz.prog ops Q rest (a.put o.dst undef) w'):wpList Tryz.prog ops Q (o::rest) a w:=by
 refine wpList_plain hg fun K' hK'=>?_
 obtain ⟨w',hrun,h1,h2,h3⟩:=h.store hk g hn
 unfold Oper.wp
 simp [execOp,hop,hm,hx,hv,hrun,Result.andThen]
 exact hK' _ _ (hK w' h1 h2 h3)
theorem wpList_lookT {w:World} {ops:Array Oper} {rest:List Oper} {o:Oper} {a:Act} {Q:Exit->Act->World->Prop} (hg:o.guard=none) (m x:Operand) (hop:o.op=Op.lookup 144 m x true)
  {n:Nat} {f:Int->Option Nat} (h:MapB w mb n f) (hm:a.eval m=.map (some mb)) {k:Int} (hx:a.eval x=.int .i64 k) (hk:i64K k) (hf:f k=some g)
  (hK:wpList Tryz.prog ops Q rest (a.put o.dst (.tuple #[.slice (some ⟨g,0,none⟩) 4096 4096,.bool true])) w):wpList Tryz.prog ops Q (o::rest) a w:=zfk hg m x true hop h hm hx hk hf hK
theorem zfH {w:World} {ops:Array Oper} {rest:List Oper} {o:Oper} {a:Act} {Q:Exit->Act->World->Prop} (hg:o.guard=none) (m x:Operand) (hop:o.op=Op.lookup 144 m x true)
  {n:Nat} {f:Int->Option Nat} (h:MapB w mb n f) (hm:a.eval m=.map (some mb)) {k:Int} (hx:a.eval x=.int .i64 k) (hk:i64K k) (hf:f k=none)
  (hK:wpList Tryz.prog ops Q rest (a.put o.dst (.tuple #[.slice none 0 0,.bool false])) w):wpList Tryz.prog ops Q (o::rest) a w:=zfU hg m x true hop h hm hx hk hf hK
theorem wpList_lookF {w:World} {ops:Array Oper} {rest:List Oper} {o:Oper} {a:Act} {Q:Exit->Act->World->Prop} (hg:o.guard=none) (m x:Operand) (hop:o.op=Op.lookup 144 m x false)
  {n:Nat} {f:Int->Option Nat} (h:MapB w mb n f) (hm:a.eval m=.map (some mb)) {k:Int} (hx:a.eval x=.int .i64 k) (hk:i64K k) (hf:f k=some g)
  (hK:wpList Tryz.prog ops Q rest (a.put o.dst (.slice (some ⟨g,0,none⟩) 4096 4096)) w):wpList Tryz.prog ops Q (o::rest) a w:=zfk hg m x false hop h hm hx hk hf hK
end Go.Proofs.YtfafdeemfeaedaaGreat
namespace Go.Proofs.YtfafdeemfeaedaaGreat
open Go.RowKit Go.Maps
def putC (C:Nat->UInt8) (at_:Nat) (l:List UInt8):Nat->UInt8:=fun i=>if at_<=i/\i<at_+l.length then l.getD (i-at_) 0 else C i
theorem putC_nil (C:Nat->UInt8) (at_:Nat):putC C at_ []=C:=by funext i;unfold putC;rw [yh (by simp only [List.length_nil];omega)]
theorem putC_two (C:Nat->UInt8) (at_ m:Nat) (l:List UInt8) (hm:m<=l.length):putC (putC C at_ (l.take m)) (at_+m) (l.drop m)=putC C at_ l:=by
 funext i
 unfold putC
 simp only [ym,List.length_take]
 by_cases h1:at_+m<=i/\i<at_+m+(l.length-m)
 ·rw [yg h1,yg (by omega),List.getD_eq_getElem?_getD,List.getElem?_drop,List.getD_eq_getElem?_getD,show m+(i-(at_+m))=i-at_ by omega]
 ·rw [yh h1]
  by_cases h2:at_<=i/\i<at_+min m l.length
  ·rw [yg h2,yg (by omega),List.getD_eq_getElem?_getD,List.getElem?_take,yg (by omega),List.getD_eq_getElem?_getD]
  ·rw [yh h2,yh (by omega)]
structure Mem (w:World) (mb n:Nat) (f:Int->Option Nat) (C:Nat->UInt8):Prop where
 map:MapB w mb n f
 blk:∀(k g:Nat),f k=some g->w.heap[g]?=some (.cells (fl 4096 (fun i=>u8C (C (4096*k+i)))).toArray 5 (0,0))
 inj:∀(k k' g:Nat),f k=some g->f k'=some g->k=k'
 zero:∀(k i:Nat),f k=none->i<4096->C (4096*k+i)=0
def MemS (mb:Nat) (f:Int->Option Nat) (b:Nat):Prop:=b=mb\/∃k:Nat,f k=some b
theorem Mem.lt {w:World} {n:Nat} {f:Int->Option Nat} {C:Nat->UInt8} (h:Mem w mb n f C):∀b,MemS mb f b->b<w.heap.size:=by
 rintro b (rfl|⟨k,hk⟩)
 ·exact h.map.lt
 ·exact (Array.getElem?_eq_some_iff.1 (h.blk k b hk)).1
theorem Mem.keeps {w:World} {n:Nat} {f:Int->Option Nat} {C:Nat->UInt8} (h:Mem w mb n f C) (hk:zaj U w w') (hU:∀b,MemS mb f b->¬U b):Mem w' mb n f C :=
 ⟨h.map.keep (hk.block mb h.map.lt (hU mb (.inl rfl))),fun k g hf=>hk.obj (h.blk k g hf) (hU g (.inr ⟨k,hf⟩)),h.inj,h.zero⟩
theorem Mem.below {w:World} {n:Nat} {f:Int->Option Nat} {C:Nat->UInt8} (h:Mem w mb n f C) (hb:Below w.heap.size w w'):Mem w' mb n f C :=
 h.keeps (zaj.of_below (S:=fun b=>w.heap.size<=b) hb (fun _ h=>h)) (fun b hb2 hn=>by have:=h.lt b hb2;omega)
theorem Mem.mbne {w:World} {n:Nat} {f:Int->Option Nat} {C:Nat->UInt8} (h:Mem w mb n f C) (hf:f k=some g):g≠mb:=by
 rintro rfl
 obtain ⟨D,⟨es,clock,hb,-⟩,-⟩:=h.map
 have:=h.blk k g hf
 rw [hb] at this
 cases this
theorem Mem.made (w:World):Mem (w.alloc (.map #[] 0)) w.heap.size 0 (fun _=>none) (fun _=>0) :=
 ⟨MapB.made w,fun k g h=>(by cases h),fun k k' g h=>(by cases h),fun _ _ _ _=>rfl⟩
theorem Mem.mono {w:World} {n:Nat} {f:Int->Option Nat} {C:Nat->UInt8} (h:Mem w mb n f C) (hm:n<=m):Mem w mb m f C:=⟨h.map.mono hm,h.blk,h.inj,h.zero⟩
theorem Mem.more {w:World} {n:Nat} {f:Int->Option Nat} {C:Nat->UInt8} (h:Mem w mb n f C) (hf:f k=none) (hb1:Below w.heap.size w w1) (hs1:w.heap.size<w1.heap.size)
  (hO:w1.ownsRow w.heap.size 5 1 (blkV w.heap.size) 4096 (List.replicate 4096 (.int .u8 0)))
  (hm:MapB w2 mb (n+1) (fun j=>if j=(k:Int) then some w.heap.size else f j)) (hg:w1.grownBy w2 (some mb)) :
  Mem w2 mb (n+1) (fun j=>if j=(k:Int) then some w.heap.size else f j) C:=by
 have hnb:w1.heap[w.heap.size]?=some (.cells (fl 4096 (fun i=>u8C (C (4096*k+i)))).toArray 5 (0,0)):=by
  rcases hO.2 with ⟨hv,h0⟩|⟨g,cap,cur,hv,-,hg,-,hm',hcs,ht⟩
  ·cases hv
  ·unfold blkV at hv
   simp only [Value.slice.injEq,Option.some.injEq,Addr.mk.injEq] at hv
   obtain ⟨⟨rfl,-,-⟩,-,rfl⟩:=hv
   rw [hg]
   have hz:fl 4096 (fun i=>u8C (C (4096*k+i)))=List.replicate 4096 (.int .u8 0):=by
    rw [zeK]
    exact zdG fun i hi=>by rw [h.zero k i hf hi];rfl
   have hc:cur=(List.replicate 4096 (Value.int .u8 0)).toArray:=by
    apply Array.ext'
    rw [<-ht,List.take_of_length_le (by simp;omega)]
   rw [hz,hc]
 have hmb:=h.map.lt
 refine ⟨hm,fun j g hj=>?_,fun j j' g h1 h2=>?_,fun j i hj hi=>?_⟩
 ·by_cases e:(j:Int)=k
  ·rw [yg e] at hj
   obtain rfl:w.heap.size=g:=Option.some.inj hj
   obtain rfl:j=k:=by omega
   exact (hg.block _ (by omega) (fun e=>by have:=Option.some.inj e;omega)).trans hnb
  ·rw [yh e] at hj
   have hgl:=h.lt g (.inr ⟨j,hj⟩)
   exact (hg.block g (by omega) (fun e=>h.mbne hj (Option.some.inj e))).trans ((hb1.block g hgl).trans (h.blk j g hj))
 ·by_cases e1:(j:Int)=k
  ·by_cases e2:(j':Int)=k
   ·omega
   ·rw [yg e1] at h1
    rw [yh e2] at h2
    have:=h.lt g (.inr ⟨j',h2⟩)
    have:=Option.some.inj h1
    omega
  ·rw [yh e1] at h1
   by_cases e2:(j':Int)=k
   ·rw [yg e2] at h2
    have:=h.lt g (.inr ⟨j,h1⟩)
    have:=Option.some.inj h2
    omega
   ·rw [yh e2] at h2
    exact h.inj j j' g h1 h2
 ·by_cases e:(j:Int)=k
  ·rw [yg e] at hj;cases hj
  ·rw [yh e] at hj;exact h.zero j i hj hi
theorem splice_fl (N:Nat) (enc:Nat->Value) (off:Nat) (cs:List Value) (h:off+cs.length<=N):splice (fl N enc) off cs=fl N (fun i=>if off<=i/\i<off+cs.length then cs.getD (i-off) undef else enc i):=by
 apply List.ext_getElem?
 intro j
 unfold splice
 by_cases h1:j<off
 ·rw [List.getElem?_append_left (by rw [List.length_take,zb9];omega),List.getElem?_take,yg h1,zfe _ (by omega),zfe _ (by omega),yh (by omega)]
 ·rw [List.getElem?_append_right (by rw [List.length_take,zb9];omega),List.length_take,zb9,show min off N=off by omega]
  by_cases h2:j<off+cs.length
  ·rw [List.getElem?_append_left (by omega),zfe _ (by omega),yg (by omega),List.getD_eq_getElem?_getD,List.getElem?_eq_getElem (by omega)];rfl
  ·rw [List.getElem?_append_right (by omega),List.getElem?_drop,show off+cs.length+(j-off-cs.length)=j by omega]
   by_cases h3:j<N
   ·rw [zfe _ h3,zfe _ h3,yh (by omega)]
   ·rw [List.getElem?_eq_none (by rw [zb9];omega),List.getElem?_eq_none (by rw [zb9];omega)]
theorem Mem.write {w:World} {n:Nat} {f:Int->Option Nat} {C:Nat->UInt8} (h:Mem w mb n f C) (hf:f k=some g) (l:List UInt8) (hl:off+l.length<=4096)
  (hg:w'.heap[g]?=some (.cells (splice (fl 4096 (fun i=>u8C (C (4096*k+i)))) off (l.map u8C)).toArray 5 (0,0))) (hk:zaj (fun b=>b=g) w w'):Mem w' mb n f (putC C (4096*k+off) l):=by
 refine ⟨h.map.keep (hk.block mb h.map.lt (fun e=>h.mbne hf e.symm)),fun j g' hj=>?_,h.inj,fun j i hj hi=>?_⟩
 ·by_cases e:g'=g
  ·subst e
   obtain rfl:=h.inj j k g' hj hf
   rw [hg,splice_fl _ _ _ _ (by simpa using hl)]
   have e:fl 4096 (fun i=>if off<=i/\i<off+(l.map u8C).length then (l.map u8C).getD (i-off) undef else u8C (C (4096*j+i)))=fl 4096 (fun i=>u8C (putC C (4096*j+off) l (4096*j+i))):=by
    refine zdG fun i hi=>?_
    unfold putC
    simp only [List.length_map]
    by_cases hi2:off<=i/\i<off+l.length
    ·rw [yg hi2,yg (by omega),show 4096*j+i-(4096*j+off)=i-off by omega]
     simp [List.getD,show i-off<l.length by omega]
    ·rw [yh hi2,yh (by omega)]
   rw [e]
  ·have hne:j≠k:=fun e2=>by subst e2;rw [hf] at hj;exact e (Option.some.inj hj).symm
   rw [hk.block g' (h.lt g' (.inr ⟨j,hj⟩)) e,h.blk j g' hj]
   have e2:fl 4096 (fun i=>u8C (C (4096*j+i)))=fl 4096 (fun i=>u8C (putC C (4096*k+off) l (4096*j+i))):=zdG fun i hi=>by
    unfold putC
    rw [yh (by omega)]
   rw [e2]
 ·have hne:j≠k:=fun e2=>by subst e2;rw [hf] at hj;cases hj
  unfold putC
  rw [yh (by omega)]
  exact h.zero j i hj hi
theorem copy_at {P:Program} {w:World} {ops:Array Oper} {rest:List Oper} {o:Oper} {a:Act} {Q:Exit->Act->World->Prop} (hgd:o.guard=none) (d s:Operand) (dT sT:TypeId)
  (ho:o.op=.call { callee:=.builtin .copy,args:=#[d,s],argTypes:=#[dT,sT] }) (elem:TypeId) (hu:P.underlying dT=some (.slice elem)) (hsz:(P.info? elem).map (·.size)=some 1)
  (g off dLen dCap:Nat) (ad:Addr) (sLen sCap:Nat) (hd:a.eval d=.slice (some ⟨g,off,none⟩) dLen dCap) (hs:a.eval s=.slice (some ad) sLen sCap)
  (cur:List Value) (t:TypeId) (hg:w.heap[g]?=some (.cells cur.toArray t (0,0))) (cs:List Value) (m:Nat) (hm:cs.length=m) (hn:m=Nat.min sLen dLen)
  (hsrc:∀j v,cs[j]?=some v->w.cell? (ad.add j)=some v) (hfit:off+m<=cur.length) (h1:∀v∈cs,v.oneCell'=true)
  (h:∀w',w'.heap[g]?=some (.cells (splice cur off cs).toArray t (0,0))->zaj (fun b=>b=g) w w'->w'.heap.size=w.heap.size->wpList P ops Q rest (a.put o.dst (.int .i64 (m:Int))) w'):wpList P ops Q (o::rest) a w:=by
 subst hm
 refine wpList_copy_own hgd d s dT sT ho elem hu hsz g off dLen dCap ad sLen sCap hd hs cur.toArray t hg cs hn hsrc (by simpa using hfit) h1 ?_
 refine h _ (by simpa [splice] using setRow_heap w g _ _ t _ hg) ⟨rfl,rfl,rfl,by simp [World.setRow],fun b hb hn=>setRow_other w g b _ hn⟩ (by simp [World.setRow])
theorem infoByte:(Tryz.prog.info? 5).map (·.size)=some 1:=by kernel_rfl
def WrEnd (w:World) (mb n:Nat) (f:Int->Option Nat) (C:Nat->UInt8) (A:Nat) (bs:List UInt8) (e:Ending) (w':World):Prop :=
 e=.returned (.tuple #[])/\∃n' f',Mem w' mb n' f' (putC C A bs)/\n'<=n+bs.length/\zaj (MemS mb f) w w'/\(∀(k g:Nat),f k=some g->f' k=some g)/\(∀(k g:Nat),f' k=some g->f k=some g\/w.heap.size<=g) /\
  ∀i,A<=i->i<A+bs.length->f' ((i / 4096:Nat):Int)≠none
structure WrAt (s:Nat) (w:World) (mb n:Nat) (f:Int->Option Nat) (C:Nat->UInt8) (A0:Nat) (bs:List UInt8) (A:Nat) (l:List UInt8) (wr:World) (n':Nat) (f':Int->Option Nat) (C':Nat->UInt8):Prop where
 mem:Mem wr mb n' f' C'
 keep:zaj (MemS mb f) w wr
 old:∀(k g:Nat),f k=some g->f' k=some g
 new:∀(k g:Nat),f' k=some g->f k=some g\/w.heap.size<=g
 put:putC C' A l=putC C A0 bs
 num:n'+l.length<=n+bs.length+s
 pos:A+l.length=A0+bs.length
 had:∀i,A0<=i->i<A->f' ((i / 4096:Nat):Int)≠none
theorem WrAt.start {w:World} {n:Nat} {f:Int->Option Nat} {C:Nat->UInt8} {bs:List UInt8} (h:Mem w mb n f C):WrAt 0 w mb n f C A0 bs A0 bs w n f C :=
 ⟨h,zaj.refl _ _,fun _ _ h=>h,fun _ _ h=>.inl h,rfl,yp _,rfl,fun i h1 h2=>by omega⟩
theorem WrAt.memS {s:Nat} {w:World} {n:Nat} {f:Int->Option Nat} {C:Nat->UInt8} {bs:List UInt8} {l:List UInt8} {wr:World} {f':Int->Option Nat} {C':Nat->UInt8} (h:WrAt s w mb n f C A0 bs A l wr n' f' C') :
  ∀b,MemS mb f' b->MemS mb f b\/w.heap.size<=b:=by
 rintro b (rfl|⟨k,hk⟩)
 ·exact .inl (.inl rfl)
 ·rcases h.new k b hk with h1|h1
  ·exact .inl (.inr ⟨k,h1⟩)
  ·exact .inr h1
theorem WrAt.fin {w:World} {n:Nat} {f:Int->Option Nat} {C:Nat->UInt8} {bs:List UInt8} {wr:World} {f':Int->Option Nat} {C':Nat->UInt8} (h:WrAt 0 w mb n f C A0 bs A [] wr n' f' C') :
  WrEnd w mb n f C A0 bs (.returned (.tuple #[])) wr:=by
 have hp:=h.pos
 simp only [List.length_nil] at hp
 refine ⟨rfl,n',f',?_,by have:=h.num;simp at this;omega,h.keep,h.old,h.new,fun i h1 h2=>h.had i h1 (by omega)⟩
 rw [<-h.put,putC_nil];exact h.mem
theorem WrAt.step {s:Nat} {w:World} {n:Nat} {f:Int->Option Nat} {C:Nat->UInt8} {bs:List UInt8} {l:List UInt8} {wr:World} {f':Int->Option Nat} {C':Nat->UInt8} (h:WrAt s w mb n f C A0 bs A l wr n' f' C') (hs1:s<=1)
  (hf:f' ((A / 4096:Nat):Int)=some g) (hm:m=min l.length (4096-A % 4096)) (hl:l≠[])
  (hg:w2.heap[g]?=some (.cells (splice (fl 4096 (fun i=>u8C (C' (4096*(A / 4096)+i)))) (A % 4096) ((l.take m).map u8C)).toArray 5 (0,0))) (hk:zaj (fun b=>b=g) wr w2) :
  WrAt 0 w mb n f C A0 bs (A+m) (l.drop m) w2 n' f' (putC C' A (l.take m))/\(l.drop m).length<l.length:=by
 have hlen:0<l.length:=List.length_pos_iff.2 hl
 have hmod:A % 4096<4096:=Nat.mod_lt _ (by omega)
 have hdm:=Nat.div_add_mod A 4096
 have hml:m<=l.length:=by omega
 have hm0:0<m:=by omega
 have hmem:=h.mem.write (off:=A % 4096) hf (l.take m) (by rw [List.length_take];omega) hg hk
 rw [hdm] at hmem
 refine ⟨⟨hmem,h.keep.trans hk (fun b e=>?_),h.old,h.new,?_,?_,?_,fun i h1 h2=>?_⟩,by rw [ym];omega⟩
 ·subst e;exact h.memS b (.inr ⟨_,hf⟩)
 ·rw [putC_two C' A m l hml];exact h.put
 ·have:=h.num;rw [ym];omega
 ·have:=h.pos;rw [ym];omega
 ·by_cases h3:i<A
  ·exact h.had i h1 h3
  ·have:i / 4096=A / 4096:=by omega
   rw [this,hf];simp
theorem WrAt.more {w:World} {n:Nat} {f:Int->Option Nat} {C:Nat->UInt8} {bs:List UInt8} {l:List UInt8} {wr:World} {f':Int->Option Nat} {C':Nat->UInt8} (h:WrAt 0 w mb n f C A0 bs A l wr n' f' C')
  (hf:f' k=none) (hb1:Below wr.heap.size wr w1) (hO:w1.ownsRow wr.heap.size 5 1 (blkV wr.heap.size) 4096 (madeCells (Value.int .u8 0).cells (4096*1)).toList)
  (hm:MapB w2 mb (n'+1) (fun j=>if j=(k:Int) then some wr.heap.size else f' j)) (hg:w1.grownBy w2 (some mb)) :
  WrAt 1 w mb n f C A0 bs A l w2 (n'+1) (fun j=>if j=(k:Int) then some wr.heap.size else f' j) C':=by
 have hw:=h.keep.size
 have hO2:w1.ownsRow wr.heap.size 5 1 (blkV wr.heap.size) 4096 (List.replicate 4096 (.int .u8 0)):=by
  have e:(madeCells (Value.int .u8 0).cells (4096*1)).toList=List.replicate 4096 (.int .u8 0):=by
   rw [Nat.mul_one];exact toList_madeCells_one _ _
  rw [e] at hO;exact hO
 have hs1:wr.heap.size<w1.heap.size:=(hO2.lt wr.heap.size rfl).2
 refine ⟨h.mem.more hf hb1 hs1 hO2 hm hg,?_,fun k' g hk'=>?_,fun k' g hk'=>?_,h.put,by have:=h.num;omega,h.pos,fun i h1 h2=>?_⟩
 ·exact (h.keep.trans (zaj.of_below (S:=fun b=>wr.heap.size<=b) hb1 (fun _ h=>h)) (fun b hb=>.inr (by omega))).grown hg (fun b hb=>.inl (.inl (Option.some.inj hb).symm))
 ·have h1:=h.old k' g hk'
  by_cases e:(k':Int)=k
  ·have:k'=k:=by omega
   subst this
   rw [hf] at h1;cases h1
  ·simp only [yh e];exact h1
 ·by_cases e:(k':Int)=k
  ·simp only [yg e] at hk'
   have:=Option.some.inj hk'
   exact .inr (by omega)
  ·simp only [yh e] at hk'
   exact h.new k' g hk'
 ·by_cases e:((i / 4096:Nat):Int)=k
  ·simp only [yg e];simp
  ·simp only [yh e];exact h.had i h1 h2
theorem WrAt.drewN {s:Nat} {w:World} {n:Nat} {f:Int->Option Nat} {C:Nat->UInt8} {bs:List UInt8} {l:List UInt8} {wr:World} {f':Int->Option Nat} {C':Nat->UInt8} (h:WrAt s w mb n f C A0 bs A l wr n' f' C') (q:Nat) :
  WrAt s w mb n f C A0 bs A l (wr.drewN q) n' f' C':=⟨h.mem.below (zah (Below.refl _ _) q),h.keep.drewN q,h.old,h.new,h.put,h.num,h.pos,h.had⟩
theorem write_any {w:World} {n:Nat} {f:Int->Option Nat} {C:Nat->UInt8} (hm:Mem w mb n f C) (hc:w.cell? ⟨p,3,none⟩=some (.map (some mb))) (hp:¬MemS mb f p) (A0:Nat) {a:Option Addr} {cap:Nat} {bs:List UInt8} (hr:Row w 1 a bs.length cap (bs.map u8C)) (ha:∀x,a=some x->¬MemS mb f x.block)
  (hA:A0+bs.length<=2147483647) (hn:n+bs.length<=1000000000) :
  Calls Tryz.prog 97 #[.pointer (some ⟨p,0,none⟩),.int .i64 A0,.slice a bs.length cap] w (WrEnd w mb n f C A0 bs):=by
 have HR:=yb hr
 have HA:=yb ha
 have HP:=yb hp
 have HC:=yb hc
 have HST:=yb (WrAt.start (A0:=A0) (bs:=bs) hm)
 clear hm hc hp hr ha
 go_enter Tryz.func97,Tryz.ntmps97
 go_wp2
 go_loopw [1,2] (fun i v wr=>∃(A:Nat) (l:List UInt8) (a':Option Addr) (cap' n':Nat) (f':Int->Option Nat) (C':Nat->UInt8),i=.int .i64 A/\v=.slice a' l.length cap'/\Hid (Row w 1 a' l.length cap' (l.map u8C))/\Hid (∀x,a'=some x->¬MemS mb f x.block)/\Hid (WrAt 0 w mb n f C A0 bs A l wr n' f' C')) (fun _ v _=>match v with | .slice _ n _=>n|_=>0)
 case atStart=>exact ⟨A0,bs,a,cap,n,f,C,rfl,rfl,HR,HA,HST⟩
 case round =>
  obtain ⟨A,l,a',cap',n',f',C',rfl,rfl,HR',HA',HT⟩:=hrel
  have hpos:=HT.out.pos
  have hnum:=HT.out.num
  by_cases hl:l=[]
  ·subst hl
   go_wp2
   go_end0
   exact HT.out.fin
  ·have hl0:0<l.length:=List.length_pos_iff.2 hl
   have HL:=yb hl
   have hl0i:(0:Int)<l.length:=by omega
   have hcap:=HR'.out.2.1
   have hcm:=HR'.out.i64c
   obtain ⟨b0,o0,hab,hbw,hcell⟩:=HR'.out.at 0 0 hl0
   have hb0:=HA'.out _ hab
   have c3:=HT.out.keep.cell HC.out HP.out
   obtain ⟨K,hK⟩:∃K,K=A / 4096:=⟨_,rfl⟩
   obtain ⟨O,hO⟩:∃O,O=A % 4096:=⟨_,rfl⟩
   have hq:(A:Int) / 4096=(K:Int):=by omega
   have hrm:(A:Int) % 4096=(O:Int):=by omega
   have hO1:O<4096:=by omega
   have hK1:K<=600000:=by omega
   have HKI:=yb (show i64K (K:Int) from ⟨by omega,by omega⟩)
   have HK:=yb hK
   have HO:=yb hO
   subst hab
   clear hK hO hl
   obtain ⟨m,hmm⟩:∃m,m=min l.length (4096-O):=⟨_,rfl⟩
   have hml:m<=l.length:=by omega
   have hmc:m<=cap':=by omega
   have hm0:0<m:=by omega
   have hmO:O+m<=4096:=by omega
   have HMM:=yb hmm
   have HMN:=yb (show m=Nat.min l.length (4096-O) from hmm)
   have HCL:=yb (show ((l.take m).map u8C).length=m by rw [List.length_map,List.length_take];omega)
   have HONE:=yb (show ∀v∈(l.take m).map u8C,v.oneCell'=true from fun v hv=>by
    obtain ⟨x,-,rfl⟩:=List.mem_map.1 hv;rfl)
   have HSRC:=yb (show ∀W:World,zaj (MemS mb f) w W->∀j v,((l.take m).map u8C)[j]?=some v->W.cell? ((⟨b0,o0,none⟩:Addr).add j)=some v from fun W hW j v hv=>by
    rw [Addr.add_lit]
    refine hW.cell ?_ hb0
    rw [List.getElem?_map] at hv
    obtain ⟨x,hx,rfl⟩:=Option.map_eq_some_iff.1 hv
    rw [List.getElem?_take] at hx
    split at hx
    ·rw [hcell j (by omega)]
     simp [List.getD,hx]
    ·cases hx)
   have HDR:=yb (show Row w 1 (some ⟨b0,o0+m,none⟩) (l.drop m).length (cap'-m) ((l.drop m).map u8C) from by
    refine ⟨by simp,by rw [ym];omega,by have:=HR'.out.2.2.1;omega,fun h=>(by cases h),fun _=>⟨b0,o0+m,rfl,hbw,fun j u hj=>?_⟩⟩
    rw [List.getElem?_map] at hj
    obtain ⟨x,hx,rfl⟩:=Option.map_eq_some_iff.1 hj
    rw [List.getElem?_drop] at hx
    have hlt:=(List.getElem?_eq_some_iff.1 hx).1
    have h2:=hcell (m+j) hlt
    rw [<-Nat.add_assoc] at h2
    rw [h2]
    simp [List.getD,hx])
   have HDR0:=yb (show l.length=m->Row w 1 (some ⟨b0,o0,none⟩) (l.drop m).length 0 ((l.drop m).map u8C) from fun e=>by
    rw [List.drop_of_length_le (by omega)]
    exact ⟨by simp,yp _,by unfold maxLen;omega,fun h=>(by cases h),fun h=>absurd h (by simp)⟩)
   have HKO:=yb (show (4096*(A / 4096))=4096*K by have:=HK.out;omega)
   clear hmm hcell
   cases hf:f' (K:Int) with
   | some g =>
    have HF:=yb hf
    have HG:=yb (HT.out.mem.blk K g hf)
    clear hf
    go_wp2_with (first
     |(at_lookup;refine wpList_lookT rfl (.tmp 22) (.tmp 23) rfl HT.out.mem.map rfl rfl HKI.out HF.out ?_)
     |(refine copy_at rfl (.tmp 38) (.tmp 39) 22 22 rfl 5 Tryz.underlying22 infoByte g O _ _ ⟨b0,o0,none⟩ l.length cap' rfl rfl _ 5 HG.out ((l.take m).map u8C) m HCL.out HMN.out (HSRC.out _ HT.out.keep) (by rw [zb9];exact hmO) HONE.out ?_;intro w2 hg2 hk2 hs2;have HG2:=yb hg2;have HK2:=yb hk2;have HS2:=yb hs2;clear hg2 hk2 hs2))
    have HT2:=yb (HT.out.step (m:=m) (by omega) (by rw [<-HK.out];exact HF.out) (by rw [<-HO.out];exact HMM.out) HL.out (by rw [HKO.out,<-HO.out];exact HG2.out) HK2.out)
    have i1:IntKind.i64.wrap ((A:Int)+m)=(A:Int)+m:=IntWalk.i64_in _ (by omega)
    by_cases hce:cap'=m
    ·have hle:l.length=m:=by omega
     have HD0:=yb (HDR0.out hle)
     have HLE:=yb hle
     clear hle
     go_quiet (fail)
     clear hq hrm i1 hce
     go_roundw
     case rel=>(repeat apply Exists.intro);refine ⟨?_,rfl⟩;exact ⟨A+m,l.drop m,some ⟨b0,o0,none⟩,0,n',f',putC C' A (l.take m),by go_num,by rw [ym,HLE.out,Nat.sub_self],HD0,yb (fun x hx=>by cases hx;exact hb0),yb (HT2.out.1.drewN _)⟩
     case measure =>
      show l.length-m<l.length
      omega
    ·go_quiet (fail)
     clear hq hrm i1 hce
     go_roundw
     case rel=>(repeat apply Exists.intro);refine ⟨?_,rfl⟩;exact ⟨A+m,l.drop m,some ⟨b0,o0+m,none⟩,cap' - m,n',f',putC C' A (l.take m),by go_num,by rw [ym],HDR,yb (fun x hx=>by cases hx;exact hb0),yb (HT2.out.1.drewN _)⟩
     case measure =>
      show l.length-m<l.length
      omega
   | none =>
    have HF:=yb hf
    clear hf
    go_wp2_with (first
     |(at_lookup;refine zfH rfl (.tmp 22) (.tmp 23) rfl HT.out.mem.map rfl rfl HKI.out HF.out ?_)
     |(at_make;refine make_full zcz rfl (.const (.int .i64 4096)) (.const (.int .i64 4096)) rfl .i64 .i64 4096 4096 4096 rfl rfl rfl rfl (by omega) (by unfold maxLen;omega) ?_;intro w1 hO1 hB1;have c31:=cell?_keep hB1 c3;have HO1:=yb hO1;have HB1:=yb hB1;clear hO1 hB1)
     |(at_mapUpdate;refine wpList_store rfl (.tmp 33) (.tmp 34) (.tmp 35) rfl (HT.out.mem.map.keep (HB1.out.block mb HT.out.mem.map.lt)) rfl rfl HKI.out rfl (by unfold maxLen;omega) ?_;intro w3 hm3 hg3 hs3;have HT3:=yb (HT.out.more HF.out HB1.out HO1.out hm3 hg3);have HG3:=yb (HT3.out.mem.blk K wr.heap.size (yg rfl));clear hm3 hg3 hs3)
     |(refine copy_at rfl (.tmp 38) (.tmp 39) 22 22 rfl 5 Tryz.underlying22 infoByte wr.heap.size O _ _ ⟨b0,o0,none⟩ l.length cap' rfl rfl _ 5 HG3.out ((l.take m).map u8C) m HCL.out HMN.out (HSRC.out _ HT3.out.keep) (by rw [zb9];exact hmO) HONE.out ?_;intro w2 hg2 hk2 hs2;have HG2:=yb hg2;have HK2:=yb hk2;have HS2:=yb hs2;clear hg2 hk2 hs2))
    have HT2:=yb (HT3.out.step (m:=m) (by omega) (by rw [<-HK.out];exact yg rfl) (by rw [<-HO.out];exact HMM.out) HL.out (by rw [HKO.out,<-HO.out];exact HG2.out) HK2.out)
    have i1:IntKind.i64.wrap ((A:Int)+m)=(A:Int)+m:=IntWalk.i64_in _ (by omega)
    by_cases hce:cap'=m
    ·have hle:l.length=m:=by omega
     have HD0:=yb (HDR0.out hle)
     have HLE:=yb hle
     clear hle
     go_quiet (fail)
     clear hq hrm i1 hce
     go_roundw
     case rel=>(repeat apply Exists.intro);refine ⟨?_,rfl⟩;exact ⟨A+m,l.drop m,some ⟨b0,o0,none⟩,0,n'+1,(fun j=>if j=(K:Int) then some wr.heap.size else f' j),putC C' A (l.take m),by go_num,by rw [ym,HLE.out,Nat.sub_self],HD0,yb (fun x hx=>by cases hx;exact hb0),yb (HT2.out.1.drewN _)⟩
     case measure =>
      show l.length-m<l.length
      omega
    ·go_quiet (fail)
     clear hq hrm i1 hce
     go_roundw
     case rel=>(repeat apply Exists.intro);refine ⟨?_,rfl⟩;exact ⟨A+m,l.drop m,some ⟨b0,o0+m,none⟩,cap' - m,n'+1,(fun j=>if j=(K:Int) then some wr.heap.size else f' j),putC C' A (l.take m),by go_num,by rw [ym],HDR,yb (fun x hx=>by cases hx;exact hb0),yb (HT2.out.1.drewN _)⟩
     case measure =>
      show l.length-m<l.length
      omega
end Go.Proofs.YtfafdeemfeaedaaGreat
namespace Go.Proofs
open Go.Shelf
def Tryz.sortSpan_ren:Go.Shelf.Ren:=⟨fun|6=>167|15=>193|14=>192|28=>220|29=>221|20=>212|21=>213|22=>214|23=>215|24=>216|25=>217|26=>218|27=>219|46=>231|47=>232|48=>233|49=>234|50=>235|57=>239|n=>n,fun|22=>50|24=>129|25=>253|3=>3|39=>222|0=>0|53=>214|55=>183|4=>4|46=>286|45=>285|50=>81|5=>5|9=>9|66=>300|70=>304|76=>306|77=>108|n=>n,fun|n=>n⟩
theorem Tryz.sortSpan:Go.Proofs.SlLaysF0.n6 Tryz.prog Tryz.sortSpan_ren:={
 mixed:=by kernel_rfl
 f6:=⟨Tryz.f167.name,by decide,Tryz.func167.trans (congrArg some (by kernel_rfl))⟩
 f14:=⟨Tryz.f192.name,by decide,Tryz.func192.trans (congrArg some (by kernel_rfl))⟩
 f15:=Tryz.func193.trans (congrArg some (by kernel_rfl))
 f20:=⟨Tryz.f212.name,by decide,Tryz.func212.trans (congrArg some (by kernel_rfl))⟩
 f21:=⟨Tryz.f213.name,by decide,Tryz.func213.trans (congrArg some (by kernel_rfl))⟩
 f22:=⟨Tryz.f214.name,by decide,Tryz.func214.trans (congrArg some (by kernel_rfl))⟩
 f23:=⟨Tryz.f215.name,by decide,Tryz.func215.trans (congrArg some (by kernel_rfl))⟩
 f24:=⟨Tryz.f216.name,by decide,Tryz.func216.trans (congrArg some (by kernel_rfl))⟩
 f25:=⟨Tryz.f217.name,by decide,Tryz.func217.trans (congrArg some (by kernel_rfl))⟩
 f26:=⟨Tryz.f218.name,by decide,Tryz.func218.trans (congrArg some (by kernel_rfl))⟩
 f27:=⟨Tryz.f219.name,by decide,Tryz.func219.trans (congrArg some (by kernel_rfl))⟩
 f28:=Tryz.func220.trans (congrArg some (by kernel_rfl))
 f29:=Tryz.func221.trans (congrArg some (by kernel_rfl))
 f46:=⟨Tryz.f231.name,by decide,Tryz.func231.trans (congrArg some (by kernel_rfl))⟩
 f47:=Tryz.func232.trans (congrArg some (by kernel_rfl))
 f48:=Tryz.func233.trans (congrArg some (by kernel_rfl))
 f49:=⟨Tryz.f234.name,by decide,Tryz.func234.trans (congrArg some (by kernel_rfl))⟩
 f50:=⟨Tryz.f235.name,by decide,Tryz.func235.trans (congrArg some (by kernel_rfl))⟩
 f57:=⟨Tryz.f239.name,by decide,Tryz.func239.trans (congrArg some (by kernel_rfl))⟩
 t0:=Tryz.underlying0
 a0:=Tryz.isAgg0
 z0:=Tryz.sizeOf0
 v0:=Tryz.zeroValue0
 t3:=Tryz.underlying3
 a3:=Tryz.isAgg3
 z3:=Tryz.sizeOf3
 v3:=Tryz.zeroValue3
 t4:=Tryz.underlying4
 a4:=Tryz.isAgg4
 z4:=Tryz.sizeOf4
 v4:=Tryz.zeroValue4
 t5:=Tryz.underlying5
 a5:=Tryz.isAgg5
 z5:=Tryz.sizeOf5
 v5:=Tryz.zeroValue5
 t9:=Tryz.underlying9
 a9:=Tryz.isAgg9
 z9:=Tryz.sizeOf9
 v9:=Tryz.zeroValue9
 t22:=Tryz.underlying50
 a22:=Tryz.isAgg50
 z22:=Tryz.sizeOf50
 v22:=Tryz.zeroValue50
 t25:=Tryz.underlying253
 a25:=Tryz.isAgg253
 z25:=Tryz.sizeOf253
 v25:=Tryz.zeroValue253
 t39:=Tryz.underlying222
 a39:=Tryz.isAgg222
 z39:=Tryz.sizeOf222
 v39:=Tryz.zeroValue222
 t45:=Tryz.underlying285
 a45:=Tryz.isAgg285
 z45:=Tryz.sizeOf285
 v45:=Tryz.zeroValue285
 t46:=Tryz.underlying286
 a46:=Tryz.isAgg286
 z46:=Tryz.sizeOf286
 v46:=Tryz.zeroValue286
 t50:=Tryz.underlying81
 a50:=Tryz.isAgg81
 z50:=Tryz.sizeOf81
 v50:=Tryz.zeroValue81
 t53:=Tryz.underlying214
 a53:=Tryz.isAgg214
 z53:=Tryz.sizeOf214
 v53:=Tryz.zeroValue214
 t55:=Tryz.underlying183
 a55:=Tryz.isAgg183
 z55:=Tryz.sizeOf183
 v55:=Tryz.zeroValue183
 t66:=Tryz.underlying300
 a66:=Tryz.isAgg300
 z66:=Tryz.sizeOf300
 v66:=Tryz.zeroValue300
 t70:=Tryz.underlying304
 a70:=Tryz.isAgg304
 z70:=Tryz.sizeOf304
 v70:=Tryz.zeroValue304
 t76:=Tryz.underlying306
 a76:=Tryz.isAgg306
 z76:=Tryz.sizeOf306
 v76:=Tryz.zeroValue306
 t77:=Tryz.underlying108
 a77:=Tryz.isAgg108
 z77:=Tryz.sizeOf108
 v77:=Tryz.zeroValue108 }
end Go.Proofs
namespace Go.Proofs.YtfafdeemfeaedaaGreat
open Go.Sort
def emp (x:Int×Int):Bool:=decide (x.1<0)||decide (x.2<=x.1)
theorem zbG {x:Int×Int}:emp x=false↔0<=x.1/\x.1<x.2:=by simp [emp]
theorem emp_true {x:Int×Int}:emp x=true↔x.1<0\/x.2<=x.1:=by simp [emp]
def tl (gap:Int):Int->List (Int×Int)->Int×List (Int×Int)
 | b,[]=>(b,[])
 | b,x::r=>if x.1-b<=gap then tl gap (max b x.2) r else (b,(x.1,(tl gap x.2 r).1)::(tl gap x.2 r).2)
def zcm (gap:Int):List (Int×Int)->List (Int×Int)
 | []=>[]
 | x::r=>(x.1,(tl gap x.2 r).1)::(tl gap x.2 r).2
def cov (L:List (Int×Int)) (k:Int):Prop:=∃x∈L,0<=x.1/\x.1<=k/\k<x.2
theorem zbJ (k:Int):¬cov [] k:=fun ⟨x,hx,_⟩=>by cases hx
theorem za0 (x:Int×Int) (L:List (Int×Int)) (k:Int):cov (x::L) k↔(0<=x.1/\x.1<=k/\k<x.2)\/cov L k:=by simp [cov]
theorem zgH (A B:List (Int×Int)) (k:Int):cov (A++B) k↔cov A k\/cov B k:=by simp [cov,or_and_right,exists_or]
theorem cov_perm {A B:List (Int×Int)} (h:A.Perm B) (k:Int):cov A k↔cov B k:=by
 constructor
 ·rintro ⟨x,hx,hh⟩;exact ⟨x,h.mem_iff.1 hx,hh⟩
 ·rintro ⟨x,hx,hh⟩;exact ⟨x,h.mem_iff.2 hx,hh⟩
theorem cov_filter (A:List (Int×Int)) (k:Int):cov (A.filter fun x=>!emp x) k↔cov A k:=by
 constructor
 ·rintro ⟨x,hx,hh⟩;exact ⟨x,(List.mem_filter.1 hx).1,hh⟩
 ·rintro ⟨x,hx,hh⟩;exact ⟨x,List.mem_filter.2 ⟨hx,by rw [zbG.2 ⟨hh.1,by omega⟩];rfl⟩,hh⟩
structure Form (L:List (Int×Int)):Prop where
 full:∀x∈L,0<=x.1/\x.1<x.2
 apart:L.Pairwise fun x y=>x.2<y.1
theorem zdI:Form []:=⟨fun x h=>(by cases h),List.Pairwise.nil⟩
theorem Form.tail {x:Int×Int} (h:Form (x::L)):Form L:=⟨fun y hy=>h.full y (List.mem_cons_of_mem _ hy),(List.pairwise_cons.1 h.apart).2⟩
theorem tl_form:∀(r:List (Int×Int)) (f b:Int),0<=f->f<b->(∀x∈r,f<=x.1/\x.1<x.2)->r.Pairwise (fun x y=>x.1<=y.1) ->
  Form ((f,(tl 0 b r).1)::(tl 0 b r).2)/\(∀k,cov ((f,(tl 0 b r).1)::(tl 0 b r).2) k↔cov ((f,b)::r) k)
 | [],f,b,h0,h1,_,_=>⟨⟨fun x hx=>by simp [tl] at hx;subst hx;exact ⟨h0,h1⟩,by simp [tl]⟩,fun k=>by simp [tl]⟩
 | x::r,f,b,h0,h1,h2,h3=>by
  have hx:=h2 x (List.mem_cons_self ..)
  obtain ⟨p1,p2⟩:=List.pairwise_cons.1 h3
  by_cases hc:x.1-b<=0
  ·simp only [tl,yg hc]
   obtain ⟨i1,i2⟩:=tl_form r f (max b x.2) h0 (by omega) (fun y hy=>h2 y (List.mem_cons_of_mem _ hy)) p2
   refine ⟨i1,fun k=>(i2 k).trans ?_⟩
   rw [za0,za0,za0]
   constructor
   ·rintro (h|h)
    ·by_cases hk:k<b
     ·exact .inl ⟨h.1,h.2.1,hk⟩
     ·have h4:k<max b x.2:=h.2.2
      exact .inr (.inl ⟨by omega,by omega,by omega⟩)
    ·exact .inr (.inr h)
   ·rintro (h|h|h)
    ·have h4:k<b:=h.2.2
     exact .inl ⟨h.1,h.2.1,show k<max b x.2 by omega⟩
    ·exact .inl ⟨h0,show f<=k by omega,show k<max b x.2 by omega⟩
    ·exact .inr h
  ·simp only [tl,yh hc]
   obtain ⟨i1,i2⟩:=tl_form r x.1 x.2 (by omega) hx.2 (fun y hy=>⟨p1 y hy,(h2 y (List.mem_cons_of_mem _ hy)).2⟩) p2
   refine ⟨⟨fun y hy=>?_,List.pairwise_cons.2 ⟨fun y hy=>?_,i1.apart⟩⟩,fun k=>?_⟩
   ·rcases List.mem_cons.1 hy with h|h
    ·subst h;exact ⟨h0,h1⟩
    ·exact i1.full y h
   ·rcases List.mem_cons.1 hy with h|h
    ·subst h;show b<x.1;omega
    ·have h4:=(List.pairwise_cons.1 i1.apart).1 y h
     have h5:=(i1.full _ (List.mem_cons_self ..)).2
     show b<y.1
     simp only at h4 h5
     omega
   ·rw [za0,i2 k,za0 (f,b)]
theorem join_form (h1:∀x∈L,0<=x.1/\x.1<x.2) (h2:L.Pairwise fun x y=>x.1<=y.1):Form (zcm 0 L)/\∀k,cov (zcm 0 L) k↔cov L k:=by
 cases L with
 | nil=>exact ⟨zdI,fun k=>Iff.rfl⟩
 | cons x r =>
  have hx:=h1 x (List.mem_cons_self ..)
  obtain ⟨p1,p2⟩:=List.pairwise_cons.1 h2
  exact tl_form r x.1 x.2 hx.1 hx.2 (fun y hy=>⟨p1 y hy,(h1 y (List.mem_cons_of_mem _ hy)).2⟩) p2
theorem form_end {a b:Int} {A:List (Int×Int)} (h:Form ((a,b)::A)):¬cov ((a,b)::A) b:=by
 intro hc
 rcases (za0 _ _ _).1 hc with h1|⟨x,hx,h1⟩
 ·simp only at h1;omega
 ·have h2:=(List.pairwise_cons.1 h.apart).1 x hx
  simp only at h2
  omega
end Go.Proofs.YtfafdeemfeaedaaGreat
namespace Go.Proofs.YtfafdeemfeaedaaGreat
open Go.RowKit Go.Sort
def zfR (x:Int×Int):List Value:=[.int .i64 x.1,.int .i64 x.2]
def spV:List (Int×Int)->List Value
 | []=>[]
 | x::L=>.int .i64 x.1::.int .i64 x.2::spV L
theorem zbS:∀L:List (Int×Int),(spV L).length=L.length*2
 | []=>rfl
 | x::L=>by simp only [spV,List.length_cons,zbS L];omega
theorem zdp:∀A B:List (Int×Int),spV (A++B)=spV A++spV B
 | [],B=>rfl
 | x::A,B=>by simp only [List.cons_append,spV,zdp A B]
theorem zhn:∀(L:List (Int×Int)) (k:Nat),k<L.length->(spV L)[2*k]?=some (.int .i64 (L.getD k (0,0)).1)/\(spV L)[2*k+1]?=some (.int .i64 (L.getD k (0,0)).2)
 | [],k,h=>by simp at h
 | x::L,0,_=>⟨rfl,rfl⟩
 | x::L,k+1,h=>by
  have:=zhn L k (by simpa using h)
  rw [show 2*(k+1)=(2*k)+1+1 from by omega]
  simpa [spV,List.getD] using this
theorem zbC (L:List (Int×Int)):∀u∈spV L,u.oneCell'=true:=by
 induction L with
 | nil=>intro u h;cases h
 | cons x L ih =>
  intro u h
  simp only [spV,List.mem_cons] at h
  rcases h with h|h|h
  ·subst h;rfl
  ·subst h;rfl
  ·exact ih u h
theorem flat_spV (L:List (Int×Int)):(flatK zfR 2 L.toArray).toList=spV L:=by
 apply List.ext_getElem?
 intro t
 by_cases ht:t<L.length*2
 ·have h1:=get_flatK zfR 2 L.toArray t (by simpa using ht)
  rw [getElem!_pos _ t (by simpa using ht)] at h1
  have hk:t / 2<L.length:=by omega
  have h2:=zhn L (t / 2) hk
  have hg:L.toArray[t / 2]! = L.getD (t / 2) (0,0):=by simp [List.getD,hk]
  rw [Array.getElem?_toList,Array.getElem?_eq_getElem (by simpa using ht),h1,hg]
  rcases Nat.mod_two_eq_zero_or_one t with h0|h0
  ·have e:t=2*(t / 2):=by omega
   rw [h0]
   conv=>rhs;rw [e]
   rw [h2.1];rfl
  ·have e:t=2*(t / 2)+1:=by omega
   rw [h0]
   conv=>rhs;rw [e]
   rw [h2.2];rfl
 ·have e1:(flatK zfR 2 L.toArray).toList.length<=t:=by simp;omega
  have e2:(spV L).length<=t:=by rw [zbS];omega
  rw [List.getElem?_eq_none e1,List.getElem?_eq_none e2]
abbrev SRow (w:World) (a:Option Addr) (n cap:Nat) (L:List (Int×Int)):Prop:=Row w 2 a n cap (spV L)
theorem SRow.len {w:World} {a:Option Addr} {n cap:Nat} (h:SRow w a n cap L):L.length=n:=by
 have:=h.1;rw [zbS] at this;omega
theorem SRow.at {w:World} {a:Option Addr} {n cap:Nat} {L:List (Int×Int)} (h:SRow w a n cap L) (k:Nat) (hk:k<n) :
  ∃b off,a=some ⟨b,off,none⟩/\b<w.heap.size/\∀k,k<n->w.cell? ⟨b,off+k*2,none⟩=some (.int .i64 (L.getD k (0,0)).1)/\w.cell? ⟨b,off+k*2+1,none⟩=some (.int .i64 (L.getD k (0,0)).2):=by
 have hl:=h.len
 obtain ⟨h1,h2,h3,h4,h5⟩:=h
 obtain ⟨b,off,ha,hb,hc⟩:=h5 (by omega)
 refine ⟨b,off,ha,hb,fun k hk=>?_⟩
 have hg:=zhn L k (by omega)
 rw [Nat.mul_comm k 2]
 exact ⟨hc _ _ hg.1,by have:=hc _ _ hg.2;rwa [<-Nat.add_assoc] at this⟩
def cmpI2 (x y:Int):Int:=if x<y then -1 else if y<x then 1 else 0
def zds (x y:Int×Int):Int:=if cmpI2 x.1 y.1≠0 then cmpI2 x.1 y.1 else cmpI2 x.2 y.2
theorem cmpSp_lt (x y:Int×Int):zds x y<0↔x.1<y.1\/(x.1=y.1/\x.2<y.2):=by
 unfold zds cmpI2
 repeat' split
 all_goals omega
theorem ltS_eq (x y:Int×Int):Go.Proofs.ltOf zds x y=decide (x.1<y.1\/(x.1=y.1/\x.2<y.2)):=by
 unfold Go.Proofs.ltOf
 rw [Bool.eq_iff_iff,decide_eq_true_iff,decide_eq_true_iff]
 exact cmpSp_lt x y
theorem swoS:SWO (Go.Proofs.ltOf zds) where
 irrefl x:=by show Go.Proofs.ltOf zds x x=false;rw [ltS_eq];simp
 trans x y z h1 h2:=by
  change Go.Proofs.ltOf zds x y=true at h1
  change Go.Proofs.ltOf zds y z=true at h2
  show Go.Proofs.ltOf zds x z=true
  rw [ltS_eq] at *;simp at *;omega
 ntrans x y z h1 h2:=by
  change Go.Proofs.ltOf zds x y=false at h1
  change Go.Proofs.ltOf zds y z=false at h2
  show Go.Proofs.ltOf zds x z=false
  rw [ltS_eq] at *;simp at *;omega
structure zcq (w:World) (S:Nat->Prop) (p o:Nat) (cs:Array Value) (ty:TypeId) (T:List (Int×Int)) (v:Value):Prop where
 blk:w.heap[p]?=some (.cells cs ty (0,0))
 cel:cs[o]?=some v
 row:w.ownsRow 0 129 2 v T.length (spV T)
 at_:∀b,v.ownBlock=some b->S b/\b≠p
 own:S p
 lt:∀b,S b->b<w.heap.size
theorem zcq.keeps {w:World} {o:Nat} {cs:Array Value} {v:Value} (hw:zcq w S p o cs ty T v) (hk:zaj U w w') (hU:∀b,S b->¬U b):zcq w' S p o cs ty T v :=
 ⟨hk.obj hw.blk (hU p hw.own),hw.cel,owns_keeps hw.row hk (fun b hb=>hU b (hw.at_ b hb).1),hw.at_,hw.own,fun b hb=>Nat.lt_of_lt_of_le (hw.lt b hb) hk.size⟩
theorem zcq.mono {w:World} {o:Nat} {cs:Array Value} {v:Value} (hw:zcq w S p o cs ty T v) (hb:Below w.heap.size w w'):zcq w' S p o cs ty T v :=
 ⟨zab hb hw.blk,hw.cel,zaO hw.row hb,hw.at_,hw.own,fun b hb2=>Nat.lt_of_lt_of_le (hw.lt b hb2) hb.size⟩
def SetV (w:World) (pv:Option Addr) (T:List (Int×Int)):Prop:=(pv=none/\T=[])\/∃b o a c,pv=some ⟨b,o,none⟩/\w.cell? ⟨b,o,none⟩=some (.slice a T.length c)/\SRow w a T.length c T
theorem SetV.mono {w:World} {pv:Option Addr} (h:SetV w pv T) (hb:Below w.heap.size w w'):SetV w' pv T:=by
 rcases h with h|⟨b,o,a,c,h1,h2,h3⟩
 ·exact .inl h
 ·exact .inr ⟨b,o,a,c,h1,cell?_keep hb h2,h3.mono hb⟩
theorem zcq.toV {w:World} {o:Nat} {cs:Array Value} {v:Value} (h:zcq w S p o cs ty T v):SetV w (some ⟨p,o,none⟩) T:=by
 obtain ⟨a,c,rfl,hr,_⟩:=Row.of_owns h.row
 exact .inr ⟨p,o,a,c,rfl,(cell_of_row w p o _ _ _ h.blk).trans h.cel,hr⟩
end Go.Proofs.YtfafdeemfeaedaaGreat
namespace Go.Proofs.YtfafdeemfeaedaaGreat
open Go.RowKit Go.Maps
def srcC (tot:Nat) (v:Value) (mb:Nat):Array Value:=#[.bool true,.int .i64 tot,v,.map (some mb)]
structure IsSrc (w:World) (S:Nat->Prop) (p tot:Nat) (T:List (Int×Int)) (v:Value) (mb n:Nat) (f:Int->Option Nat) (C:Nat->UInt8):Prop where
 set:zcq w S p 2 (srcC tot v mb) 146 T v
 mem:Mem w mb n f C
 ap:∀b,MemS mb f b->¬S b
 form:Form T
 in_:∀x∈T,x.2<=tot
 known:∀i:Nat,cov T i->f ((i / 4096:Nat):Int)≠none
 totb:tot<=2147483647
def SrcQ (w:World) (U:Nat->Prop) (p tot N:Nat) (T:List (Int×Int)) (C:Nat->UInt8):Prop:=∃S v mb n f,IsSrc w S p tot T v mb n f C/\n<=N/\∀b,U b↔(S b\/MemS mb f b)
theorem SrcQ.lt {w:World} {C:Nat->UInt8} (h:SrcQ w U p tot N T C):∀b,U b->b<w.heap.size:=by
 obtain ⟨S,v,mb,n,f,h,-,hU⟩:=h
 intro b hb
 rcases (hU b).1 hb with h1|h1
 ·exact h.set.lt b h1
 ·exact h.mem.lt b h1
theorem IsSrc.mono {w:World} {v:Value} {n:Nat} {f:Int->Option Nat} {C:Nat->UInt8} (h:IsSrc w S p tot T v mb n f C) (hb:Below w.heap.size w w'):IsSrc w' S p tot T v mb n f C :=
 ⟨h.set.mono hb,h.mem.below hb,h.ap,h.form,h.in_,h.known,h.totb⟩
theorem SrcQ.mono {w:World} {C:Nat->UInt8} (h:SrcQ w U p tot N T C) (hb:Below w.heap.size w w'):SrcQ w' U p tot N T C:=by
 obtain ⟨S,v,mb,n,f,h,r⟩:=h
 exact ⟨S,v,mb,n,f,h.mono hb,r⟩
theorem IsSrc.cells {w:World} {v:Value} {n:Nat} {f:Int->Option Nat} {C:Nat->UInt8} (h:IsSrc w S p tot T v mb n f C) :
  w.cell? ⟨p,0,none⟩=some (.bool true)/\w.cell? ⟨p,1,none⟩=some (.int .i64 tot)/\w.cell? ⟨p,2,none⟩=some v/\w.cell? ⟨p,3,none⟩=some (.map (some mb)):=by
 refine ⟨?_,?_,?_,?_⟩<;>(rw [cell_of_row w p _ _ _ _ h.set.blk];rfl)
def NewEnd (tot:Nat) (w:World) (e:Ending) (w':World):Prop :=
 ∃p U,e=.returned (.tuple #[.pointer (some ⟨p,0,none⟩),.int .i64 0])/\SrcQ w' U p tot 0 [] (fun _=>0)/\Below w.heap.size w w'/\(∀b,U b->w.heap.size<=b)/\U p
theorem new_any (tot:Nat) (w:World) (ht:tot<=2147483647):Calls Tryz.prog 58 #[.int .i64 tot] w (NewEnd tot w):=by
 have hmm:=@run_makeMap Tryz.prog
 have h1:decide ((tot:Int)<0)=false:=ye (by omega)
 have h2:decide ((2147483647:Int)<tot)=false:=ye (by omega)
 obtain ⟨W,hW⟩:∃W,W=(w.alloc (.map #[] 0)).alloc (.cells #[.bool true,.int .i64 tot,.slice none 0 0,.map (some w.heap.size)] 146):=⟨_,rfl⟩
 have hB:Below w.heap.size w W:=by rw [hW];exact zbm w _ _
 have hsz:W.heap.size=w.heap.size+2:=by rw [hW,zan,zan]
 have hblk:W.heap[w.heap.size+1]?=some (.cells #[.bool true,.int .i64 tot,.slice none 0 0,.map (some w.heap.size)] 146 (0,0)):=by rw [hW];exact zac _ (by rw [zan])
 have hmem:Mem W w.heap.size 0 (fun _=>none) (fun _=>0):=by rw [hW];exact (Mem.made w).below (zam _ _)
 have hno:∀b,MemS w.heap.size (fun _=>none) b->b=w.heap.size:=by
  rintro b (rfl|⟨k,hk⟩)
  ·rfl
  ·cases hk
 have hset:zcq W (fun b=>b=w.heap.size+1) (w.heap.size+1) 2 (srcC tot (.slice none 0 0) w.heap.size) 146 [] (.slice none 0 0) :=
  ⟨hblk,rfl,World.ownsRow_nil _ _ _ _,fun b hb=>(by cases hb),rfl,fun b hb=>by omega⟩
 have hsrc:IsSrc W (fun b=>b=w.heap.size+1) (w.heap.size+1) tot [] (.slice none 0 0) w.heap.size 0 (fun _=>none) (fun _=>0) :=
  ⟨hset,hmem,fun b hb e=>(by have:=hno b hb;omega),zdI,fun x hx=>(by cases hx),fun i hi=>absurd hi (zbJ _),ht⟩
 have HQ:Hid (NewEnd tot w (.returned (.tuple #[.pointer (some ⟨w.heap.size+1,0,none⟩),.int .i64 0])) W):=yb
  ⟨w.heap.size+1,fun b=>b=w.heap.size+1\/MemS w.heap.size (fun _=>none) b,rfl,⟨_,_,_,_,_,hsrc,yp _,fun b=>Iff.rfl⟩,hB,(by
   rintro b (rfl|hb)
   ·omega
   ·have:=hno b hb;omega),.inl rfl⟩
 have HW:=yb hW
 clear hB hsz hblk hmem hW hno hset hsrc
 go_enter Tryz.func58,Tryz.ntmps58
 go_wp2
 go_ret2
 rw [<-HW.out]
 exact HQ.out
theorem is_any {w:World} {C:Nat->UInt8} (h:SrcQ w U p tot N T C) :
  Calls Tryz.prog 70 #[.pointer (some ⟨p,0,none⟩)] w fun e w'=>e=.returned (.bool true)/\w=w':=by
 obtain ⟨S,v,mb,n,f,h,-⟩:=h
 obtain ⟨c0,-⟩:=h.cells
 clear h
 go_enter Tryz.func70,Tryz.ntmps70
 go_wp2
 go_ret
 exact ⟨rfl,rfl⟩
theorem total_any {w:World} {C:Nat->UInt8} (h:SrcQ w U p tot N T C) :
  Calls Tryz.prog 54 #[.pointer (some ⟨p,0,none⟩)] w fun e w'=>e=.returned (.int .i64 tot)/\w=w':=by
 have HI:=yb (is_any h)
 obtain ⟨S,v,mb,n,f,h,-⟩:=h
 obtain ⟨-,c1,-⟩:=h.cells
 clear h
 go_enter Tryz.func54,Tryz.ntmps54
 go_wp2_with (go_at_call 70;refine HI.out.mono ?_;rintro e w' ⟨rfl,rfl⟩)
 go_ret
 exact ⟨rfl,rfl⟩
end Go.Proofs.YtfafdeemfeaedaaGreat
namespace Go.Proofs.YtfafdeemfeaedaaGreat
open Go.RowKit
def cmpI (x y:Int):Int:=if x<y then -1 else if y<x then 1 else 0
theorem zeE (x:Int) (w:World):Calls Tryz.prog 148 #[.int .i64 x] w fun e w'=>e=.returned (.bool false)/\w=w':=by
 go_enter Tryz.func148,Tryz.ntmps148
 go_wp2
 go_ret
 exact ⟨zbg (by simp),rfl⟩
theorem cmpI_any (x y:Int) (w:World):Calls Tryz.prog 108 #[.int .i64 x,.int .i64 y] w fun e w'=>e=.returned (.int .i64 (cmpI x y))/\w=w':=by
 have hv:cmpI x y=if x<y then -1 else if y<x then 1 else 0:=rfl
 have HV:=yb hv
 clear hv
 by_cases h1:x<y
 ·go_enter Tryz.func108,Tryz.ntmps108
  go_wp2_with (go_at_call 148;refine (zeE _ _).mono ?_;rintro e w' ⟨rfl,rfl⟩)
  go_ret
  exact ⟨zaR (by rw [HV.out,yg h1]),rfl⟩
 ·by_cases h2:y<x
  ·go_enter Tryz.func108,Tryz.ntmps108
   go_wp2_with (go_at_call 148;refine (zeE _ _).mono ?_;rintro e w' ⟨rfl,rfl⟩)
   go_ret
   exact ⟨zaR (by rw [HV.out,yh (by omega),yg h2]),rfl⟩
  ·go_enter Tryz.func108,Tryz.ntmps108
   go_wp2_with (go_at_call 148;refine (zeE _ _).mono ?_;rintro e w' ⟨rfl,rfl⟩)
   go_ret
   exact ⟨zaR (by rw [HV.out,yh (by omega),yh (by omega)]),rfl⟩
end Go.Proofs.YtfafdeemfeaedaaGreat
namespace Go.Proofs.YtfafdeemfeaedaaGreat
open Go.RowKit Go.Sort
theorem or2_any (b:Nat) (x y:Int) (w:World) (h0:w.cell? ⟨b,0,none⟩=some (.int .i64 x)) (h1:w.cell? ⟨b,1,none⟩=some (.int .i64 y)) :
  Calls Tryz.prog 107 #[.slice (some ⟨b,0,none⟩) 2 2] w fun e w'=>e=.returned (.int .i64 (if x≠0 then x else y))/\w=w':=by
 by_cases hx:x=0
 ·have hx2:(x==0)=true:=by rw [beq_iff_eq];exact hx
  have HX:=yb hx
  by_cases hy:y=0
  ·have HY:=yb hy
   subst hx hy
   go_enter Tryz.func107,Tryz.ntmps107
   go_wp2
   refine wp_loop_rounds 3 ?_
   rw [rounds_succ]
   go_wp2
   rw [rounds_succ]
   go_wp2
   rw [rounds_succ]
   go_wp2
   go_ret
   exact ⟨rfl,rfl⟩
  ·have hy2:(y==0)=false:=by rw [yf];exact hy
   subst hx
   go_enter Tryz.func107,Tryz.ntmps107
   go_wp2
   refine wp_loop_rounds 3 ?_
   rw [rounds_succ]
   go_wp2
   rw [rounds_succ]
   go_wp2
   go_ret
   exact ⟨rfl,rfl⟩
 ·have hx2:(x==0)=false:=by rw [yf];exact hx
  go_enter Tryz.func107,Tryz.ntmps107
  go_wp2
  refine wp_loop_rounds 3 ?_
  rw [rounds_succ]
  go_wp2
  go_ret
  exact ⟨rfl,rfl⟩
theorem before_any (x y:Int×Int) (w:World) :
  Calls Tryz.prog 168 #[.agg #[.int .i64 x.1,.int .i64 x.2],.agg #[.int .i64 y.1,.int .i64 y.2]] w fun e w'=>e=.returned (.int .i64 (zds x y))/\∃q os',w'=grow (w.drewN q) os':=by
 have hv:zds x y=if cmpI x.1 y.1≠0 then cmpI x.1 y.1 else cmpI x.2 y.2:=rfl
 have h1:=fun W=>cmpI_any x.1 y.1 W
 have h2:=fun W=>cmpI_any x.2 y.2 W
 have HV:=yb hv
 have H1:=yb h1
 have H2:=yb h2
 clear hv h1 h2
 generalize cmpI x.1 y.1=c at *
 generalize cmpI x.2 y.2=d at *
 generalize x.1=x1 at *
 generalize x.2=x2 at *
 generalize y.1=y1 at *
 generalize y.2=y2 at *
 have hA:((w.alloc (.cells #[.int .i64 x1,.int .i64 x2] 129)).alloc (.cells #[.int .i64 y1,.int .i64 y2] 129)).heap[w.heap.size]?=some (.cells #[.int .i64 x1,.int .i64 x2] 129 (0,0)):=zak _ (zac _ rfl)
 have hB:((w.alloc (.cells #[.int .i64 x1,.int .i64 x2] 129)).alloc (.cells #[.int .i64 y1,.int .i64 y2] 129)).heap[w.heap.size+1]?=some (.cells #[.int .i64 y1,.int .i64 y2] 129 (0,0)):=zac _ (by rw [zan])
 go_enter Tryz.func168,Tryz.ntmps168
 go_wp2
 generalize hW:((w.alloc (.cells #[.int .i64 x1,.int .i64 x2] 129)).alloc (.cells #[.int .i64 y1,.int .i64 y2] 129))=W at *
 have HW:=yb hW
 have a0:W.cell? ⟨w.heap.size,0,none⟩=some (.int .i64 x1):=by rw [cell_of_row W _ 0 _ _ _ hA];rfl
 have a1:W.cell? ⟨w.heap.size,1,none⟩=some (.int .i64 x2):=by rw [cell_of_row W _ 1 _ _ _ hA];rfl
 have b0:W.cell? ⟨w.heap.size+1,0,none⟩=some (.int .i64 y1):=by rw [cell_of_row W _ 0 _ _ _ hB];rfl
 have b1:W.cell? ⟨w.heap.size+1,1,none⟩=some (.int .i64 y2):=by rw [cell_of_row W _ 1 _ _ _ hB];rfl
 clear hW hA hB
 refine wp_region_still_tail 10 (by kernel_rfl) (by kernel_rfl) ?_
 simp only [List.take_succ_cons,List.take_zero,List.drop_succ_cons,List.drop_zero]
 repeat still_step
 still_call ((H1.out _).mono fun e w' ⟨he,hw⟩=>⟨he,hw.symm⟩)
 repeat still_step
 still_call ((H2.out _).mono fun e w' ⟨he,hw⟩=>⟨he,hw.symm⟩)
 repeat still_step
 refine wpStill_nil ?_
 change wpList _ _ _ _ _ (W.drewN 1)
 clear a0 a1 b0 b1
 go_wp2_with fail
 have k0:((W.drewN 1).alloc (.cells #[.int .i64 c,.int .i64 d] 3)).cell? ⟨W.heap.size,0,none⟩=some (.int .i64 c):=(cell_of_row ((W.drewN 1).alloc _) W.heap.size 0 _ _ _ (zac (w:=W.drewN 1) _ rfl)).trans rfl
 have k1:((W.drewN 1).alloc (.cells #[.int .i64 c,.int .i64 d] 3)).cell? ⟨W.heap.size,1,none⟩=some (.int .i64 d):=(cell_of_row ((W.drewN 1).alloc _) W.heap.size 1 _ _ _ (zac (w:=W.drewN 1) _ rfl)).trans rfl
 refine (or2_any _ c d _ k0 k1).mono ?_
 rintro e w' ⟨rfl,rfl⟩
 clear k0 k1
 generalize hr:(if c≠0 then c else d)=r at *
 have HR:=yb hr
 clear hr
 go_wp2
 go_ret
 refine ⟨congrArg (fun x=>Ending.returned (.int .i64 x)) HV.out.symm,1,#[.cells #[.int .i64 x1,.int .i64 x2] 129,.cells #[.int .i64 y1,.int .i64 y2] 129,.cells #[.int .i64 c,.int .i64 d] 3],?_⟩
 rw [<-HW.out]
 show (((w.drewN 1).alloc _).alloc _).alloc _=_
 rw [alloc_eq_grow,alloc_eq_grow,alloc_eq_grow,grow_grow,grow_grow]
 rfl
theorem zhs (F cur:Array Value) (h:F.size<=cur.size):(putCells id 0 F cur).toList.take F.size=F.toList:=by
 apply List.ext_getElem?
 intro i
 rw [List.getElem?_take]
 by_cases hi:i<F.size
 ·have h2:i<cur.size:=by omega
  rw [yg hi]
  simp [putCells,hi,h2]
 ·rw [yh hi,List.getElem?_eq_none (by simpa using Nat.not_lt.1 hi)]
theorem sort_any (base g n cap:Nat) (L:List (Int×Int)) (w:World) (h:w.ownsRow base 129 2 (.slice (some ⟨g,0,none⟩) n cap) n (spV L)) (hn:n<4611686018427387904) :
  Calls Tryz.prog 167 #[.slice (some ⟨g,0,none⟩) n cap,.func (.func 168) #[] #[]] w fun e w' =>
   e=.returned (.tuple #[])/\∃L':List (Int×Int),L'.Perm L/\L'.Pairwise (fun x y=>x.1<=y.1)/\w'.ownsRow base 129 2 (.slice (some ⟨g,0,none⟩) n cap) n (spV L')/\w.grownBy w' (some g):=by
 obtain ⟨h1,h2⟩:=h
 rcases h2 with ⟨h3,_⟩|⟨g',cap',cur,hv,hbg,hg,hle,hcm,hcs,htk⟩
 ·cases h3
 simp only [Value.slice.injEq,Option.some.injEq,Addr.mk.injEq] at hv
 obtain ⟨⟨rfl,_,_⟩,-,rfl⟩:=hv
 have hl:L.length=n:=by rw [zbS] at h1;omega
 have hblk:g<w.heap.size:=(Array.getElem?_eq_some_iff.1 hg).1
 have hH:HoldsK zfR 2 w g 0 L.toArray:=by
  intro j hj
  have hj2:j<L.length*2:=by simpa using hj
  have hf:(flatK zfR 2 L.toArray)[j]! = (spV L)[j]'(by rw [zbS];exact hj2):=by
   rw [getElem!_pos _ j hj]
   have:=flat_spV L
   rw [<-Array.getElem_toList]
   simp only [this]
  refine ⟨?_,frozen_of_row w g _ _ _ hg⟩
  rw [Nat.zero_add,cell_of_row w g j cur _ (0,0) hg,id,hf]
  have h5:cur.toList[j]?=some ((spV L)[j]'(by rw [zbS];exact hj2)):=by
   have:(cur.toList.take (n*2))[j]?=(spV L)[j]?:=by rw [htk]
   rw [List.getElem?_take,yg (by omega)] at this
   rw [this,List.getElem?_eq_getElem]
  simpa using h5
 have eg:∀args w,(callFunc 168 args).run Tryz.prog w=.ok (.enter 168 args) w:=enters_of Tryz.func168 (by kernel_rfl) rfl
 have hcmp:CmpLays Tryz.prog 168 #[] zfR 2 zds g 0 L.toArray.size w:=fun _ _ _ _ x y=>before_any x y _
 have hcon:=AnyQ.slices_SortFunc Tryz.sortSpan 2 Tryz.isAgg129 Tryz.sizeOf129 zfR (fun _=>rfl) (fun x v hv=>by simp [zfR] at hv;rcases hv with rfl|rfl<;>rfl) zds swoS 168 #[] g 0 cap L.toArray w eg hcmp hH hblk (by simpa [hl] using hn)
 change Calls Tryz.prog 167 _ _ _ at hcon
 have es:L.toArray.size=n:=by simpa using hl
 rw [es] at hcon
 refine hcon.mono ?_
 rintro e w' ⟨rfl,d',m,os,hp,hs,rfl⟩
 obtain ⟨L',rfl⟩:∃L':List (Int×Int),L'.toArray=d':=⟨d'.toList,by simp⟩
 have hl':L'.length=n:=by have:=hp.1;simp at this;omega
 refine ⟨rfl,L',?_,?_,?_,?_⟩
 ·have h6:=hp.2.2
  have e1:(L'.toArray.extract 0 n).toList=L':=by rw [<-hl'];simp
  have e2:(L.toArray.extract 0 n).toList=L:=by rw [<-hl];simp
  rwa [e1,e2] at h6
 ·rw [List.pairwise_iff_getElem]
  intro i j hi hj hij
  have h7:=hs i j (Nat.zero_le _) hij (by omega)
  change Go.Proofs.ltOf zds L'.toArray[j]! L'.toArray[i]! = false at h7
  rw [ltS_eq,getElem!_pos L'.toArray i (by simpa using hi),getElem!_pos L'.toArray j (by simpa using hj)] at h7
  simp at h7
  omega
 ·have hF:(flatK zfR 2 L'.toArray).size=n*2:=by simp [hl']
  have hfs:n*2<=cur.size:=by rw [hcs];exact Nat.mul_le_mul_right _ hle
  refine ⟨by rw [zbS,hl'],.inr ⟨g,cap,putCells id 0 (flatK zfR 2 L'.toArray) cur,rfl,hbg,?_,hle,hcm,?_,?_⟩⟩
  ·unfold sortWorldK
   rw [heap_grow_old _ _ (by unfold putRowK;rw [size_putRow];exact hblk)]
   unfold putRowK putRow mapBlock
   show (w.heap.modify g _)[g]?=_
   rw [Array.getElem?_modify,yg rfl,hg]
   rfl
  ·simp [putCells,hcs]
  ·rw [<-hF,zhs _ _ (by rw [hF];exact hfs),flat_spV]
 ·refine ⟨rfl,rfl,rfl,?_,fun k hk hne=>?_⟩
  ·exact size_sortWorldK_c zfR 2 w g 0 m L'.toArray os
  ·unfold sortWorldK
   rw [heap_grow_old _ _ (by unfold putRowK;rw [size_putRow];exact hk)]
   unfold putRowK putRow mapBlock
   show (w.heap.modify g _)[k]?=_
   rw [Array.getElem?_modify,yh (fun e=>hne (by rw [e]))]
theorem ETS:zc9 Tryz.prog 50 129 (.agg #[.int .i64 0,.int .i64 0]) 2 16:=⟨Tryz.underlying50,by kernel_rfl,rfl,by omega⟩
theorem cloneS (a:Option Addr) (n cap:Nat) (xs:List Value) (w:World) (hr:Row w 2 a n cap xs) (h1:∀u∈xs,u.oneCell'=true) (hby:n*16<=140737488355328) :
  Calls Tryz.prog 141 #[.slice a n cap] w fun e w'=>∃v,e=.returned v/\w'.ownsRow w.heap.size 129 2 v n xs/\Below w.heap.size w w'/\NN a v:=by
 rcases a with _|ad
 ·obtain ⟨r1,r2,r3,r4,r5⟩:=hr
  obtain rfl:=r4 rfl
  obtain rfl:n=0:=by omega
  obtain rfl:xs=[]:=List.eq_nil_of_length_eq_zero (by simpa using r1)
  have hnil:=fun W:World=>Lib.run_eql_slice_nil (P:=Tryz.prog) W 50 129 none 0 0 0 0 Tryz.underlying50
  go_enter Tryz.func141,Tryz.ntmps141
  go_wp2
  go_ret
  exact ⟨_,rfl,World.ownsRow_nil _ _ _ _,Below.refl _ _,fun h=>absurd rfl h⟩
 ·have hm:n<=maxLen:=Nat.le_trans hr.2.1 hr.2.2.1
  have hnil:=fun W:World=>Lib.run_eql_slice_nil (P:=Tryz.prog) W 50 129 (some ad) n cap 0 0 Tryz.underlying50
  have HR:=yb (hr.mono (zam w (.cells #[] 129)))
  have hO:=World.ownsRow_lit (base:=w.heap.size) (e:=129) (size:=2) w #[] 0 (yp _) (by simp [maxLen]) (by simp)
  have HO:=yb hO
  clear hO hr
  go_enter Tryz.func141,Tryz.ntmps141
  go_wp2_with (at_builtin;refine zav ETS rfl (.tmp 5) (.tmp 6) rfl w.heap.size (.slice (some ⟨w.heap.size,0,none⟩) 0 0) 0 _ rfl HO.out _ n _ _ rfl HR.out h1 (by omega) (by omega) (by simp) ?_;intro v' w1 hO1 hg hnil;have HO1:=yb hO1;have HN:=yb hnil;have HG:=yb hg;clear hO1 hnil hg)
  go_ret
  refine ⟨_,rfl,by simpa using HO1.out,below_grown (zam w _) HG.out (by rw [zan];omega) (fun k hk=>by simp [Value.ownBlock] at hk;omega),fun _ h=>?_⟩
  have:=HN.out.1 h;simp at this
theorem zfO (x y:Int) (w:World) :
  Calls Tryz.prog 136 #[.agg #[.int .i64 x,.int .i64 y]] w fun e w'=>e=.returned (.bool (emp (x,y)))/\w'=w.alloc (.cells #[.int .i64 x,.int .i64 y] 129):=by
 have hv:emp (x,y)=(decide (x<0)||decide (y<=x)):=rfl
 by_cases h1:x<0
 ·have h2:decide (x<0)=true:=by simpa using h1
  rw [h2,Bool.true_or] at hv
  have HV:=yb hv
  clear hv
  go_enter Tryz.func136,Tryz.ntmps136
  go_wp2
  go_ret
  exact ⟨zbg HV.out.symm,rfl⟩
 ·have h2:decide (x<0)=false:=by simpa using h1
  rw [h2,Bool.false_or] at hv
  have HV:=yb hv
  clear hv
  go_enter Tryz.func136,Tryz.ntmps136
  go_wp2
  go_ret
  exact ⟨zbg HV.out.symm,rfl⟩
theorem zeG:∀args w,(callFunc 136 args).run Tryz.prog w=.ok (.enter 136 args) w:=enters_of Tryz.func136 (by kernel_rfl) rfl
def FirstEmpty (L:List (Int×Int)) (r:Int):Prop:=(r=-1/\∀x∈L,emp x=false)\/∃k:Nat,r=(k:Int)/\k<L.length/\emp (L.getD k (0,0))=true/\∀j,j<k->emp (L.getD j (0,0))=false
def IndexEnd (L:List (Int×Int)) (w:World) (e:Ending) (w':World):Prop:=∃r,e=.returned (.int .i64 r)/\FirstEmpty L r/\Below w.heap.size w w'
theorem zgB (a:Option Addr) (n cap:Nat) (L:List (Int×Int)) (w:World) (hr:SRow w a n cap L) :
  Calls Tryz.prog 191 #[.slice a n cap,.func (.func 136) #[] #[]] w (IndexEnd L w):=by
 have hm:=hr.i64
 have hl:=hr.len
 have eg:=zeG
 have HL:=yb hl
 have HR:=yb hr
 clear hl hr
 go_enter Tryz.func191,Tryz.ntmps191
 go_wp2
 go_loopw [8] (fun i wr=>∃k:Nat,k<=n/\i=.int .i64 k/\Hid (∀j,j<k->emp (L.getD j (0,0))=false)/\Hid (Below w.heap.size w wr)) (fun i _=>n-(intOf i).toNat)
 case atStart=>exact ⟨0,by omega,rfl,yb (fun j h=>by omega),yb (Below.refl _ _)⟩
 case round =>
  obtain ⟨k,hk,rfl,HE,HB⟩:=hrel
  by_cases hlt:k<n
  ·obtain ⟨b,off,rfl,hblt,hc⟩:=SRow.at (HR.out.mono HB.out) k hlt
   obtain ⟨hc0,hc1⟩:=hc k hlt
   obtain ⟨x,y,hxy⟩:∃x y,L.getD k (0,0)=(x,y):=⟨_,_,rfl⟩
   rw [hxy] at hc0 hc1
   have HXY:=yb hxy
   simp only at hc0 hc1
   clear hc hxy
   have hem:=fun W=>zfO x y W
   generalize hb2:emp (x,y)=be at hem
   have HBE:=yb hb2
   have HEM:=yb hem
   clear hem hb2
   cases be
   ·go_wp2_with fail
    refine (HEM.out _).mono ?_
    rintro e w' ⟨rfl,rfl⟩
    go_wp2
    go_roundw
    case rel=>exact ⟨k+1,by omega,by go_num,yb (fun j hj=>by
     by_cases h:j=k
     ·subst h;rw [HXY.out];exact HBE.out
     ·exact HE.out j (by omega)),yb (HB.out.alloc (by exact HB.out.size) _)⟩
    case measure=>simp [intOf];omega
   ·go_wp2_with fail
    refine (HEM.out _).mono ?_
    rintro e w' ⟨rfl,rfl⟩
    go_wp2
    go_ret
    exact ⟨k,rfl,.inr ⟨k,rfl,by rw [HL.out];exact hlt,by rw [HXY.out];exact HBE.out,HE.out⟩,HB.out.alloc (by exact HB.out.size) _⟩
  ·obtain rfl:k=n:=by omega
   go_wp2
   go_ret
   exact ⟨-1,rfl,.inl ⟨rfl,fun x hx=>by
    obtain ⟨j,hj,he⟩:=List.mem_iff_getElem.1 hx
    have:=HE.out j (by rw [<-HL.out];exact hj)
    simpa [List.getD,hj,he] using this⟩,HB.out⟩
theorem zg2 {w:World} {base n cap sz:Nat} (h:w.ownsRow base e sz (.slice (some ⟨g,0,none⟩) n cap) n xs) (t:Nat) (v:Value) :
  (w.setCell ⟨g,t,none⟩ v).ownsRow base e sz (.slice (some ⟨g,0,none⟩) n cap) n (xs.set t v):=by
 obtain ⟨h1,h2⟩:=h
 refine ⟨by simpa using h1,?_⟩
 rcases h2 with ⟨h3,_⟩|⟨g',cap',cur,hv,hbg,hg,hle,hcm,hcs,htk⟩
 ·cases h3
 ·simp only [Value.slice.injEq,Option.some.injEq,Addr.mk.injEq] at hv
  obtain ⟨⟨rfl,_,_⟩,-,rfl⟩:=hv
  refine .inr ⟨g,cap,cur.setIfInBounds t v,rfl,hbg,heap_setCell_same w g t cur e v hg,hle,hcm,by simpa using hcs,?_⟩
  rw [Array.toList_setIfInBounds,List.take_set,htk]
theorem zdJ {w:World} {base n cap sz:Nat} (h:w.ownsRow base e sz (.slice (some ⟨g,0,none⟩) n cap) n xs) (t:Nat):w.frozen? ⟨g,t,none⟩=false:=by
 obtain ⟨h1,h2⟩:=h
 rcases h2 with ⟨h3,_⟩|⟨g',cap',cur,hv,hbg,hg,hle,hcm,hcs,htk⟩
 ·cases h3
 ·simp only [Value.slice.injEq,Option.some.injEq,Addr.mk.injEq] at hv
  obtain ⟨⟨rfl,_,_⟩,-,rfl⟩:=hv
  exact frozen_of_row w g t cur e hg
theorem zhl {w:World} {base n cap:Nat} (h:w.ownsRow base e 2 (.slice (some ⟨g,0,none⟩) n cap) n (spV L)):SRow w (some ⟨g,0,none⟩) n cap L:=(Row.of_own h).2
theorem zdn {w:World} {base n cap:Nat} (h:w.ownsRow base e 2 (.slice (some ⟨g,0,none⟩) n cap) n (spV L)) (k:Nat) (hk:k<n) :
  w.cell? ⟨g,k*2,none⟩=some (.int .i64 (L.getD k (0,0)).1)/\w.cell? ⟨g,k*2+1,none⟩=some (.int .i64 (L.getD k (0,0)).2):=by
 obtain ⟨b,off,hb,_,hc⟩:=SRow.at (zhl h) k hk
 simp only [Option.some.injEq,Addr.mk.injEq] at hb
 obtain ⟨rfl,rfl,_⟩:=hb
 simpa using hc k hk
theorem spV_set:∀(L:List (Int×Int)) (k:Nat) (x:Int×Int),((spV L).set (k*2) (.int .i64 x.1)).set (k*2+1) (.int .i64 x.2)=spV (L.set k x)
 | [],k,x=>by simp [spV]
 | y::L,0,x=>by simp [spV]
 | y::L,k+1,x=>by
  have:=spV_set L k x
  rw [show (k+1)*2=k*2+1+1 from by omega]
  simp only [spV,List.set_cons_succ,this]
theorem spV_take:∀(L:List (Int×Int)) (k:Nat),(spV L).take (k*2)=spV (L.take k)
 | [],k=>by simp [spV]
 | y::L,0=>by simp [spV]
 | y::L,k+1=>by
  have:=spV_take L k
  rw [show (k+1)*2=k*2+1+1 from by omega]
  simp only [spV,List.take_succ_cons,this]
theorem clear_tail {w:World} {base n cap:Nat} (h:w.ownsRow base 129 2 (.slice (some ⟨g,0,none⟩) n cap) n (spV L)) (hi:i<n) :
  ∃w',(∀ty,(Builtin.clear_ #[50] ty #[.slice (some ⟨g,i*2,none⟩) (n - i) (cap - i)]).run Tryz.prog w=.ok (.tuple #[]) w') /\
   w'.ownsRow base 129 2 (.slice (some ⟨g,0,none⟩) i cap) i (spV (L.take i))/\w.grownBy w' (some g):=by
 obtain ⟨h1,h2⟩:=h
 rcases h2 with ⟨h3,_⟩|⟨g',cap',cur,hv,hbg,hg,hle,hcm,hcs,htk⟩
 ·cases h3
 simp only [Value.slice.injEq,Option.some.injEq,Addr.mk.injEq] at hv
 obtain ⟨⟨rfl,_,_⟩,-,rfl⟩:=hv
 have hz:∀w,(zeroValue 129).run Tryz.prog w=.ok (.agg #[.int .i64 0,.int .i64 0]) w:=Tryz.zeroValue129
 have hzc:(Value.agg #[.int .i64 0,.int .i64 0]).cells=#[.int .i64 0,.int .i64 0]:=rfl
 have hlen:(Builtin.zeroCells (#[.int .i64 0,.int .i64 0]:Array Value) (n-i)).toList.length=(n-i)*2:=by simp [Builtin.zeroCells]
 have h1c:∀v∈(Builtin.zeroCells (#[.int .i64 0,.int .i64 0]:Array Value) (n-i)).toList,v.oneCell'=true:=by
  intro v hv
  simp [Builtin.zeroCells] at hv
  obtain ⟨q,_,rfl⟩:=hv
  rcases Nat.mod_two_eq_zero_or_one q with h0|h0<;>rw [h0]<;>rfl
 have hll:L.length=n:=by rw [zbS] at h1;omega
 have hst:=run_storeCells_at (P:=Tryz.prog) g (i*2) 129 (Builtin.zeroCells (#[.int .i64 0,.int .i64 0]:Array Value) (n-i)).toList 0 cur w hg (by rw [hlen,hcs];omega) h1c
 refine ⟨w.setRow g (cur.toList.take (i*2+0)++(Builtin.zeroCells (#[.int .i64 0,.int .i64 0]:Array Value) (n-i)).toList++cur.toList.drop (i*2+0+(Builtin.zeroCells (#[.int .i64 0,.int .i64 0]:Array Value) (n-i)).toList.length)).toArray,fun ty=>?_,?_,?_⟩
 ·obtain ⟨m,hm⟩:∃m,n-i=m+1:=⟨n-i-1,by omega⟩
  have hzc2:(Builtin.zeroCells (Value.agg #[.int .i64 0,.int .i64 0]).cells (m+1)).toList=(Builtin.zeroCells (#[.int .i64 0,.int .i64 0]:Array Value) (n-i)).toList:=by rw [hm,hzc]
  generalize (Builtin.zeroCells (#[.int .i64 0,.int .i64 0]:Array Value) (n-i)).toList=Z at *
  rw [hm]
  simp [Builtin.clear_,run_underlying Tryz.underlying50,hz,hzc2,hst]
 ·refine ⟨by rw [zbS];simp [hll];omega,.inr ⟨g,cap,_,rfl,hbg,setRow_heap w g cur _ _ (0,0) hg,by omega,hcm,?_,?_⟩⟩
  ·simp only [List.size_toArray,List.length_append,List.length_take,ym,Array.length_toList,hlen]
   omega
  ·rw [Nat.add_zero,List.append_assoc,List.take_append_of_le_length (by simp;omega),List.take_take,Nat.min_self]
   have:(cur.toList.take (n*2)).take (i*2)=(spV L).take (i*2):=by rw [htk]
   rw [List.take_take,Nat.min_eq_left (by omega)] at this
   rw [this,spV_take]
 ·exact ⟨rfl,rfl,rfl,by simp,fun k _ hne=>setRow_other w g k _ (fun e=>hne (by rw [e]))⟩
def full (L:List (Int×Int)):List (Int×Int):=L.filter fun x=>!emp x
theorem full_all (h:∀x∈L,emp x=false):full L=L:=List.filter_eq_self.2 fun x hx=>by rw [h x hx];rfl
theorem zbz (L:List (Int×Int)) (k:Nat) (h:k<L.length):L.take (k+1)=L.take k++[L.getD k (0,0)]:=by
 rw [List.take_succ_eq_append_getElem h];simp [List.getD,h]
theorem zfE (L:List (Int×Int)) (k:Nat) (h:k<L.length):full (L.take (k+1))=full (L.take k)++if emp (L.getD k (0,0))=true then [] else [L.getD k (0,0)]:=by
 rw [zbz L k h]
 unfold full
 rw [List.filter_append]
 congr 1
 cases hE:emp (L.getD k (0,0)) with
 | true=>rw [yg rfl,List.filter_cons,hE,List.filter_nil];rfl
 | false=>rw [yh (by simp),List.filter_cons,hE,List.filter_nil];rfl
def DelEnd (base g cap:Nat) (L:List (Int×Int)) (w:World) (e:Ending) (w':World):Prop :=
 ∃k,e=.returned (.slice (some ⟨g,0,none⟩) k cap)/\w'.ownsRow base 129 2 (.slice (some ⟨g,0,none⟩) k cap) k (spV (full L))/\zaj (fun b=>b=g) w w'
structure zfW (base g n cap:Nat) (L:List (Int×Int)) (w:World) (i j:Nat) (R:List (Int×Int)) (wr:World):Prop where
 own:wr.ownsRow base 129 2 (.slice (some ⟨g,0,none⟩) n cap) n (spV R)
 keeps:zaj (fun b=>b=g) w wr
 head:R.take i=full (L.take j)
 rest:∀q,j<=q->R.getD q (0,0)=L.getD q (0,0)
theorem zfW.len {base n cap:Nat} {w wr:World} (h:zfW base g n cap L w i j R wr):R.length=n:=by
 have:=h.own.1;rw [zbS] at this;omega
theorem zfW.drop {base n cap:Nat} {w wr:World} (h:zfW base g n cap L w i j R wr) (hj:j<L.length) (he:emp (L.getD j (0,0))=true) {wr2:World} (ho:wr2.ownsRow base 129 2 (.slice (some ⟨g,0,none⟩) n cap) n (spV R)) (hk:zaj (fun b=>b=g) w wr2) :
  zfW base g n cap L w i (j+1) R wr2 :=
 ⟨ho,hk,by rw [zfE L j hj,yg he,List.append_nil];exact h.head,fun q hq=>h.rest q (by omega)⟩
theorem zfW.keep {base n cap:Nat} {w wr:World} (h:zfW base g n cap L w i j R wr) (hij:i<j) (hj:j<L.length) (hl:L.length=n) (he:emp (L.getD j (0,0))=false) {wr2:World}
  (ho:wr2.ownsRow base 129 2 (.slice (some ⟨g,0,none⟩) n cap) n (spV (R.set i (L.getD j (0,0))))) (hk:zaj (fun b=>b=g) w wr2) :
  zfW base g n cap L w (i+1) (j+1) (R.set i (L.getD j (0,0))) wr2:=by
 have hR:=h.len
 refine ⟨ho,hk,?_,fun q hq=>?_⟩
 ·rw [zfE L j hj,yh (by rw [he];simp),zbz _ i (by simp;omega),<-h.head]
  congr 1
  ·exact List.take_set_of_le (yp _)
  ·simp [List.getD,show i<R.length from by omega]
 ·have h1:=h.rest q (by omega)
  rw [<-h1]
  simp [List.getD,show ¬i=q from by omega]
theorem delete_any (base g n cap:Nat) (L:List (Int×Int)) (w:World) (h:w.ownsRow base 129 2 (.slice (some ⟨g,0,none⟩) n cap) n (spV L)) :
  Calls Tryz.prog 166 #[.slice (some ⟨g,0,none⟩) n cap,.func (.func 136) #[] #[]] w (DelEnd base g cap L w):=by
 have hr:=zhl h
 have hm:=hr.i64
 have hmc:=hr.i64c
 have hncap:=hr.2.1
 have hl:=hr.len
 have eg:=zeG
 have hgl:=(h.lt g rfl).2
 have hix:=zgB _ n cap L w hr
 have HIX:=yb hix
 have HL:=yb hl
 have HO:=yb h
 clear hix hl hr h
 go_enter Tryz.func166,Tryz.ntmps166
 go_wp2_with fail
 refine HIX.out.mono ?_
 rintro e w1 ⟨r,rfl,hF,hb1⟩
 have hO1:=zaO HO.out hb1
 have hK1:zaj (fun b=>b=g) w w1:=⟨hb1.os,hb1.tape,hb1.output,hb1.size,fun b hb _=>hb1.block b hb⟩
 have HO1:=yb hO1
 have HK1:=yb hK1
 clear hO1 hK1 hb1
 rcases hF with ⟨rfl,hall⟩|⟨k,rfl,hk,hek,hlt⟩
 ·have HA:=yb hall
  clear hall
  go_wp2
  go_ret
  exact ⟨n,rfl,by rw [full_all HA.out];exact HO1.out,HK1.out⟩
 ·have hkn:k<n:=by rw [<-HL.out];exact hk
  have hne:((k:Int)==-1)=false:=by rw [yf];omega
  have hstart:zfW base g n cap L w k (k+1) L w1:=⟨HO1.out,HK1.out,by
   rw [zfE L k hk,yg hek,List.append_nil,full_all (fun x hx=>?_)]
   obtain ⟨j,hj,he⟩:=List.mem_iff_getElem.1 hx
   have hjk:j<k:=by simp at hj;omega
   have:=hlt j hjk
   have hjl:j<L.length:=by omega
   rw [List.getElem_take] at he
   simpa [List.getD,hjl,he] using this,fun q _=>rfl⟩
  have HST:=yb hstart
  clear hstart hek hlt HO1 HK1 hk
  go_wp2
  go_loopw [5,6] (fun vi vj wr=>∃(i j:Nat) (R:List (Int×Int)),vi=.int .i64 i/\vj=.int .i64 j/\i<j/\j<=n/\Hid (zfW base g n cap L w i j R wr)) (fun _ vj _=>n-(intOf vj).toNat)
  case atStart=>exact ⟨k,k+1,L,rfl,by go_num,by omega,by omega,HST⟩
  case round =>
   obtain ⟨i,j,R,rfl,rfl,hij,hjn,HD⟩:=hrel
   clear HST
   by_cases hlt:j<n
   ·obtain ⟨c0,c1⟩:=zdn HD.out.own j hlt
    rw [HD.out.rest j (yp _)] at c0 c1
    have hjl:j<L.length:=by rw [HL.out];exact hlt
    obtain ⟨x,y,hxy⟩:∃x y,L.getD j (0,0)=(x,y):=⟨_,_,rfl⟩
    rw [hxy] at c0 c1
    have HXY:=yb hxy
    simp only at c0 c1
    have hem:=fun W=>zfO x y W
    generalize hb2:emp (x,y)=be at hem
    have HBE:=yb hb2
    have HEM:=yb hem
    have hglr:g<wr.heap.size:=(HD.out.own.lt g rfl).2
    clear hem hb2 hxy
    cases be
    ·obtain ⟨d0,d1⟩:=zdn HD.out.own i (by omega)
     have f0:=zdJ HD.out.own (i*2)
     have f1:=zdJ HD.out.own (i*2+1)
     go_wp2_with fail
     refine (HEM.out _).mono ?_
     rintro e w' ⟨rfl,rfl⟩
     go_wp2
     go_roundw
     case rel =>
      have h1:=zg2 (zg2 HD.out.own (i*2) (.int .i64 x)) (i*2+1) (.int .i64 y)
      rw [spV_set R i (x,y),<-HXY.out] at h1
      exact ⟨i+1,j+1,R.set i (L.getD j (0,0)),by go_num,by go_num,by omega,by omega,yb (HD.out.keep hij hjl HL.out (by rw [HXY.out];exact HBE.out) ((h1.alloc _).alloc _) ((((HD.out.keeps.setCell (.inl rfl) _).setCell (.inl rfl) _).alloc _).alloc _))⟩
     case measure=>simp [intOf];omega
    ·go_wp2_with fail
     refine (HEM.out _).mono ?_
     rintro e w' ⟨rfl,rfl⟩
     go_wp2
     go_roundw
     case rel=>exact ⟨i,j+1,R,rfl,by go_num,by omega,by omega,yb (HD.out.drop hjl (by rw [HXY.out];exact HBE.out) ((HD.out.own.alloc _).alloc _) ((HD.out.keeps.alloc _).alloc _))⟩
     case measure=>simp [intOf];omega
   ·obtain rfl:j=n:=by omega
    obtain ⟨w2,hrun,hown,hg2⟩:=clear_tail HD.out.own hij
    have hci:¬cap=i:=by omega
    have hhead:=HD.out.head
    rw [show L.take j=L from by rw [<-HL.out];exact List.take_length] at hhead
    rw [hhead] at hown
    have HOWN:=yb hown
    have HG2:=yb hg2
    have HHEAD:=yb hhead
    clear hown hg2 hhead
    go_wp2
    go_ret
    exact ⟨i,rfl,HOWN.out,HD.out.keeps.grown HG2.out (fun k hk=>.inl (by cases hk;rfl))⟩
theorem delete_nil (w:World) :
  Calls Tryz.prog 166 #[.slice none 0 0,.func (.func 136) #[] #[]] w fun e w'=>e=.returned (.slice none 0 0)/\Below w.heap.size w w':=by
 have hix:=zgB none 0 0 [] w (Row.nil w 2)
 have HIX:=yb hix
 clear hix
 go_enter Tryz.func166,Tryz.ntmps166
 go_wp2_with fail
 refine HIX.out.mono ?_
 rintro e w1 ⟨r,rfl,hF,hb1⟩
 have hr:r=-1:=by
  rcases hF with ⟨h,_⟩|⟨k,_,hk,_⟩
  ·exact h
  ·simp at hk
 subst hr
 go_wp2
 go_ret
 exact ⟨rfl,hb1⟩
end Go.Proofs.YtfafdeemfeaedaaGreat
