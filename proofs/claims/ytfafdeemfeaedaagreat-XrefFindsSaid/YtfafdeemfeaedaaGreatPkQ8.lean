/-
  Our texts Pad to Cp1, in one.
-/
import Derived.Test.YtfafdeemfeaedaaGreatPkQ7
import Derived.PlainAid
import Derived.Test.YtfafdeemfeaedaaGreatProg
import Derived.Lib.Bytealg
import Derived.Deep.RegionHeld3
import Derived.WalkKit
import Derived.Lib.SlBytesConst
import Derived.Maps.OwnOps
import Derived.Maps.OwnSet
import Derived.Maps.Views
import Derived.StillTailTactics
set_option maxRecDepth 8000
set_option maxHeartbeats 8000000
namespace Go.Proofs.YtfafdeemfeaedaaGreat
open Go.RowKit
def mkS (l:List UInt8):ByteArray:=⟨l.toArray⟩
theorem zft (l:List UInt8):bl (mkS l)=l:=rfl
theorem mkS_bl (s:ByteArray):mkS (bl s)=s:=rfl
theorem zbr (l:List UInt8):(mkS l).size=l.length:=by unfold mkS;simp [ByteArray.size]
theorem mkS_app (a b:List UInt8):mkS a++mkS b=mkS (a++b):=ByteArray.mk_append_mk a b
theorem mkS_ext {a b:ByteArray} (h:bl a=bl b):a=b:=by rw [<-mkS_bl a,<-mkS_bl b,h]
theorem zcV {a b:ByteArray} (h:a=b):Ending.returned (.string a)=.returned (.string b):=by rw [h]
theorem zcF {a b:ByteArray} {x y:Int} (h:a=b) (h2:x=y):Ending.returned (.tuple #[.string a,.int .i64 x])=.returned (.tuple #[.string b,.int .i64 y]):=by rw [h,h2]
theorem dig_ext (d:Nat) (h:d<10):(⟨#[48,49,50,51,52,53,54,55,56,57]⟩:ByteArray).extract d (d+1)=mkS [UInt8.ofNat (48+d)]:=by
 have:d=0\/d=1\/d=2\/d=3\/d=4\/d=5\/d=6\/d=7\/d=8\/d=9:=by omega
 rcases this with rfl|rfl|rfl|rfl|rfl|rfl|rfl|rfl|rfl|rfl<;>rfl
def TextEnd (n:Nat) (w:World) (e:Ending) (w':World):Prop:=e=.returned (.string (mkS (decL n)))/\∃q,w'=w.drewN q
theorem text9_any (n:Nat) (hn:n<18446744073709551616) (w:World):Calls Tryz.prog 105 #[.int .u64 n] w (TextEnd n w):=by
 induction n using Nat.strongRecOn generalizing w with
 | ind n ih =>
  by_cases h:n<10
  ·have HV:=ya (show (⟨#[48,49,50,51,52,53,54,55,56,57]⟩:ByteArray).extract n (n+1)=mkS (decL n) by rw [dig_ext n h,zbi h])
   clear ih
   go_enter Tryz.func105,Tryz.ntmps105
   go_wp2
   go_ret
   exact ⟨zcV HV.out,0,rfl⟩
  ·have hm:n % 10<10:=by omega
   have hd:n / 10<n:=by omega
   have hlen:=zbd 19 (n / 10) (by omega)
   have HV:=ya (show mkS (decL (n / 10))++(⟨#[48,49,50,51,52,53,54,55,56,57]⟩:ByteArray).extract (n % 10) (n % 10+1)=mkS (decL n) by
    rw [dig_ext _ hm,mkS_app,zcA (n:=n) (by omega)])
   have HI:=ya (fun W=>ih (n / 10) hd (by omega) W)
   have hsz:(mkS (decL (n / 10))).size<=20:=by rw [zbr];exact hlen
   have hdc:decide ((n:Int)<10)=false:=yd (by omega)
   have h10:(10:Int)<=n:=by omega
   clear ih hlen h
   unfold TextEnd at HI
   generalize mkS (decL (n / 10))=T at *
   go_enter Tryz.func105,Tryz.ntmps105
   go_wp2
   go_quiet ((go_at_call 105;exact Calls.quiet_of (HI.out _)))
   go_wp2
   go_ret
   exact ⟨zcV HV.out,_,rfl⟩
theorem zdt (N:Nat) (L:Int) (w:World) (hN:N<9223372036854775808) (hL1:1<=L) (hL2:L<=20) :
  Calls Tryz.prog 132 #[.int .i64 N,.int .i64 L] w fun e w'=>e=.returned (.string (mkS (padL N L.toNat)))/\w=w':=by
 obtain ⟨V,hV⟩:∃V,V=mkS (padL N L.toNat):=⟨_,rfl⟩
 rw [<-hV]
 have HV:=ya hV
 have HNN:=ya hN
 clear hV
 go_enter Tryz.func132,Tryz.ntmps132
 go_wp2
 go_loop [0,5,6] (fun n s i=>∃(k M:Nat) (S:ByteArray),k<=20/\n=.int .i64 M/\s=.string S/\i=.int .i64 k/\M<9223372036854775808/\Hid (M=N / 10 ^ k)/\Hid (S=mkS (fixD N k))/\Hid (L.toNat<k->N / 10 ^ (k-1)≠0)) (fun _ _ i=>20-(intOf i).toNat)
 case atStart=>exact ⟨0,N,⟨#[]⟩,by omega,rfl,rfl,rfl,hN,ya (by simp),ya rfl,ya (fun h=>by omega)⟩
 case round =>
  obtain ⟨k,M,S,hk,rfl,rfl,rfl,hM,HM,HS,HL⟩:=hrel
  have hsz:S.size=k:=by rw [HS.out,zbr,fixD_len]
  have HNEXT:=ya (show (⟨#[48,49,50,51,52,53,54,55,56,57]⟩:ByteArray).extract (M % 10) (M % 10+1)++S=mkS (fixD N (k+1)) by
   rw [dig_ext _ (by omega),HS.out,mkS_app,HM.out];rfl)
  have HM2:=ya (show M / 10=N / 10 ^ (k+1) by rw [HM.out,Nat.div_div_eq_div_mul,Nat.pow_succ])
  clear hN
  by_cases hk20:k<20
  ·have d1:decide ((k:Int)<20)=true:=by simp;omega
   by_cases hM0:0<M
   ·have d2:decide ((0:Int)<M)=true:=by simp;omega
    have HL2:=ya (show L.toNat<k+1->N / 10 ^ (k+1-1)≠0 from fun _=>by rw [show k+1-1=k from rfl,<-HM.out];omega)
    go_wp2
    go_round
    case rel=>exact ⟨k+1,M / 10,_,by omega,by go_num,rfl,by go_num,by omega,HM2,HNEXT,HL2⟩
    case measure=>simp [intOf];omega
   ·have d2:decide ((0:Int)<M)=false:=yd (by omega)
    have d2':M=0:=by omega
    by_cases hkL:(k:Int)<L
    ·have d3:decide ((k:Int)<L)=true:=by simpa using hkL
     have HL2:=ya (show L.toNat<k+1->N / 10 ^ (k+1-1)≠0 from fun h=>by omega)
     subst d2'
     go_wp2
     go_round
     case rel=>exact ⟨k+1,0,_,by omega,by go_num,rfl,by go_num,by omega,HM2,HNEXT,HL2⟩
     case measure=>simp [intOf];omega
    ·have d3:decide ((k:Int)<L)=false:=by simpa using hkL
     have HE:=ya (show S=V by rw [HV.out,HS.out,fixD_end N L.toNat k (by omega) (by omega) (by rw [<-HM.out];exact d2') HL.out])
     subst d2'
     go_wp2
     go_ret
     exact ⟨zcV HE.out,rfl⟩
  ·obtain rfl:k=20:=by omega
   have HE:=ya (show S=V by
    rw [HV.out,HS.out,fixD_end N L.toNat 20 (by omega) (by omega) (Nat.div_eq_of_lt (by have:=HNN.out;omega)) HL.out])
   go_wp2
   go_ret
   exact ⟨zcV HE.out,rfl⟩
theorem zeros_ext (k:Nat) (h:k<=64):(mkS (List.replicate 64 48)).extract 0 k=mkS (List.replicate k 48):=by
 apply mkS_ext
 rw [bl_to,zft,zft,List.take_replicate,Nat.min_eq_left h]
theorem case20 (k:Nat) (h:k<20):k=0\/k=1\/k=2\/k=3\/k=4\/k=5\/k=6\/k=7\/k=8\/k=9\/k=10\/k=11\/k=12\/k=13\/k=14\/k=15\/k=16\/k=17\/k=18\/k=19:=by omega
theorem mul64_any (k:Nat) (h:k<20) (w:World):Calls Tryz.prog 171 #[.int .u64 1,.int .u64 k] w fun e w'=>e=.returned (.tuple #[.int .u64 0,.int .u64 k])/\w=w':=by
 rcases case20 k h with rfl|rfl|rfl|rfl|rfl|rfl|rfl|rfl|rfl|rfl|rfl|rfl|rfl|rfl|rfl|rfl|rfl|rfl|rfl|rfl
 all_goals
  go_enter Tryz.func171,Tryz.ntmps171
  go_wp2
  go_ret2
  exact ⟨rfl,rfl⟩
theorem mul_any (k:Nat) (h:k<20) (w:World):Calls Tryz.prog 142 #[.int .u64 1,.int .u64 k] w fun e w'=>e=.returned (.tuple #[.int .u64 0,.int .u64 k])/\w=w':=by
 have HM:=ya (fun W=>mul64_any k h W)
 go_enter Tryz.func142,Tryz.ntmps142
 go_wp2_with (go_at_call 171;refine (HM.out _).mono ?_;rintro e w' ⟨rfl,rfl⟩)
 go_ret2
 exact ⟨rfl,rfl⟩
set_option maxRecDepth 100000 in
theorem repeat_any (k:Nat) (h:k<20) (w:World):Calls Tryz.prog 106 #[.string ⟨#[48]⟩,.int .i64 k] w fun e w'=>e=.returned (.string (mkS (List.replicate k 48)))/\w=w':=by
 have HM:=ya (fun W=>mul_any k h W)
 obtain ⟨V,hV⟩:∃V,V=mkS (List.replicate k 48):=⟨_,rfl⟩
 rw [<-hV]
 have HV:=ya hV
 clear hV
 by_cases h0:k=0
 ·subst h0
  go_enter Tryz.func106,Tryz.ntmps106
  go_wp2
  go_ret
  exact ⟨zcV HV.out.symm,rfl⟩
 by_cases h1:k=1
 ·subst h1
  go_enter Tryz.func106,Tryz.ntmps106
  go_wp2
  go_ret
  exact ⟨zcV HV.out.symm,rfl⟩
 have h0d:((k:Int)==0)=false:=by rw [ye];omega
 have h1d:((k:Int)==1)=false:=by rw [ye];omega
 have hn:decide ((k:Int)<0)=false:=yd (by omega)
 have hk19:(k:Int)<=19:=by omega
 have hk0:(0:Int)<=k:=by omega
 have h128:decide ((k:Int)<=128)=true:=yb (by omega)
 have h64:decide ((k:Int)<=64)=true:=yb (by omega)
 have HE:=ya (show (mkS (List.replicate 64 48)).extract 0 k=V by rw [HV.out];exact zeros_ext k (by omega))
 clear h0 h1
 go_enter Tryz.func106,Tryz.ntmps106
 go_wp2_with fail
 refine (HM.out _).mono ?_
 rintro e w' ⟨rfl,rfl⟩
 go_wp2_with fail
 refine (ze7 _ 48 _ (by decide)).mono ?_
 rintro e w' ⟨rfl,rfl⟩
 rw [show hd1 _ 48=false from rfl]
 go_wp2_with fail
 refine (ze7 _ 48 _ (by decide)).mono ?_
 rintro e w' ⟨rfl,rfl⟩
 rw [show hd1 _ 48=false from rfl]
 go_wp2_with fail
 refine (ze7 _ 48 _ (by decide)).mono ?_
 rintro e w' ⟨rfl,rfl⟩
 rw [show hd1 _ 48=true from rfl]
 go_wp2
 go_ret
 exact ⟨zcV HE.out,rfl⟩
def PadEnd (n d:Int) (w:World) (e:Ending) (w':World):Prop:=e=.returned (.tuple #[.string (mkS (padV n d).1),.int .i64 (padV n d).2])/\∃q,w'=w.drewN q
theorem zem {n d:Int} (h:n<0\/d<1\/20<d\/d<((decL n.toNat).length:Int)):padV n d=([],2):=by unfold padV;rw [yf h]
theorem padV_ok {N:Nat} {d:Int} (h1:1<=d) (h2:d<=20) (h3:((decL N).length:Int)<=d):padV N d=(padL N d.toNat,0):=by unfold padV;rw [yg (by simp;omega)];simp
theorem pad_any (n d:Int) (w:World) (hn:n<9223372036854775808) (hn0:-9223372036854775808<=n) (hd0:-9223372036854775808<=d) (hd1:d<=9223372036854775807) :
  Calls Tryz.prog 73 #[.int .i64 n,.int .i64 d] w (PadEnd n d w):=by
 obtain ⟨V,hV⟩:∃V,V=padV n d:=⟨_,rfl⟩
 unfold PadEnd
 rw [<-hV]
 have HV:=ya hV
 clear hV
 by_cases h1:n<0
 ·have HE:=ya (show V=([],2) by rw [HV.out];exact zem (.inl h1))
  clear hn hn0 hd0 hd1
  go_enter Tryz.func73,Tryz.ntmps73
  go_wp2
  go_ret2
  exact ⟨by rw [HE.out];rfl,0,rfl⟩
 have h1d:decide (n<0)=false:=by simpa using h1
 by_cases h2:d<1
 ·have HE:=ya (show V=([],2) by rw [HV.out];exact zem (.inr (.inl h2)))
  clear hn hn0 hd0 hd1 h1
  go_enter Tryz.func73,Tryz.ntmps73
  go_wp2
  go_ret2
  exact ⟨by rw [HE.out];rfl,0,rfl⟩
 have h2d:decide (d<1)=false:=by simpa using h2
 by_cases h3:20<d
 ·have HE:=ya (show V=([],2) by rw [HV.out];exact zem (.inr (.inr (.inl h3))))
  clear hn hn0 hd0 hd1 h1 h2
  go_enter Tryz.func73,Tryz.ntmps73
  go_wp2
  go_ret2
  exact ⟨by rw [HE.out];rfl,0,rfl⟩
 have h3d:decide (20<d)=false:=by simpa using h3
 obtain ⟨N,rfl⟩:=Int.eq_ofNat_of_zero_le (show 0<=n by omega)
 have h2':1<=d:=by omega
 have h3':d<=20:=by omega
 have HT:=ya (fun W=>text9_any N (by omega) W)
 unfold TextEnd at HT
 have hsz:(mkS (decL N)).size=(decL N).length:=zbr _
 have hl1:=(zb7 N).2.2
 have hconv:IntKind.u64.wrap (N:Int)=(N:Int):=IntWalk.u64_in _ (by omega)
 clear hn hn0 hd0 hd1 h1 h2 h3
 by_cases h4:d<((decL N).length:Int)
 ·have HE:=ya (show V=([],2) by rw [HV.out];exact zem (.inr (.inr (.inr (by simpa using h4)))))
  generalize (decL N).length=len at *
  generalize mkS (decL N)=T at *
  go_enter Tryz.func73,Tryz.ntmps73
  go_wp2_with (go_at_call 105;refine (HT.out _).mono ?_;rintro e w' ⟨rfl,q,rfl⟩)
  go_ret2
  exact ⟨by rw [HE.out];rfl,q,rfl⟩
 ·have h4d:decide (d<((decL N).length:Int))=false:=by simpa using h4
  obtain ⟨k,hk⟩:=Int.eq_ofNat_of_zero_le (show 0<=d-((decL N).length:Int) by omega)
  have HR:=ya (fun W=>repeat_any k (by omega) W)
  have hzz:(mkS (List.replicate k 48)).size=k:=by rw [zbr,List.length_replicate]
  have hk19:k<=19:=by omega
  have hl20:(decL N).length<=20:=by omega
  have HE:=ya (show V=(bl (mkS (List.replicate k 48)++mkS (decL N)),0) by
   rw [HV.out,padV_ok h2' h3' (by omega),mkS_app,zft]
   unfold padL
   rw [show d.toNat-(decL N).length=k from by omega])
  clear h4
  generalize (decL N).length=len at *
  generalize mkS (decL N)=T at *
  generalize mkS (List.replicate k 48)=Z at *
  go_enter Tryz.func73,Tryz.ntmps73
  go_wp2_with (first
   |(go_at_call 105;refine (HT.out _).mono ?_;rintro e w' ⟨rfl,q,rfl⟩)
   |(go_at_call 106;refine (HR.out _).mono ?_;rintro e w' ⟨rfl,rfl⟩))
  go_ret2
  exact ⟨by rw [HE.out];rfl,q,rfl⟩
theorem zdz (k n:Int) (s:ByteArray) (a:Option Addr) (m c:Nat) (w:World) (hm:(m:Int)<=9223372036854775807) :
  Calls Tryz.prog 131 #[.agg #[.int .i64 k,.int .i64 n,.string s,.slice a m c]] w fun e w'=>e=.returned (.int .i64 (zaI k n (zbn s m)))/\Below w.heap.size w w':=by
 obtain ⟨V,hV⟩:∃V,V=zaI k n (zbn s m):=⟨_,rfl⟩
 rw [<-hV]
 unfold zaI at hV
 have HB:=ya (zag w (.cells #[.int .i64 k,.int .i64 n,.string s,.slice a m c] 27))
 by_cases h3:s.toList=[]
 ·have h3e:s.toList.isEmpty=true:=by rw [h3];rfl
  by_cases h4:m=0
  ·have hb:zbn s m=true:=by unfold zbn;rw [<-toL,h3,h4];rfl
   subst h4
   rw [hb] at hV
   by_cases hk2:k=2
   ·subst hk2
    by_cases h5:-2147483647<=n
    ·by_cases h6:n<=2147483647
     ·have HV:=ya (show V=0 by rw [hV,yf];exact ⟨rfl,.inl ⟨rfl,h5,h6⟩⟩)
      clear hV
      go_enter Tryz.func131,Tryz.ntmps131
      go_wp2
      go_ret
      exact ⟨zav HV.out.symm,HB.out⟩
     ·have HV:=ya (show V=2 by rw [hV,yg];rintro ⟨-,h|h⟩<;>omega)
      have h6d:decide (n<=2147483647)=false:=by simpa using h6
      clear hV h6
      go_enter Tryz.func131,Tryz.ntmps131
      go_wp2
      go_ret
      exact ⟨zav HV.out.symm,HB.out⟩
    ·have HV:=ya (show V=2 by rw [hV,yg];rintro ⟨-,h|h⟩<;>omega)
     have h5d:decide (-2147483647<=n)=false:=by simpa using h5
     clear hV h5
     go_enter Tryz.func131,Tryz.ntmps131
     go_wp2
     go_ret
     exact ⟨zav HV.out.symm,HB.out⟩
   ·have hk2d:(k==2)=false:=by rw [ye];exact hk2
    by_cases hk3:k=3
    ·subst hk3
     by_cases h5:-2147483647000000<=n
     ·by_cases h6:n<=2147483647000000
      ·have HV:=ya (show V=0 by rw [hV,yf];exact ⟨rfl,.inr ⟨rfl,h5,h6⟩⟩)
       clear hV hk2d
       go_enter Tryz.func131,Tryz.ntmps131
       go_wp2
       go_ret
       exact ⟨zav HV.out.symm,HB.out⟩
      ·have HV:=ya (show V=2 by rw [hV,yg];rintro ⟨-,h|h⟩<;>omega)
       have h6d:decide (n<=2147483647000000)=false:=by simpa using h6
       clear hV h6 hk2d
       go_enter Tryz.func131,Tryz.ntmps131
       go_wp2
       go_ret
       exact ⟨zav HV.out.symm,HB.out⟩
     ·have HV:=ya (show V=2 by rw [hV,yg];rintro ⟨-,h|h⟩<;>omega)
      have h5d:decide (-2147483647000000<=n)=false:=by simpa using h5
      clear hV h5 hk2d
      go_enter Tryz.func131,Tryz.ntmps131
      go_wp2
      go_ret
      exact ⟨zav HV.out.symm,HB.out⟩
    ·have hk3d:(k==3)=false:=by rw [ye];exact hk3
     have HV:=ya (show V=2 by rw [hV,yg];rintro ⟨-,h|h⟩<;>omega)
     clear hV hk2 hk3
     go_enter Tryz.func131,Tryz.ntmps131
     go_wp2
     go_ret
     exact ⟨zav HV.out.symm,HB.out⟩
  ·have HV:=ya (show V=2 by rw [hV,yg];rintro ⟨h,-⟩;unfold zbn at h;simp at h;exact h4 h.2)
   have h4d:((m:Int)==0)=false:=by rw [ye];omega
   have h4e:((m:Int) != 0)=true:=by rw [bne_iff_ne];omega
   clear hV h4
   go_enter Tryz.func131,Tryz.ntmps131
   go_wp2
   go_ret
   exact ⟨zav HV.out.symm,HB.out⟩
 ·have HV:=ya (show V=2 by rw [hV,yg];rintro ⟨h,-⟩;unfold zbn at h;rw [<-toL] at h;simp at h;exact h3 h.1)
  have h3e:s.toList.isEmpty=false:=by simpa using h3
  clear hV
  go_enter Tryz.func131,Tryz.ntmps131
  go_wp2
  go_ret
  exact ⟨zav HV.out.symm,HB.out⟩
theorem xmay_any (e:Ent) (w:World):Calls Tryz.prog 72 #[entA e] w fun x w'=>x=.returned (.bool (zce e))/\Below w.heap.size w w':=by
 obtain ⟨a,g,u⟩:=e
 unfold entA zce
 simp only
 by_cases h1:0<=a
 ·by_cases h2:a<=2147483647
  ·by_cases h3:0<=g
   ·go_enter Tryz.func72,Tryz.ntmps72
    go_wp2
    go_ret
    exact ⟨by simp [h1,h2,h3],zag w _⟩
   ·go_enter Tryz.func72,Tryz.ntmps72
    go_wp2
    go_ret
    exact ⟨by simp;omega,zag w _⟩
  ·go_enter Tryz.func72,Tryz.ntmps72
   go_wp2
   go_ret
   exact ⟨by simp;omega,zag w _⟩
 ·go_enter Tryz.func72,Tryz.ntmps72
  go_wp2
  go_ret
  exact ⟨by simp;omega,zag w _⟩
theorem pad_is {n d:Int} (h0:0<=n) (h1:1<=d) (h2:d<=20) (h3:((decL n.toNat).length:Int)<=d):padV n d=(padL n.toNat d.toNat,0):=by
 unfold padV
 rw [yg (by omega)]
theorem mkB_add (a b:List UInt8):mkB a++mkB b=mkB (a++b):=ByteArray.mk_append_mk a b
def entR (e:Ent):List UInt8×Int:=if zce e=true then (entL e,0) else ([],2)
theorem xent_any (e:Ent) (w:World):Calls Tryz.prog 40 #[entA e] w fun x w'=>x=.returned (.tuple #[.string (mkB (entR e).1),.int .i64 (entR e).2])/\Below w.heap.size w w':=by
 have HM:=ya (fun (W:World)=>xmay_any e W)
 have HPA:=ya (fun (W:World) (h:zce e=true)=>pad_any e.at_ 10 W (by have:=(zba.1 h);omega) (by have:=(zba.1 h);omega) (by decide) (by decide))
 have HPG:=ya (fun (W:World) (h:zce e=true)=>pad_any e.gen 5 W (by have:=(zba.1 h);omega) (by have:=(zba.1 h);omega) (by decide) (by decide))
 have HA:=ya (fun (h:zce e=true)=>pad_is (n:=e.at_) (d:=10) (by have:=(zba.1 h);omega) (by decide) (by decide) (by have:=(zba.1 h);have:=zbd 9 e.at_.toNat (by omega);omega))
 have HG:=ya (fun (h:zce e=true)=>pad_is (n:=e.gen) (d:=5) (by have:=(zba.1 h);omega) (by decide) (by decide) (by have:=(zba.1 h);have:=zbd 4 e.gen.toNat (by omega);omega))
 have HLA:=ya (fun (h:zce e=true)=>show (padL e.at_.toNat 10).length<=20 by have:=(zba.1 h);have:=zbd 9 e.at_.toNat (by omega);rw [zeo (by omega)];omega)
 have HLG:=ya (fun (h:zce e=true)=>show (padL e.gen.toNat 5).length<=20 by have:=(zba.1 h);have:=zbd 4 e.gen.toNat (by omega);rw [zeo (by omega)];omega)
 unfold PadEnd at HPA HPG
 unfold entR entL entB
 unfold entA at HM |-
 obtain ⟨ea,eg,eu⟩:=e
 simp only at HPA HPG HA HG HM HLA HLG |-
 have HB1:=ya (zag w (.cells #[.int .i64 ea,.int .i64 eg,.bool eu] 44))
 have HX1:=ya (zac (w:=w) (b:=w.heap.size) (.cells #[.int .i64 ea,.int .i64 eg,.bool eu] 44) rfl)
 cases hok:zce ⟨ea,eg,eu⟩ with
 | false =>
  rw [hok] at HM
  simp only [Bool.false_eq_true,if_false]
  clear HPA HPG HA HG hok
  go_enter Tryz.func40,Tryz.ntmps40
  go_upto_region 1 with fail
  generalize w.alloc _=W1 at *
  obtain ⟨⟨x0,x1,x2⟩,-⟩:=zbu HX1.out
  go_wp2_with (go_at_call 72;refine (HM.out _).mono ?_;rintro e w2 ⟨rfl,hb2⟩;have HB2:=yl HB1 hb2)
  go_ret2
  exact ⟨rfl,HB2.out⟩
 | true =>
  rw [hok] at HM
  rw [yf rfl]
  have HPA2:=ya (fun W=>HPA.out W hok)
  have HPG2:=ya (fun W=>HPG.out W hok)
  replace HLA:=ya (HLA.out hok)
  replace HLG:=ya (HLG.out hok)
  rw [HA.out hok] at HPA2
  rw [HG.out hok] at HPG2
  clear HPA HPG HA HG hok
  simp only at HPA2 HPG2 |-
  have HPL:=ya (show ∀c:UInt8,mkB ((padL ea.toNat 10++(32::(padL eg.toNat 5++[32,c,32])))++[10])=mkB (padL ea.toNat 10)++mkB [32]++mkB (padL eg.toNat 5)++mkB [32,c,32,10] from fun c=>by rw [mkB_add,mkB_add,mkB_add];congr 1;simp)
  rw [HPL.out]
  rw [show (10:Int).toNat=10 from rfl] at HPA2
  rw [show (5:Int).toNat=5 from rfl] at HPG2
  unfold mkS at HPA2 HPG2
  rw [show (⟨(padL ea.toNat 10).toArray⟩:ByteArray)=mkB (padL ea.toNat 10) from rfl] at HPA2
  rw [show (⟨(padL eg.toNat 5).toArray⟩:ByteArray)=mkB (padL eg.toNat 5) from rfl] at HPG2
  have hpa:(mkB (padL ea.toNat 10)).size<=20:=by rw [zaE];have:=HLA.out;omega
  have hpg:(mkB (padL eg.toNat 5)).size<=20:=by rw [zaE];have:=HLG.out;omega
  generalize mkB (padL ea.toNat 10)=pa at *
  generalize mkB (padL eg.toNat 5)=pg at *
  clear HPL
  go_enter Tryz.func40,Tryz.ntmps40
  go_upto_region 1 with fail
  generalize w.alloc _=W1 at *
  obtain ⟨⟨x0,x1,x2⟩,-⟩:=zbu HX1.out
  go_wp2_with fail
  refine (HM.out _).mono ?_
  rintro e w2 ⟨rfl,hb2⟩
  have HB2:=yl HB1 hb2
  have HX2:=ya (zaa hb2 HX1.out)
  clear HX1 HB1 hb2 x0 x1 x2
  obtain ⟨⟨x0,x1,x2⟩,-⟩:=zbu HX2.out
  cases eu
  all_goals
   go_wp2_with (first
    |(go_at_call_of 73 (Value.int .i64 10);refine (HPA2.out _).mono ?_;rintro e w3 ⟨rfl,q3,rfl⟩)
    |(go_at_call 73;refine (HPG2.out _).mono ?_;rintro e w4 ⟨rfl,q4,rfl⟩))
   go_ret2
   exact ⟨rfl,zad HB2.out _⟩
set_option maxRecDepth 100000 in
theorem bcmp_any (a b:ByteArray) (w:World):Calls Tryz.prog 149 #[.string a,.string b] w fun e w'=>e=.returned (.int .i64 (Lib.compareBytes a.data.toList b.data.toList))/\w=w':=by
 go_enter Tryz.func149,Tryz.ntmps149
 go_wp2
 rw [run_callFunc_extern Tryz.func175 (by kernel_rfl) (by kernel_rfl) (by kernel_rfl) (e:=Extern.BytealgCompare.compare) (by kernel_rfl),Lib.run_compareString]
 simp only [Result.andThen]
 rw [Oper.upon_value]
 go_wp2
 go_ret
 exact ⟨rfl,rfl⟩
theorem scmp_any (a b:ByteArray) (w:World):Calls Tryz.prog 109 #[.string a,.string b] w fun e w'=>e=.returned (.int .i64 (Lib.compareBytes a.data.toList b.data.toList))/\w=w':=by
 have HC:=ya (fun W=>bcmp_any a b W)
 go_enter Tryz.func109,Tryz.ntmps109
 go_wp2_with (go_at_call 149;refine (HC.out _).mono ?_;rintro e w' ⟨rfl,rfl⟩)
 go_ret
 exact ⟨rfl,rfl⟩
theorem isNaN_any (x:Int) (w:World):Calls Tryz.prog 148 #[.int .i64 x] w fun e w'=>e=.returned (.bool false)/\w=w':=by
 have h:(x != x)=false:=by simp
 go_enter Tryz.func148,Tryz.ntmps148
 go_wp2
 go_ret
 exact ⟨rfl,rfl⟩
theorem icmp_eq (x:Int) (w:World):Calls Tryz.prog 108 #[.int .i64 x,.int .i64 x] w fun e w'=>e=.returned (.int .i64 0)/\w=w':=by
 have HN:=ya (fun W=>isNaN_any x W)
 have h:decide (x<x)=false:=by simp
 go_enter Tryz.func108,Tryz.ntmps108
 go_wp2_with (go_at_call 148;refine (HN.out _).mono ?_;rintro e w' ⟨rfl,rfl⟩)
 go_ret
 exact ⟨rfl,rfl⟩
theorem zb4:∀l:List UInt8,Lib.compareBytes l l=0
 | []=>rfl
 | a::l=>by
  rw [Lib.compareBytes,yg (UInt8.lt_irrefl a),yg (UInt8.lt_irrefl a)]
  exact zb4 l
theorem or_zero {w:World} {b:Nat} (h0:w.cell? ⟨b,0,none⟩=some (.int .i64 0)) (h1:w.cell? ⟨b,1,none⟩=some (.int .i64 0)) (h2:w.cell? ⟨b,2,none⟩=some (.int .i64 0)) :
  Calls Tryz.prog 107 #[.slice (some ⟨b,0,none⟩) 3 3] w fun e w'=>e=.returned (.int .i64 0)/\w=w':=by
 have hc:∀j:Nat,j<3->w.cell? ⟨b,0+j,none⟩=some (.int .i64 0):=fun j hj=>by
  match j,hj with
  | 0,_=>exact h0
  | 1,_=>exact h1
  | 2,_=>exact h2
 have HC:=ya hc
 clear h0 h1 h2 hc
 go_enter Tryz.func107,Tryz.ntmps107
 go_wp2
 go_loop [8] (fun v=>∃j:Nat,v=.int .i64 j/\j<=3) (fun v=>3-(intOf v).toNat)
 case atStart=>exact ⟨0,rfl,by omega⟩
 case round =>
  obtain ⟨j,rfl,hj⟩:=hrel
  by_cases hl:j<3
  ·have hd:decide ((j:Int)<3)=true:=by simp;omega
   have hd2:decide (j<3)=true:=by simp;omega
   have hcj:=HC.out j hl
   rw [Nat.zero_add] at hcj
   have hji:(j:Int)<3:=by omega
   go_wp2
   go_round
   case rel=>exact ⟨j+1,by go_num,by omega⟩
   case measure=>simp [intOf];omega
  ·have hd:decide ((j:Int)<3)=false:=yd (by omega)
   have hd2:decide (j<3)=false:=yd (by omega)
   go_wp2
   go_ret
   exact ⟨rfl,rfl⟩
theorem cmpF_nil (a a':Option Addr) (c c':Nat) (f:Value) (w:World):Calls Tryz.prog 110 #[.slice a 0 c,.slice a' 0 c',f] w fun e w'=>e=.returned (.int .i64 0)/\w=w':=by
 go_enter Tryz.func110,Tryz.ntmps110
 go_wp2
 go_loop [13] (fun v=>v=.int .i64 0) (fun _=>0)
 case atStart=>rfl
 case round =>
  subst hrel
  go_wp2
  go_ret
  exact ⟨rfl,rfl⟩
theorem vcmp_leaf (k n:Int) (s:ByteArray) (a a':Option Addr) (c c':Nat) (w:World):Calls Tryz.prog 74 #[.agg #[.int .i64 k,.int .i64 n,.string s,.slice a 0 c],.agg #[.int .i64 k,.int .i64 n,.string s,.slice a' 0 c']] w fun e w'=>e=.returned (.int .i64 0)/\Below w.heap.size w w':=by
 have HI:=ya (fun x W=>icmp_eq x W)
 have HS:=ya (fun W=>scmp_any s s W)
 simp only [zb4] at HS
 have HF:=ya (fun f W=>cmpF_nil a a' c c' f W)
 have HO:=ya (fun (W:World) (b:Nat) (h0:W.cell? ⟨b,0,none⟩=some (.int .i64 0)) (h1:W.cell? ⟨b,1,none⟩=some (.int .i64 0)) (h2:W.cell? ⟨b,2,none⟩=some (.int .i64 0))=>or_zero h0 h1 h2)
 obtain ⟨B,hB⟩:∃B,B=w.heap.size:=⟨_,rfl⟩
 have HB1:=ya (zaT w (.cells #[.int .i64 k,.int .i64 n,.string s,.slice a 0 c] 27) (.cells #[.int .i64 k,.int .i64 n,.string s,.slice a' 0 c'] 27))
 have HX1:=ya (zai (w:=w.alloc (.cells #[.int .i64 k,.int .i64 n,.string s,.slice a 0 c] 27)) (.cells #[.int .i64 k,.int .i64 n,.string s,.slice a' 0 c'] 27) (zac (w:=w) (b:=B) (.cells #[.int .i64 k,.int .i64 n,.string s,.slice a 0 c] 27) hB))
 have HY1:=ya (zac (w:=w.alloc (.cells #[.int .i64 k,.int .i64 n,.string s,.slice a 0 c] 27)) (b:=B+1) (.cells #[.int .i64 k,.int .i64 n,.string s,.slice a' 0 c'] 27) (by rw [zan,hB]))
 go_enter Tryz.func74,Tryz.ntmps74
 go_upto_region 1 with fail
 try rw [<-hB]
 generalize World.alloc _ _=W1 at *
 clear hB
 generalize B+1=B2 at *
 go_cut [5] from 6 (fun v wx=>v=.int .i64 0/\Hid (Below W1.heap.size W1 wx))
 case first =>
  obtain ⟨⟨p0,p1,p2,p3⟩,-⟩:=zaj HX1.out
  obtain ⟨⟨q0,q1,q2,q3⟩,-⟩:=zaj HY1.out
  have HC3:=ya (zbu (zac (w:=W1) (b:=W1.heap.size) (.cells #[.int .i64 0,.int .i64 0,.int .i64 0] 3) rfl))
  have d0:=cell?_keep (Below.refl _ W1).drew p0
  have d1:=cell?_keep (Below.refl _ W1).drew p1
  have d2:=cell?_keep (Below.refl _ W1).drew p2
  have e0:=cell?_keep (Below.refl _ W1).drew q0
  have e1:=cell?_keep (Below.refl _ W1).drew q1
  have e2:=cell?_keep (Below.refl _ W1).drew q2
  go_region_held3 (fun w'=>w'.cell? ⟨B,0,none⟩=some (.int .i64 k)/\w'.cell? ⟨B,1,none⟩=some (.int .i64 n)/\w'.cell? ⟨B,2,none⟩=some (.string s)/\w'.cell? ⟨B2,0,none⟩=some (.int .i64 k)/\w'.cell? ⟨B2,1,none⟩=some (.int .i64 n)/\w'.cell? ⟨B2,2,none⟩=some (.string s)) (go_keep)
   ((first
    |(go_at_call 108;refine (HI.out _ _).mono ?_;rintro e w' ⟨rfl,rfl⟩)
    |(go_at_call 109;refine (HS.out _).mono ?_;rintro e w' ⟨rfl,rfl⟩)
    |(go_at_call 107;refine (HO.out _ _ (cell?_keep (Below.refl _ _).drew HC3.out.1.1) (cell?_keep (Below.refl _ _).drew HC3.out.1.2.1) (cell?_keep (Below.refl _ _).drew HC3.out.1.2.2)).mono ?_;rintro e w' ⟨rfl,rfl⟩)))
  all_goals (try go_wp2_with fail)
  all_goals go_meet
  all_goals exact ⟨rfl,ya (zag W1 _).drew⟩
 case rest =>
 obtain ⟨rfl,HB2⟩:=hcut
 have HX2:=ya (zaa HB2.out HX1.out)
 have HY2:=ya (zaa HB2.out HY1.out)
 obtain ⟨⟨p0,p1,p2,p3⟩,-⟩:=zaj HX2.out
 obtain ⟨⟨q0,q1,q2,q3⟩,-⟩:=zaj HY2.out
 go_wp2_with (go_at_call 110;refine (HF.out _ _).mono ?_;rintro e w' ⟨rfl,rfl⟩)
 go_ret
 exact ⟨rfl,HB1.out.trans (HB2.out.mono HB1.out.size)⟩
theorem vsame_leaf (k n:Int) (s:ByteArray) (a a':Option Addr) (c c':Nat) (w:World):Calls Tryz.prog 41 #[.agg #[.int .i64 k,.int .i64 n,.string s,.slice a 0 c],.agg #[.int .i64 k,.int .i64 n,.string s,.slice a' 0 c']] w fun e w'=>e=.returned (.bool true)/\Below w.heap.size w w':=by
 have HC:=ya (fun W=>vcmp_leaf k n s a a' c c' W)
 obtain ⟨B,hB⟩:∃B,B=w.heap.size:=⟨_,rfl⟩
 have HB1:=ya (zaT w (.cells #[.int .i64 k,.int .i64 n,.string s,.slice a 0 c] 27) (.cells #[.int .i64 k,.int .i64 n,.string s,.slice a' 0 c'] 27))
 have HX1:=ya (zai (w:=w.alloc (.cells #[.int .i64 k,.int .i64 n,.string s,.slice a 0 c] 27)) (.cells #[.int .i64 k,.int .i64 n,.string s,.slice a' 0 c'] 27) (zac (w:=w) (b:=B) (.cells #[.int .i64 k,.int .i64 n,.string s,.slice a 0 c] 27) hB))
 have HY1:=ya (zac (w:=w.alloc (.cells #[.int .i64 k,.int .i64 n,.string s,.slice a 0 c] 27)) (b:=B+1) (.cells #[.int .i64 k,.int .i64 n,.string s,.slice a' 0 c'] 27) (by rw [zan,hB]))
 go_enter Tryz.func41,Tryz.ntmps41
 go_upto_region 1 with fail
 try rw [<-hB]
 generalize World.alloc _ _=W1 at *
 clear hB
 generalize B+1=B2 at *
 obtain ⟨⟨p0,p1,p2,p3⟩,-⟩:=zaj HX1.out
 obtain ⟨⟨q0,q1,q2,q3⟩,-⟩:=zaj HY1.out
 go_wp2_with fail
 refine (HC.out _).mono ?_
 rintro e w2 ⟨rfl,hb2⟩
 have HB2:=yl HB1 hb2
 clear hb2
 go_wp2_with fail
 go_ret
 exact ⟨rfl,HB2.out⟩
theorem dict_nil (w:World):Calls Tryz.prog 42 #[.slice none 0 0] w fun e w'=>e=.returned (.agg #[.int .i64 7,.int .i64 0,.string ⟨#[]⟩,.slice none 0 0])/\Below w.heap.size w w':=by
 obtain ⟨B,hB⟩:∃B,B=w.heap.size:=⟨_,rfl⟩
 have HB1:=ya (zaT w (.cells #[.int .i64 0,.int .i64 0,.string ⟨#[]⟩,.slice none 0 0] 27) (.cells #[.int .i64 7,.int .i64 0,.string ⟨#[]⟩,.slice none 0 0] 27))
 have HX1:=ya (zai (w:=w.alloc (.cells #[.int .i64 0,.int .i64 0,.string ⟨#[]⟩,.slice none 0 0] 27)) (.cells #[.int .i64 7,.int .i64 0,.string ⟨#[]⟩,.slice none 0 0] 27) (zac (w:=w) (b:=B) (.cells #[.int .i64 0,.int .i64 0,.string ⟨#[]⟩,.slice none 0 0] 27) hB))
 have HY1:=ya (zac (w:=w.alloc (.cells #[.int .i64 0,.int .i64 0,.string ⟨#[]⟩,.slice none 0 0] 27)) (b:=B+1) (.cells #[.int .i64 7,.int .i64 0,.string ⟨#[]⟩,.slice none 0 0] 27) (by rw [zan,hB]))
 have HW:=ya (Nat.le_of_eq hB.symm)
 go_enter Tryz.func42,Tryz.ntmps42
 go_upto_region 2 with fail
 try rw [<-hB]
 generalize World.alloc _ _=W1 at *
 clear hB
 generalize B+1=B2 at *
 go_wp2_with fail
 go_loop [4] (fun v=>v=.int .i64 0) (fun _=>0)
 case atStart=>rfl
 case round =>
  subst hrel
  obtain ⟨⟨a0,a1,a2,a3⟩,f0,f1,f2,f3⟩:=zaj HX1.out
  obtain ⟨⟨b0,b1,b2,b3⟩,-⟩:=zaj HY1.out
  go_wp2_with fail
  refine yh (results_cell_row rfl _ _ B 27 _ (0,0) _ rfl (by exact set4 HX1.out _ _ _ _) Tryz.underlying27 rfl (by exact zaC)) rfl ?_
  exact ⟨rfl,zak HB1.out HW.out _ _ _ _⟩
def secT1:List UInt8:=[120,114,101,102,10,51,32,49,10,48,48,48,48,48,48,48,48,49,55,32,48,48,48,48,48,32,110,32,10,116,114,97,105,108,101,114,60,60,62,62,32]
theorem sec_ex:secV secT1 false 0=(⟨[⟨3,[⟨17,0,true⟩]⟩],.mk 7 0 [] []⟩,40,0):=by kernel_rfl
theorem ent_ex:entR ⟨17,0,true⟩=([48,48,48,48,48,48,48,48,49,55,32,48,48,48,48,48,32,110,32,10],0):=by
 have h17:decL 17=[49,55]:=by rw [zcA (by decide),zbi (by decide)];rfl
 have h0:decL 0=[48]:=by rw [zbi (by decide)];rfl
 unfold entR
 rw [yf (by decide)]
 unfold entL entB padL
 simp only [show (17:Int).toNat=17 from rfl,show (0:Int).toNat=0 from rfl,h17,h0]
 rfl
theorem row_bsX {w:World} (bs:List UInt8) (t:TypeId) (hb:bs.length<=200):Row (w.alloc (.cells (bs.map u8C).toArray t (bs.length,bs.length+1))) 1 (some ⟨w.heap.size,0,none⟩) bs.length bs.length (bs.map u8C):=by
 refine ⟨by simp,ym _,by unfold maxLen;omega,fun h=>(by cases h),fun _=>⟨_,_,rfl,(by rw [zan];omega),fun j u hj=>?_⟩⟩
 rw [cell_of_row _ _ _ _ _ _ (zac _ rfl)]
 simpa using hj
theorem works15 (w:World):Calls Tryz.prog 10 #[] w fun e w'=>e=.returned (.bool true)/\Below w.heap.size w w':=by
 have HP:=ya (fun W:World=>zfN (row_bsX (w:=W) secT1 5 (by decide)) (by decide) 0 false)
 rw [sec_ex] at HP
 unfold zec at HP
 simp only at HP
 have hcv:=fun (W:World) (C:Array Value) (n c:Nat)=>Lib.run_convert_bytes_const (P:=Tryz.prog) W 22 5 C n c Tryz.underlying22 Tryz.underlying5
 have HE:=ya (fun W=>xent_any ⟨17,0,true⟩ W)
 rw [ent_ex] at HE
 unfold entA at HE
 simp only at HE
 have HD:=ya (fun W=>dict_nil W)
 go_enter Tryz.func10,Tryz.ntmps10
 go_wp2_with fail
 refine (HP.out w).mono ?_
 rintro e w1 ⟨gv,sl,rfl,hsc,hb1⟩
 obtain ⟨ga,gc,rfl,-,-,-⟩:=hsc.1.len
 obtain ⟨sa,sc,rfl,-,-,-⟩:=hsc.2.len
 have HF:=ya (fun (W:World) (hb:Below w1.heap.size w1 W)=>zeC (hsc.below hb) 3 (fun g hg=>by rcases List.mem_singleton.1 hg with rfl;exact ⟨by decide,by decide⟩) (by decide) (by decide))
 rw [show zbx ([⟨3,[⟨17,0,true⟩]⟩]:List Grp) 3=some ⟨17,0,true⟩ from rfl] at HF
 have HB1:=ya ((zag w _).trans (hb1.mono (by rw [zan];omega)))
 have HS:=ya (fun W=>vsame_leaf 7 0 ⟨#[]⟩ sa none sc 0 W)
 unfold secA zfe entA at HF
 unfold secA
 simp only [PV.kind,PV.n,PV.s,PV.l,List.length_nil,List.length_singleton,show mkB []=⟨#[]⟩ from rfl] at HF |-
 clear hsc hb1 hcv HP
 have HT2:=ya (zac (w:=w1) (b:=w1.heap.size) (.cells #[.slice ga 1 gc,.int .i64 7,.int .i64 0,.string ⟨#[]⟩,.slice sa 0 sc] 29) rfl)
 have HA2:=ya (zag w1 (.cells #[.slice ga 1 gc,.int .i64 7,.int .i64 0,.string ⟨#[]⟩,.slice sa 0 sc] 29))
 have HB2:=ya (HB1.out.trans (HA2.out.mono HB1.out.size))
 go_upto_region 2 with fail
 have HF2:=ya (HF.out _ HA2.out)
 clear HF HA2 HB1
 generalize w1.heap.size=T at *
 generalize World.alloc _ _=W2 at *
 obtain ⟨⟨p0,p1,p2,p3,p4⟩,-⟩:=za1 HT2.out
 go_wp2_with fail
 refine HF2.out.mono ?_
 rintro e w3 ⟨rfl,hb3⟩
 have hb3a:=hb3.alloc hb3.size (.cells #[.int .i64 17,.int .i64 0,.bool true] 44)
 have HT4:=ya (zaa hb3a HT2.out)
 have HQ4:=ya (zac (w:=w3) (b:=w3.heap.size) (.cells #[.int .i64 17,.int .i64 0,.bool true] 44) rfl)
 have HB4:=yl HB2 hb3a
 clear hb3 hb3a HT2 HB2 HF2 p0 p1 p2 p3 p4
 go_upto_region 3 with fail
 generalize w3.heap.size=Q at *
 generalize World.alloc _ _=W4 at *
 go_wp2_with fail
 refine (HE.out _).mono ?_
 rintro e w5 ⟨rfl,hb5⟩
 have HT5:=ya (zaa hb5 HT4.out)
 have HQ5:=ya (zaa hb5 HQ4.out)
 have HB5:=yl HB4 hb5
 clear hb5 HT4 HQ4 HB4 HE
 obtain ⟨⟨p0,p1,p2,p3,p4⟩,-⟩:=za1 HT5.out
 obtain ⟨⟨q0,q1,q2⟩,-⟩:=zbu HQ5.out
 have r0:=zaU.cell p0
 have r1:=zaU.cell p1
 have r2:=zaU.cell p2
 have r3:=zaU.cell p3
 have r4:=zaU.cell p4
 have e0:=zaU.cell q0
 have e1:=zaU.cell q1
 have e2:=zaU.cell q2
 have hst:((mkB [48,48,48,48,48,48,48,48,49,55,32,48,48,48,48,48,32,110,32,10]).toList==[48,48,48,48,48,48,48,48,49,55,32,48,48,48,48,48,32,110,32,10])=true:=by rw [zcQ];rfl
 clear p0 p1 p2 p3 p4 q0 q1 q2
 go_upto_region 4 with fail
 refine zaW (by kernel_rfl) (by kernel_rfl) ?_
 repeat (go_big_quiet_step ((first
  |(go_at_call 42;with_reducible exact Calls.below_of (HD.out _))
  |(go_at_call 41;with_reducible exact Calls.below_of (HS.out _)))))
 refine wpQuiet_nil ?_
 rintro _ ⟨⟨w6,hb6⟩,rfl⟩
 go_wp2
 go_ret
 exact ⟨rfl,HB5.out.trans (hb6.mono HB5.out.size)⟩
theorem zec.split {w w':World} {s:Sec} {n e:Int} {en:Ending} (h:zec w (s,n,e) en w'):∃ga gc sa sc,en=.returned (.tuple #[.agg #[.slice ga s.gs.length gc,.int .i64 s.tr.kind,.int .i64 s.tr.n,.string (mkB s.tr.s),.slice sa s.tr.l.length sc],.int .i64 n,.int .i64 e]) /\
  zbe w' anyF s (.slice ga s.gs.length gc) (.slice sa s.tr.l.length sc)/\Below w.heap.size w w':=by
 obtain ⟨gv,sl,rfl,hs,hb⟩:=h
 obtain ⟨ga,gc,rfl,-,-,-⟩:=hs.1.len
 obtain ⟨sa,sc,rfl,-,-,-⟩:=hs.2.len
 exact ⟨ga,gc,sa,sc,rfl,hs.keep (zay.refl _ _) (fun _ _=>trivial),hb⟩
def PlEndX (w:World) (e:Ending) (w':World):Prop:=e=.returned (.bool true)/\Below w.heap.size w w'
structure SrcI (w:World) (p:Nat) (bs:List UInt8) (kn:List Bool):Prop where
 len:kn.length=bs.length
 total:∀W,Below w.heap.size w W->Calls Tryz.prog 54 #[.pointer (some ⟨p,0,none⟩)] W fun e w'=>e=.returned (.int .i64 (bs.length:Nat))/\W=w'
 first:∀W,Below w.heap.size w W->∀a:Nat,a<=bs.length->Calls Tryz.prog 38 #[.pointer (some ⟨p,0,none⟩),.int .i64 a] W fun e w'=>e=.returned (.int .i64 (zaQ kn a:Nat))/\Below W.heap.size W w'
 read:∀W,Below w.heap.size w W->∀(a:Nat) (most:Int),a<=bs.length->(bs.length:Int)-a<=most->most<=9223372036854775807 ->
  Calls Tryz.prog 55 #[.pointer (some ⟨p,0,none⟩),.int .i64 a,.int .i64 most] W (FromEnd W bs kn a)
theorem SrcI.mono {w w':World} {p:Nat} {bs:List UInt8} {kn:List Bool} (h:SrcI w p bs kn) (hb:Below w.heap.size w w'):SrcI w' p bs kn :=
 ⟨h.len,fun W hW=>h.total W (hb.trans (hW.mono hb.size)),fun W hW=>h.first W (hb.trans (hW.mono hb.size)),fun W hW=>h.read W (hb.trans (hW.mono hb.size))⟩
def sctV (bs:List UInt8) (kn:List Bool) (a:Nat):Sec×Int×Int :=
 if (zcS bs kn a).2.2=0 then ((zcS bs kn a).1,0,0) else if (zcS bs kn a).2.2=6 then (Sec.none,(zaQ kn a:Nat),6) else (Sec.none,0,20)
theorem section_any {w:World} {p:Nat} {bs:List UInt8} {kn:List Bool} (h:SrcI w p bs kn) (hl:bs.length<=390000) {a:Nat} (ha:a<bs.length) :
  Calls Tryz.prog 62 #[.pointer (some ⟨p,0,none⟩),.int .i64 a] w (zec w (sctV bs kn a)):=by
 have HT:=ya h.total
 have HF:=ya (fun W hb=>h.first W hb a (Nat.le_of_lt ha))
 have HR:=ya (fun W hb=>h.read W hb a (bs.length:Nat) (Nat.le_of_lt ha) (by omega) (by omega))
 have HSC:=ya (show zcS bs kn a=secV ((bs.drop a).take (zaQ kn a-a)) (zaQ kn a==bs.length) 0 from rfl)
 have HBL:=ya (show ((bs.drop a).take (zaQ kn a-a)).length<=390000 by rw [List.length_take,yj];omega)
 obtain ⟨V,hV⟩:∃V,V=sctV bs kn a:=⟨_,rfl⟩
 rw [<-hV]
 unfold sctV at hV
 rw [HSC.out] at hV
 have HV:=ya hV
 unfold FromEnd at HR
 generalize zaQ kn a=n at *
 generalize (bs.drop a).take (n-a)=cs at *
 generalize (n==bs.length)=lst at *
 clear h hV HSC
 obtain ⟨r,hr⟩:∃r,r=w.heap.size:=⟨_,rfl⟩
 have HZ1:=ya (zac (w:=w) (b:=r) (.cells #[.slice none 0 0,.int .i64 0,.int .i64 0,.string ⟨#[]⟩,.slice none 0 0] 29) hr)
 have HB1:=ya (zag w (.cells #[.slice none 0 0,.int .i64 0,.int .i64 0,.string ⟨#[]⟩,.slice none 0 0] 29))
 have HRW:=ya (Nat.le_of_eq hr.symm)
 go_enter Tryz.func62,Tryz.ntmps62
 go_upto_region 1 with fail
 try rw [<-hr]
 clear hr
 generalize w.alloc _=W1 at *
 have HT1:=ya (HT.out _ HB1.out)
 have HR1:=ya (HR.out _ HB1.out)
 clear HT HR
 go_wp2_with fail
 refine HT1.out.mono ?_
 rintro e w2 ⟨rfl,rfl⟩
 go_wp2_with fail
 refine HR1.out.mono ?_
 rintro e w2 ⟨ba,bc,rfl,hrow,hb2⟩
 have HZ2:=ya (zaa hb2 HZ1.out)
 have HB2:=yl HB1 hb2
 have HP:=ya (zfN hrow HBL.out 0 lst)
 clear hb2 hrow HZ1 HB1 HT1 HR1
 go_wp2_with fail
 generalize secV cs lst 0=S at *
 obtain ⟨s,o,er⟩:=S
 refine HP.out.mono ?_
 rintro e w3 ⟨gv,sl,rfl,hs,hb3⟩
 obtain ⟨ga,gc,rfl,-,-,-⟩:=hs.1.len
 obtain ⟨sa,sc,rfl,-,-,-⟩:=hs.2.len
 simp only [secA] at hs |-
 simp only at HV
 have hb3a:=hb3.alloc hb3.size (.cells #[.slice ga s.gs.length gc,.int .i64 s.tr.kind,.int .i64 s.tr.n,.string (mkB s.tr.s),.slice sa s.tr.l.length sc] 29)
 have HT3:=ya (zac (w:=w3) (b:=w3.heap.size) (.cells #[.slice ga s.gs.length gc,.int .i64 s.tr.kind,.int .i64 s.tr.n,.string (mkB s.tr.s),.slice sa s.tr.l.length sc] 29) rfl)
 have HS3:=ya (hs.below (zag w3 (.cells #[.slice ga s.gs.length gc,.int .i64 s.tr.kind,.int .i64 s.tr.n,.string (mkB s.tr.s),.slice sa s.tr.l.length sc] 29)))
 have HZ3:=ya (zaa hb3a HZ2.out)
 have HB3:=yl HB2 hb3a
 have HRL:=ya (zaf HZ2.out)
 have HWL:=ya HB2.out.size
 clear hb3 hb3a hs HZ2 HB2 HP
 go_upto_region 3 with fail
 generalize w3.heap.size=T at *
 generalize World.alloc _ _=W3 at *
 obtain ⟨⟨t0,t1,t2,t3,t4⟩,-⟩:=za1 HT3.out
 obtain ⟨⟨z0,z1,z2,z3,z4⟩,y0,y1,y2,y3,y4⟩:=za1 HZ3.out
 by_cases he:er=0
 ·subst he
  have HV2:=ya (HV.out.trans (yf rfl))
  have HS2:=ya (fun y0 y1 y2 y3 y4=>sec_set5 HS3.out HRL.out y0 y1 y2 y3 y4)
  have HPA:=ya (show secA s (.slice ga s.gs.length gc) (.slice sa s.tr.l.length sc)=.agg #[.slice ga s.gs.length gc,.int .i64 s.tr.kind,.int .i64 s.tr.n,.string (mkB s.tr.s),.slice sa s.tr.l.length sc] from rfl)
  clear HV HF
  generalize s.tr.kind=xk at *
  generalize s.tr.n=xn at *
  generalize mkB s.tr.s=xb at *
  go_wp2
  refine yh (zap rfl _ _ r 29 _ (0,0) _ rfl (by exact set5 HZ3.out _ _ _ _ _) Tryz.underlying29 rfl (by exact zcu) _ _ rfl rfl) rfl ?_
  rw [HV2.out]
  refine ⟨.slice ga s.gs.length gc,.slice sa s.tr.l.length sc,by rw [HPA.out];rfl,?_,zbD HB3.out HRW.out _ _ _ _ _⟩
  exact (HS2.out _ _ _ _ _).keep (zay.refl _ _) (fun b hb=>Nat.le_trans HWL.out hb)
 have HV2:=ya (HV.out.trans (yg he))
 have e0:(er==0)=false:=by rw [ye];exact he
 clear HV he HS3
 by_cases h6:er=6
 ·subst h6
  have HV3:=ya (HV2.out.trans (yf rfl))
  have HF2:=ya (HF.out _ HB3.out)
  clear HV2 HF
  go_wp2_with fail
  refine HF2.out.mono ?_
  rintro e w4 ⟨rfl,hb4⟩
  have HZ4:=ya (zaa hb4 HZ3.out)
  have HB4:=yl HB3 hb4
  clear hb4 HZ3 HB3 HT3 t0 t1 t2 t3 t4 z0 z1 z2 z3 z4 y0 y1 y2 y3 y4
  obtain ⟨⟨z0,z1,z2,z3,z4⟩,y0,y1,y2,y3,y4⟩:=za1 HZ4.out
  go_wp2
  refine yh (zap rfl _ _ r 29 _ (0,0) _ rfl (by exact set5 HZ4.out _ _ _ _ _) Tryz.underlying29 rfl (by exact zcu) _ _ rfl rfl) rfl ?_
  rw [HV3.out]
  exact ⟨_,_,rfl,zdD _ _,zbD HB4.out HRW.out _ _ _ _ _⟩
 ·have e6:(er==6)=false:=by rw [ye];exact h6
  have HV3:=ya (HV2.out.trans (yg h6))
  clear HV2 HF h6
  go_wp2
  refine yh (zap rfl _ _ r 29 _ (0,0) _ rfl (by exact set5 HZ3.out _ _ _ _ _) Tryz.underlying29 rfl (by exact zcu) _ _ rfl rfl) rfl ?_
  rw [HV3.out]
  exact ⟨_,_,rfl,zdD _ _,zbD HB3.out HRW.out _ _ _ _ _⟩
def IsSs (w:World) (F:Nat->Prop):List Sec->List Value->Prop
 | [],cs=>cs=[]
 | s::l,cs=>∃gv sl t,cs=secC s gv sl++t/\zbe w F s gv sl/\IsSs w F l t
theorem IsSs.keep {w w':World} {F G:Nat->Prop} (hk:zay F w w') (hG:∀b,F b->G b):∀ {l:List Sec} {cs:List Value},IsSs w F l cs->IsSs w' G l cs
 | [],_,h=>h
 | _::_,_,⟨gv,sl,t,e,h1,h2⟩=>⟨gv,sl,t,e,h1.keep hk hG,IsSs.keep hk hG h2⟩
theorem IsSs.length {w:World} {F:Nat->Prop}:∀ {l:List Sec} {cs:List Value},IsSs w F l cs->cs.length=l.length*5
 | [],_,h=>by cases h;rfl
 | _::_,_,⟨gv,sl,t,e,_,h2⟩=>by subst e;have:=IsSs.length h2;simp [secC,pvC];omega
theorem IsSs.append {w:World} {F:Nat->Prop}:∀ {l m:List Sec} {cs ds:List Value},IsSs w F l cs->IsSs w F m ds->IsSs w F (l++m) (cs++ds)
 | [],_,_,_,h,hm=>by cases h;exact hm
 | _::_,_,_,_,⟨gv,sl,t,e,h1,h2⟩,hm=>⟨gv,sl,t++_,by subst e;simp,h1,IsSs.append h2 hm⟩
theorem IsSs.snoc {w:World} {F:Nat->Prop} {l:List Sec} {cs:List Value} (h:IsSs w F l cs) {s:Sec} {gv sl:Value} (hv:zbe w F s gv sl):IsSs w F (l++[s]) (cs++secC s gv sl):=h.append ⟨gv,sl,[],by simp,hv,rfl⟩
theorem IsSs.get {w:World} {F:Nat->Prop}:∀ {l:List Sec} {cs:List Value},IsSs w F l cs->∀(k:Nat) (s:Sec),l[k]?=some s->∃gv sl,zbe w F s gv sl/\cs[k*5]?=some gv/\cs[k*5+1]?=some (.int .i64 s.tr.kind)/\cs[k*5+2]?=some (.int .i64 s.tr.n)/\cs[k*5+3]?=some (.string (mkB s.tr.s))/\cs[k*5+4]?=some sl
 | [],_,_,_,_,hk=>by simp at hk
 | x::l,_,⟨gv,sl,t,e,h1,h2⟩,0,g,hk=>by
  simp at hk;subst hk e
  exact ⟨gv,sl,h1,rfl,rfl,rfl,rfl,rfl⟩
 | x::l,_,⟨gv,sl,t,e,h1,h2⟩,k+1,g,hk=>by
  subst e
  obtain ⟨gv2,sl2,h3,e0,e1,e2,e3,e4⟩:=h2.get k g (by simpa using hk)
  have q:∀j,(secC x gv sl++t)[(k+1)*5+j]?=t[k*5+j]?:=fun j=>by
   rw [show (k+1)*5+j=k*5+j+1+1+1+1+1 by omega];simp [secC,pvC]
  have q0:=q 0
  rw [Nat.add_zero,Nat.add_zero] at q0
  exact ⟨gv2,sl2,h3,q0.trans e0,(q 1).trans e1,(q 2).trans e2,(q 3).trans e3,(q 4).trans e4⟩
theorem IsE.ltw {W:World} {es:List Ent} {sv:Value} {F:Nat->Prop} (h:IsE W F es sv):IsE W (fun b=>F b/\b<W.heap.size) es sv:=by
 obtain ⟨a,cap,e,hr,hF⟩:=h
 exact ⟨a,cap,e,hr,fun h0 x hx=>⟨hF h0 x hx,hr.lt h0 x hx⟩⟩
theorem IsGs.ltw {W:World} {F:Nat->Prop}:∀ {gs:List Grp} {cs:List Value},IsGs W F gs cs->IsGs W (fun b=>F b/\b<W.heap.size) gs cs
 | [],_,h=>h
 | _::_,_,⟨v,t,e,h1,h2⟩=>⟨v,t,e,h1.ltw,h2.ltw⟩
theorem IsG.ltw {W:World} {F:Nat->Prop} {gs:List Grp} {v:Value} (h:IsG W F gs v):IsG W (fun b=>F b/\b<W.heap.size) gs v:=by
 obtain ⟨a,cap,cs,e,hr,hF,hs⟩:=h
 exact ⟨a,cap,cs,e,hr,fun h0 x hx=>⟨hF h0 x hx,hr.lt h0 x hx⟩,hs.ltw⟩
theorem zbe.ltw {W:World} {F:Nat->Prop} {s:Sec} {gv sl:Value} (h:zbe W F s gv sl):zbe W (fun b=>F b/\b<W.heap.size) s gv sl:=⟨h.1.ltw,IsV.lt _ h.2⟩
theorem IsSs.ltw {W:World} {F:Nat->Prop}:∀ {l:List Sec} {cs:List Value},IsSs W F l cs->IsSs W (fun b=>F b/\b<W.heap.size) l cs
 | [],_,h=>h
 | _::_,_,⟨gv,sl,t,e,h1,h2⟩=>⟨gv,sl,t,e,h1.ltw,h2.ltw⟩
structure SsM (t:TypeId) (w W:World) (X:Nat->Prop) (l:List Sec) (cs:List Value) (v:Value):Prop where
 own:W.ownsRow w.heap.size t 5 v l.length cs
 hold:IsSs W (fun b=>w.heap.size<=b/\v.ownBlock≠some b/\¬X b) l cs
theorem SsM.nil (t:TypeId) (w W:World) (X:Nat->Prop):SsM t w W X [] [] (.slice none 0 0):=⟨World.ownsRow_nil _ _ _ _,rfl⟩
theorem SsM.on {t:TypeId} {w W W':World} {X Y:Nat->Prop} {l:List Sec} {cs:List Value} {v:Value} (h:SsM t w W X l cs v) (hk:zae Y W W') (hY:∀b,Y b->w.heap.size<=b->X b) (hv:∀b,v.ownBlock=some b->¬Y b):SsM t w W' X l cs v :=
 ⟨zaA h.own fun b hb=>hk.block b (h.own.lt b hb).2 (hv b hb),h.hold.keep ⟨hk.size,fun b hb hF=>hk.block b hb (fun e=>hF.2.2 (hY b e hF.1))⟩ (fun _ h=>h)⟩
theorem SsM.below {t:TypeId} {w W W':World} {X:Nat->Prop} {l:List Sec} {cs:List Value} {v:Value} (h:SsM t w W X l cs v) (hb:Below W.heap.size W W'):SsM t w W' X l cs v :=
 h.on (zar (S:=fun _=>False) hb) (fun _ h _=>h.elim) (fun _ _ h=>h)
theorem SsM.app {t:TypeId} {w W W8:World} {X:Nat->Prop} {o:Obj} {l:List Sec} {cs:List Value} {v v':Value} (h:SsM t w W X l cs v) (hg8:(W.alloc o).grownBy W8 v.ownBlock) {s:Sec} {gv sl:Value} {B:Nat} (he:zbe W (fun b=>B<=b) s gv sl) (hB:w.heap.size<=B) (hv:∀b,v.ownBlock=some b->b<B) (hX:∀b,X b->b<B)
  (hO:W8.ownsRow w.heap.size t 5 v' (l.length+1) (cs++secC s gv sl)) (hn:∀b,v'.ownBlock=some b->v.ownBlock=some b\/(W.alloc o).heap.size<=b):SsM t w W8 X (l++[s]) (cs++secC s gv sl) v':=by
 have hst:zay (fun b=>v.ownBlock≠some b/\b<W.heap.size) W W8:=⟨by have:=hg8.size;rw [zan] at this;omega,fun b hb hF=>by
  rw [hg8.block b (by rw [zan];omega) (fun e=>hF.1 e.symm)]
  exact (zb8 W o hb)⟩
 refine ⟨by rw [List.length_append];exact hO,?_⟩
 have hnew:∀b,b<W.heap.size->v.ownBlock≠some b->v'.ownBlock≠some b:=fun b hb hne e=>by
  rcases hn b e with h1|h1
  ·exact hne h1
  ·rw [zan] at h1;omega
 refine IsSs.snoc ?_ ?_
 ·have h3:IsSs W8 (fun b=>(w.heap.size<=b/\v.ownBlock≠some b/\¬X b)/\b<W.heap.size) l cs:=h.hold.ltw.keep ⟨hst.1,fun b hb hF=>hst.2 b hb ⟨hF.1.2.1,hF.2⟩⟩ (fun _ h=>h)
  exact h3.keep (zay.refl _ _) (fun b hb=>⟨hb.1.1,hnew b hb.2 hb.1.2.1,hb.1.2.2⟩)
 ·have hne:∀b,B<=b->v.ownBlock≠some b:=fun b hb e=>by have:=hv b e;omega
  have h3:zbe W8 (fun b=>B<=b/\b<W.heap.size) s gv sl:=he.ltw.keep ⟨hst.1,fun b hb hF=>hst.2 b hb ⟨hne b hF.1,hF.2⟩⟩ (fun _ h=>h)
  exact h3.keep (zay.refl _ _) (fun b hb=>⟨Nat.le_trans hB hb.1,hnew b hb.2 (hne b hb.1),fun hx=>by have:=hX b hx;omega⟩)
def IsL (w:World) (F:Nat->Prop) (l:List Sec) (v:Value):Prop:=∃a cap cs,v=.slice a l.length cap/\Row w 5 a l.length cap cs/\(0<l.length->∀x,a=some x->F x.block)/\IsSs w F l cs
theorem SsM.fin {t:TypeId} {w W:World} {X:Nat->Prop} {l:List Sec} {cs:List Value} {v:Value} (h:SsM t w W X l cs v):IsL W (fun b=>w.heap.size<=b) l v:=by
 obtain ⟨a,cap,e,-,-⟩:=zas h.own
 subst e
 exact ⟨a,cap,cs,rfl,(Row.of_own h.own).2,fun h0 x hx=>(h.own.lt x.block (by rw [hx];rfl)).1,h.hold.keep (zay.refl _ _) (fun b hb=>hb.1)⟩
theorem IsL.nil (w:World) (F:Nat->Prop):IsL w F [] (.slice none 0 0):=⟨none,0,[],rfl,Row.nil w 5,fun h=>(by cases h),rfl⟩
theorem IsL.keep {w w':World} {F G:Nat->Prop} (hk:zay F w w') (hG:∀b,F b->G b) {l:List Sec} {v:Value} (h:IsL w F l v):IsL w' G l v:=by
 obtain ⟨a,cap,cs,e,hr,hF,hs⟩:=h
 exact ⟨a,cap,cs,e,hr.stays hk hF,fun h0 x hx=>hG _ (hF h0 x hx),hs.keep hk hG⟩
theorem IsL.below {w w':World} {F:Nat->Prop} {l:List Sec} {v:Value} (h:IsL w F l v) (hb:Below w.heap.size w w'):IsL w' F l v:=h.keep (zay.of_below hb) (fun _ h=>h)
theorem IsL.len {w:World} {F:Nat->Prop} {l:List Sec} {v:Value} (h:IsL w F l v):∃a cap,v=.slice a l.length cap/\l.length<=cap/\cap<=maxLen/\(a=none->cap=0):=by
 obtain ⟨a,cap,cs,e,hr,_⟩:=h
 exact ⟨a,cap,e,hr.2.1,hr.2.2.1,hr.2.2.2.1⟩
theorem IsL.at {w:World} {F:Nat->Prop} {l:List Sec} {a:Option Addr} {n cap:Nat} (h:IsL w F l (.slice a n cap)) (hn:0<n) :
  n=l.length/\n<=cap/\cap<=maxLen/\∃b off,a=some ⟨b,off,none⟩/\b<w.heap.size/\F b/\∀k s,l[k]?=some s->∃gv sl,zbe w F s gv sl/\w.cell? ⟨b,off+k*5,none⟩=some gv/\w.cell? ⟨b,off+k*5+1,none⟩=some (.int .i64 s.tr.kind) /\
   w.cell? ⟨b,off+k*5+2,none⟩=some (.int .i64 s.tr.n)/\w.cell? ⟨b,off+k*5+3,none⟩=some (.string (mkB s.tr.s))/\w.cell? ⟨b,off+k*5+4,none⟩=some sl:=by
 obtain ⟨a',cap',cs,e,hr,hF,hs⟩:=h
 simp only [Value.slice.injEq] at e
 obtain ⟨rfl,rfl,rfl⟩:=e
 obtain ⟨b,off,rfl,hb,hc⟩:=hr.2.2.2.2 hn
 refine ⟨rfl,hr.2.1,hr.2.2.1,b,off,rfl,hb,hF hn _ rfl,fun k s hk=>?_⟩
 obtain ⟨gv,sl,h1,e0,e1,e2,e3,e4⟩:=hs.get k s hk
 exact ⟨gv,sl,h1,hc _ _ e0,(Nat.add_assoc off (k*5) 1).symm▸hc _ _ e1,(Nat.add_assoc off (k*5) 2).symm▸hc _ _ e2,(Nat.add_assoc off (k*5) 3).symm▸hc _ _ e3,(Nat.add_assoc off (k*5) 4).symm▸hc _ _ e4⟩
end Go.Proofs.YtfafdeemfeaedaaGreat
namespace Go.Proofs.YtfafdeemfeaedaaGreat
open Go.RowKit Go.Maps Go.ChangeMaps
theorem lawKI:Keyed Tryz.prog 3:=int_keyed Tryz.underlying3
def i64N (k:Int):Prop:=-9223372036854775808<=k/\k<=9223372036854775807
theorem i64N_wf {k:Int} (h:i64N k):(Lit.int .i64 k).wf=true:=by
 obtain ⟨h1,h2⟩:=h
 simp [Lit.wf,IntKind.min,IntKind.max,IntKind.signed,IntKind.bits];omega
theorem keyN {k:Int} (h:i64N k):keyOf Tryz.prog 3 (.int .i64 k)=some (.int .i64 k):=keyOf_int_mk Tryz.underlying3 (i64N_wf h)
theorem zeroN (w:World):(zeroValue 3).run Tryz.prog w=.ok (.int .i64 0) w:=by kernel_rfl
def MapN (w:World) (mb n:Nat) (rd:List Int):Prop :=
 ∃D:DataW Nat,w.ownsMap Tryz.prog 3 (plainElem Tryz.prog 3) mb n D/\IsMap D/\∀k:Int,Maps.has D (.int .i64 k)=decide (k∈rd)
theorem MapN.made (w:World):MapN (w.alloc (.map #[] 0)) w.heap.size 0 [] :=
 ⟨.map [],World.ownsMap_made w _ _ _,isMap_empty,fun k=>by simp [Maps.has]⟩
theorem MapN.keep {w w':World} {mb n:Nat} {rd:List Int} (h:MapN w mb n rd) (hb:w'.heap[mb]?=w.heap[mb]?):MapN w' mb n rd:=by
 obtain ⟨D,⟨es,clock,h1,h2⟩,r⟩:=h
 exact ⟨D,⟨es,clock,hb.trans h1,h2⟩,r⟩
theorem MapN.lt {w:World} {mb n:Nat} {rd:List Int} (h:MapN w mb n rd):mb<w.heap.size:=by obtain ⟨D,h,-⟩:=h;exact h.lt
theorem zcs {w:World} {ops:Array Oper} {rest:List Oper} {o:Oper} {a:Act} {Q:Exit->Act->World->Prop} (hg:o.guard=none) (m x:Operand) (hop:o.op=Op.lookup 133 m x true)
  {mb n:Nat} {rd:List Int} (h:MapN w mb n rd) (hm:a.eval m=.map (some mb)) {k:Int} (hx:a.eval x=.int .i64 k) (hk:i64N k)
  (hK:∀c:Int,wpList Tryz.prog ops Q rest (a.put o.dst (.tuple #[.int .i64 c,.bool (decide (k∈rd))])) w):wpList Tryz.prog ops Q (o::rest) a w:=by
 obtain ⟨D,ho,hm2,hD⟩:=h
 refine wpList_lookup_own_ok_int w hg m x _ hop 3 3 .i64 lawKI Tryz.underlying133 Tryz.underlying3 (zeroN w) mb n D hm ho _ _ hx (keyN hk) fun c _ _=>?_
 rw [hD k]
 exact hK c
theorem zgG {w:World} {ops:Array Oper} {rest:List Oper} {o:Oper} {a:Act} {Q:Exit->Act->World->Prop} (hg:o.guard=none) (m x v:Operand) (hop:o.op=Op.mapUpdate 133 m x v)
  {mb n:Nat} {rd:List Int} (h:MapN w mb n rd) (hm:a.eval m=.map (some mb)) {k:Int} (hx:a.eval x=.int .i64 k) (hk:i64N k) {q:Int} (hv:a.eval v=.int .i64 q) (hq:i64N q) (hn:n<maxLen)
  (hK:∀w',MapN w' mb (n+1) (rd++[k])->w.grownBy w' (some mb)->wpList Tryz.prog ops Q rest (a.put o.dst undef) w'):wpList Tryz.prog ops Q (o::rest) a w:=by
 obtain ⟨D,ho,hm2,hD⟩:=h
 refine wpList_mapUpdate_own w hg m x v _ hop 3 3 lawKI Tryz.underlying133 (plainElem Tryz.prog 3) mb n D hm ho hn _ _ _ hx hv (keyN hk) _ [] (plainElem_int Tryz.underlying3 (i64N_wf hq)) fun w' ho' hg'=>?_
 refine hK w' ⟨_,ho',hm2.put _ _,fun j=>?_⟩ hg'
 by_cases hj:j=k
 ·subst hj
  rw [has_put_same hm2 (by simp [WideAt.IsKeyLit])]
  simp
 ·have hne:(Lit.int .i64 j)≠.int .i64 k:=fun e=>hj (by cases e;rfl)
  rw [has_put_other hne,hD j]
  simp [hj]
end Go.Proofs.YtfafdeemfeaedaaGreat
namespace Go.Proofs.YtfafdeemfeaedaaGreat
open Go.RowKit
theorem fN_step {key:List UInt8} {l:List PV} {k:Nat} {x:PV} (hx:l[k]?=some x):fN key (l.drop k)=if x.kind=5/\x.s=key then some 0 else (fN key (l.drop (k+2))).map (· + 2):=by
 have hk:k<l.length:=by
  rcases Nat.lt_or_ge k l.length with h|h
  ·exact h
  ·rw [List.getElem?_eq_none h] at hx;cases hx
 rw [List.getElem?_eq_getElem hk] at hx
 have hx:=Option.some.inj hx
 subst hx
 rw [List.drop_eq_getElem_cons hk]
 by_cases h2:k+1<l.length
 ·rw [List.drop_eq_getElem_cons h2]
  rfl
 ·rw [List.drop_eq_nil_of_le (show l.length<=k+1 by omega),List.drop_eq_nil_of_le (show l.length<=k+2 by omega)]
  unfold fN
  by_cases h:l[k].kind=5/\l[k].s=key
  ·rw [yf h,yf h]
  ·rw [yg h,yg h];rfl
theorem fN_end {key:List UInt8} {l:List PV} {k:Nat} (h:l.length<=k):fN key (l.drop k)=none:=by
 rw [List.drop_eq_nil_of_le h];rfl
theorem fN_lt {key:List UInt8}:∀ {l:List PV} {k:Nat},fN key l=some k->k<l.length
 | [],_,h=>by cases h
 | [x],k,h=>by
  unfold fN at h
  split at h
  ·cases h;simp
  ·cases h
 | x::y::l,k,h=>by
  unfold fN at h
  split at h
  ·cases h;simp
  ·obtain ⟨j,hj,rfl⟩:=Option.map_eq_some_iff.1 h
   have:=fN_lt hj
   simp;omega
def zdl (o:Option Nat):Int:=match o with|none=>-1|some k=>k
def zgv (w:World) (o:Option Nat) (e:Ending) (w':World):Prop:=e=.returned (.int .i64 (zdl o))/\Below w.heap.size w w'
theorem findN_no {v:PV} {key:List UInt8} (h:¬v.kind=7):zdF v key=none:=by unfold zdF;rw [yg h]
theorem findN_yes {v:PV} {key:List UInt8} (h:v.kind=7):zdF v key=fN key v.l:=by unfold zdF;rw [yf h]
theorem vfind_any {w:World} {F:Nat->Prop} {v:PV} {sl:Value} (h:IsV w F v sl) (hev:v.kind=7->v.l.length % 2=0) (key:List UInt8):Calls Tryz.prog 100 #[pvA v sl,.string (mkB key)] w (zgv w (zdF v key)):=by
 obtain ⟨a,cap,rfl,g1,g2,g3⟩:=h.len
 have hl63:(v.l.length:Int)<=9223372036854775807:=by unfold maxLen at g2;omega
 have HV:=ya h
 have HNO:=ya (fun h=>findN_no (v:=v) (key:=key) h)
 have HYE:=ya (fun h=>findN_yes (v:=v) (key:=key) h)
 obtain ⟨R,hR⟩:∃R,R=zdF v key:=⟨_,rfl⟩
 rw [<-hR] at HNO HYE |-
 clear hR h g2 g3
 unfold pvA
 obtain ⟨l,hl⟩:∃l,l=v.l:=⟨_,rfl⟩
 rw [<-hl] at HV HYE hl63 g1 hev |-
 have HL:=ya hl
 clear hl
 obtain ⟨B,hB⟩:∃B,B=w.heap.size:=⟨_,rfl⟩
 have HB1:=ya (zag w (.cells #[.int .i64 v.kind,.int .i64 v.n,.string (mkB v.s),.slice a l.length cap] 27))
 have HZ1:=ya (zac (w:=w) (b:=B) (.cells #[.int .i64 v.kind,.int .i64 v.n,.string (mkB v.s),.slice a l.length cap] 27) hB)
 have HV1:=ya (HV.out.below HB1.out)
 generalize v.kind=vk at *
 generalize v.n=vn at *
 generalize mkB v.s=vb at *
 go_enter Tryz.func100,Tryz.ntmps100
 go_upto_region 1 with fail
 rw [<-hB]
 clear hB HV
 generalize w.alloc _=W1 at *
 obtain ⟨⟨z0,z1,z2,z3⟩,-⟩:=zaj HZ1.out
 by_cases h7:vk=7
 case neg =>
  have HR:=ya (HNO.out h7)
  have e0:(vk==7)=false:=by rw [ye];exact h7
  have e1:(vk != 7)=true:=by simp only [bne,e0,yi]
  clear h7 HYE HNO hev
  go_wp2
  go_ret
  exact ⟨by rw [HR.out];rfl,HB1.out⟩
 have HR:=ya (HYE.out h7)
 have hl2:=hev h7
 clear hev
 subst h7
 clear HNO HYE
 go_wp2_with fail
 go_loop [5] (fun v5=>∃k:Nat,v5=.int .i64 k/\k<=l.length/\k % 2=0/\Hid (R=(fN key (l.drop k)).map (· + k))) (fun v5=>l.length+2-(intOf v5).toNat)
 case atStart=>exact ⟨0,rfl,by omega,rfl,ya (by rw [HR.out,List.drop_zero];cases fN key l<;>rfl)⟩
 case round =>
  obtain ⟨k,rfl,hk,hk2,HQ⟩:=hrel
  by_cases hlt:k<l.length
  ·have hcd:decide ((k:Int)<(l.length:Int))=true:=yb (by omega)
   have hcd2:decide (k<l.length)=true:=yb hlt
   have hkb:(k:Int)+2<=9223372036854775807:=by omega
   have hkc:k+2<=l.length:=by omega
   have hv1:=HV1.out
   obtain ⟨-,-,-,b,off,rfl,-,-,hc⟩:=hv1.at (by omega)
   obtain ⟨x,hx⟩:∃x,l[k]?=some x:=⟨_,List.getElem?_eq_getElem hlt⟩
   obtain ⟨slx,-,c0,-,c2,-⟩:=hc k x (by rw [<-HL.out];exact hx)
   have HST:=ya (fN_step (key:=key) hx)
   have hq:((mkB x.s).toList==(mkB key).toList)=decide (x.s=key):=by rw [zal key];exact zcQ x.s key
   clear hv1 hc hx
   by_cases h5:x.kind=5
   case neg =>
    have e0:(x.kind==5)=false:=by rw [ye];exact h5
    have HQ2:=ya (show R=(fN key (l.drop (k+2))).map (· + (k+2)) by rw [HQ.out,HST.out,yg (fun h=>h5 h.1),Option.map_map];congr 1;funext q;show q+2+k=q+(k+2);omega)
    clear h5 HST HQ hq
    generalize x.kind=xk at *
    go_wp2_with fail
    go_round
    case rel=>exact ⟨k+2,by go_num,hkc,by omega,HQ2⟩
    case measure=>simp [intOf];omega
   have e0:(x.kind==5)=true:=by rw [beq_iff_eq];exact h5
   by_cases hs:x.s=key
   ·have HQ2:=ya (show R=some k by rw [HQ.out,HST.out,yf ⟨h5,hs⟩];show some (0+k)=_;rw [Nat.zero_add])
    rw [yb hs] at hq
    clear h5 HST HQ hs
    generalize x.kind=xk at *
    generalize mkB x.s=xb at *
    go_wp2_with fail
    go_ret
    exact ⟨by rw [HQ2.out];rfl,HB1.out⟩
   ·have HQ2:=ya (show R=(fN key (l.drop (k+2))).map (· + (k+2)) by rw [HQ.out,HST.out,yg (fun h=>hs h.2),Option.map_map];congr 1;funext q;show q+2+k=q+(k+2);omega)
    rw [yd hs] at hq
    clear h5 HST HQ hs
    generalize x.kind=xk at *
    generalize mkB x.s=xb at *
    go_wp2_with fail
    go_round
    case rel=>exact ⟨k+2,by go_num,hkc,by omega,HQ2⟩
    case measure=>simp [intOf];omega
  ·have hcd:decide ((k:Int)<(l.length:Int))=false:=yd (by omega)
   have hcd2:decide (k<l.length)=false:=yd hlt
   have HQ2:=ya (show R=none by rw [HQ.out,fN_end (by omega)];rfl)
   clear HQ
   go_wp2_with fail
   go_ret
   exact ⟨by rw [HQ2.out];rfl,HB1.out⟩
def GetEnd (w:World) (F:Nat->Prop) (V:PV×Bool) (e:Ending) (w':World):Prop:=∃sl,e=.returned (.tuple #[pvA V.1 sl,.bool V.2])/\IsV w' F V.1 sl/\Below w.heap.size w w'
theorem vget_any {w:World} {F:Nat->Prop} {v:PV} {sl:Value} (h:IsV w F v sl) (hev:v.kind=7->v.l.length % 2=0) (key:List UInt8):Calls Tryz.prog 63 #[pvA v sl,.string (mkB key)] w (GetEnd w F (getP (getV v key))):=by
 obtain ⟨a,cap,rfl,g1,g2,g3⟩:=h.len
 have hl63:(v.l.length:Int)<=9223372036854775807:=by unfold maxLen at g2;omega
 have HV:=ya (IsV.lt _ h)
 have HF:=ya (fun (W:World) (hb:Below w.heap.size w W)=>vfind_any (h.below hb) hev key)
 obtain ⟨R,hR⟩:∃R,R=zdF v key:=⟨_,rfl⟩
 have HLT:=ya (show ∀k,R=some k->k<v.l.length from fun k hk=>by
  rw [hR] at hk
  unfold zdF at hk
  split at hk
  ·exact fN_lt hk
  ·cases hk)
 obtain ⟨V,hV⟩:∃V,V=getP (getV v key):=⟨_,rfl⟩
 have HVN:=ya (show R=none->V=(PV.none,false) from fun h=>by rw [hV];unfold getV;rw [<-hR,h];rfl)
 have HVS:=ya (show ∀k,R=some k->V=(v.l.getD (k+1) PV.none,true) from fun k h=>by rw [hV];unfold getV;rw [<-hR,h];rfl)
 rw [<-hR] at HF
 rw [<-hV]
 clear hR hV h g2 g3
 unfold zgv pvA at HF
 unfold pvA
 obtain ⟨l,hl⟩:∃l,l=v.l:=⟨_,rfl⟩
 clear hev
 rw [<-hl] at HV HF HLT HVS hl63 g1 |-
 have HL:=ya hl
 clear hl
 obtain ⟨B,hB⟩:∃B,B=w.heap.size:=⟨_,rfl⟩
 have HB1:=ya (zaT w (.cells #[.int .i64 v.kind,.int .i64 v.n,.string (mkB v.s),.slice a l.length cap] 27) (.cells #[.int .i64 0,.int .i64 0,.string ⟨#[]⟩,.slice none 0 0] 27))
 have HZ1:=ya (zai (w:=w.alloc (.cells #[.int .i64 v.kind,.int .i64 v.n,.string (mkB v.s),.slice a l.length cap] 27)) (.cells #[.int .i64 0,.int .i64 0,.string ⟨#[]⟩,.slice none 0 0] 27) (zac (w:=w) (b:=B) (.cells #[.int .i64 v.kind,.int .i64 v.n,.string (mkB v.s),.slice a l.length cap] 27) hB))
 have HY1:=ya (zac (w:=w.alloc (.cells #[.int .i64 v.kind,.int .i64 v.n,.string (mkB v.s),.slice a l.length cap] 27)) (b:=B+1) (.cells #[.int .i64 0,.int .i64 0,.string ⟨#[]⟩,.slice none 0 0] 27) (by rw [zan,hB]))
 have HW:=ya (show w.heap.size<=B+1 by omega)
 generalize v.kind=vk at *
 generalize v.n=vn at *
 generalize mkB v.s=vb at *
 go_enter Tryz.func63,Tryz.ntmps63
 go_upto_region 1 with fail
 try rw [<-hB]
 generalize World.alloc _ _=W1 at *
 clear hB
 generalize B+1=r at *
 obtain ⟨⟨z0,z1,z2,z3⟩,-⟩:=zaj HZ1.out
 go_wp2_with fail
 refine (HF.out _ HB1.out).mono ?_
 rintro e w2 ⟨rfl,hb2⟩
 have HZ2:=ya (zaa hb2 HZ1.out)
 have HY2:=ya (zaa hb2 HY1.out)
 have HB2:=yl HB1 hb2
 have HV2:=ya (HV.out.below HB2.out)
 clear hb2 HZ1 HY1 HB1 HV HF z0 z1 z2 z3
 obtain ⟨⟨z0,z1,z2,z3⟩,-⟩:=zaj HZ2.out
 obtain ⟨⟨y0,y1,y2,y3⟩,f0,f1,f2,f3⟩:=zaj HY2.out
 cases R with
 | none =>
  have HE:=ya (HVN.out rfl)
  clear HVN HVS HLT
  unfold zdl
  go_wp2
  refine yh (zab rfl _ _ r 27 _ (0,0) _ rfl (by exact set4 HY2.out _ _ _ _) Tryz.underlying27 rfl (by exact zaC) _ rfl) rfl ?_
  rw [HE.out]
  exact ⟨_,rfl,IsV.leaf _ _ _ rfl,zak HB2.out HW.out _ _ _ _⟩
 | some k =>
  have hkl:=HLT.out k rfl
  have HE:=ya (HVS.out k rfl)
  have hd0:decide ((k:Int)<0)=false:=yd (by omega)
  clear HVN HVS HLT
  unfold zdl
  simp only
  by_cases hle:k+1=l.length
  ·have hq:((k:Int)+1==(l.length:Int))=true:=by rw [beq_iff_eq];omega
   have hq2:((k:Int)==(l.length:Int)-1)=true:=by rw [beq_iff_eq];omega
   have hg:l.getD (k+1) PV.none=PV.none:=by rw [List.getD_eq_getElem?_getD,List.getElem?_eq_none (by omega)];rfl
   have HE2:=ya (HE.out.trans (by rw [hg]))
   clear hg HE hle
   go_wp2
   refine yh (zab rfl _ _ r 27 _ (0,0) _ rfl (by exact set4 HY2.out _ _ _ _) Tryz.underlying27 rfl (by exact zaC) _ rfl) rfl ?_
   rw [HE2.out]
   exact ⟨_,rfl,IsV.leaf _ _ _ rfl,zak HB2.out HW.out _ _ _ _⟩
  ·have hq:((k:Int)+1==(l.length:Int))=false:=by rw [ye];omega
   have hq2:((k:Int)==(l.length:Int)-1)=false:=by rw [ye];omega
   have hk1:k+1<l.length:=by omega
   have hv2:=HV2.out
   obtain ⟨-,-,-,b,off,rfl,-,-,hc⟩:=hv2.at (by omega)
   obtain ⟨x,hx⟩:∃x,l[k+1]?=some x:=⟨_,List.getElem?_eq_getElem hk1⟩
   obtain ⟨slx,hsx,c0,c1,c2,c3⟩:=hc (k+1) x (by rw [<-HL.out];exact hx)
   have hg:l.getD (k+1) PV.none=x:=by rw [List.getD_eq_getElem?_getD,hx];rfl
   have HE2:=ya (HE.out.trans (by rw [hg]))
   obtain ⟨xa,xc,rfl,-,-,-⟩:=hsx.len
   have HSX:=ya hsx
   have HPA:=ya (show pvA x (.slice xa x.l.length xc)=.agg #[.int .i64 x.kind,.int .i64 x.n,.string (mkB x.s),.slice xa x.l.length xc] from rfl)
   have HRW:=ya (zaf HY2.out)
   obtain ⟨j,hj⟩:∃j,j=k+1:=⟨_,rfl⟩
   have hji:(k:Int)+1=(j:Int):=by omega
   rw [<-hj] at c0 c1 c2 c3 hk1
   have HJ:=ya hj
   clear hj hv2 hc hx hg HE hle hsx
   generalize x.kind=xk at *
   generalize x.n=xn at *
   generalize mkB x.s=xb at *
   go_wp2
   refine yh (zab rfl _ _ r 27 _ (0,0) _ rfl (by exact set4 HY2.out _ _ _ _) Tryz.underlying27 rfl (by exact zaC) _ rfl) rfl ?_
   rw [HE2.out]
   refine ⟨.slice xa x.l.length xc,by rw [HPA.out];rfl,?_,zak HB2.out HW.out _ _ _ _⟩
   exact IsV.keep ⟨by rw [zaN];exact ym _,fun b _ hb=>zbg (by have:=HW.out;have:=hb.2;omega) _ _ _ _⟩ (fun b hb=>hb.1) _ HSX.out
theorem ESec:zdM Tryz.prog 62 29 (.agg #[.slice none 0 0,.int .i64 0,.int .i64 0,.string ⟨#[]⟩,.slice none 0 0]) 5 80:=⟨Tryz.underlying62,by kernel_rfl,rfl,by omega⟩
theorem sec_even {bs:List UInt8} {yo:Bool} (h:(secV bs yo 0).2.2=0):(secV bs yo 0).1.tr.kind=7/\(secV bs yo 0).1.tr.l.length % 2=0:=by
 unfold secV at h |-
 simp only at h |-
 by_cases ho:(oneX zff (zah bs 0 yo)).2≠0
 ·rw [yf ho] at h;exact absurd h ho
 rw [yg ho] at h |-
 have ho':(oneX zff (zah bs 0 yo)).2=0:=by omega
 obtain ⟨o1,o2⟩:=oneX_le (p:=zff) ho'
 obtain ⟨g1,g2⟩:=grps_le (bs:=bs) (yo:=yo) 65 [] _ rfl o1 o2
 by_cases hg:(zbC bs yo 65 [] (oneX zff (zah bs 0 yo)).1).2.2≠0
 ·rw [yf hg] at h;exact absurd h hg
 rw [yg hg] at h |-
 generalize (zbC bs yo 65 [] (oneX zff (zah bs 0 yo)).1).2.1=k at *
 have hd:=parse_doc (bs:=bs) (yo:=yo) g1 g2
 obtain ⟨m1,-⟩:=valO_may _ _ _ _ g1 g2 (show stOk [] from trivial) hd
 by_cases hv:(zcr bs yo k).2.2≠0
 ·rw [yf hv] at h;exact absurd h hv
 rw [yg hv] at h |-
 by_cases h7:(zcr bs yo k).1.kind≠7
 ·rw [yf h7] at h;cases h
 rw [yg h7]
 have hv':(zcr bs yo k).2.2=0:=by omega
 obtain ⟨f0,-⟩:=m1 hv'
 have h7':(zcr bs yo k).1.kind=7:=by omega
 refine ⟨h7',?_⟩
 generalize (zcr bs yo k).1=v at *
 obtain ⟨kk,n,s,l⟩:=v
 have h8:kk=7:=h7'
 subst h8
 unfold zaX at f0
 by_cases hoc:ownC (.mk 7 n s l)≠0
 ·rw [yf hoc] at f0;exact absurd f0 hoc
 ·have hz:ownC (.mk 7 n s l)=0:=by omega
  unfold ownC at hz
  simp only [show ((7:Int)=0)=False by simp,show ((7:Int)=1)=False by simp,show ((7:Int)=2\/(7:Int)=3)=False by simp,show ((7:Int)=4)=False by simp,show ((7:Int)=5)=False by simp,show ((7:Int)=6)=False by simp,if_false,if_true] at hz
  by_cases hb:n≠0\/s≠[]\/l.length % 2≠0
  ·rw [yf hb] at hz;cases hz
  ·show l.length % 2=0
   omega
def SecsEnd (w:World) (V:List Sec×Int×Int) (e:Ending) (w':World):Prop :=
 ∃v,e=.returned (.tuple #[v,.int .i64 V.2.1,.int .i64 V.2.2])/\IsL w' (fun b=>w.heap.size<=b) V.1 v/\Below w.heap.size w w'
theorem zdH {w W:World} {V:List Sec×Int×Int} {n e:Int} (hV:V=([],n,e)) (hb:Below w.heap.size w W):SecsEnd w V (.returned (.tuple #[.slice none 0 0,.int .i64 n,.int .i64 e])) W:=by
 subst hV;exact ⟨_,rfl,IsL.nil _ _,hb⟩
theorem grown_stays {W W8:World} {o:Obj} {row:Option Nat} {B:Nat} (hg:(W.alloc o).grownBy W8 row) (hr:∀b,row=some b->b<B):zay (fun b=>B<=b) W W8 :=
 ⟨by have:=hg.size;rw [zan] at this;omega,fun b hb hF=>by rw [hg.block b (by rw [zan];omega) (fun e=>by have:=hr b e.symm;omega)];exact zb8 W o hb⟩
def slLen:Value->Nat | .slice _ n _=>n|_=>0
theorem zfP (bs:List UInt8) (kn:List Bool) (g:Nat) (rd:List Int) (l:List Sec) (a:Int):zcp bs kn (g+1) rd l a=(if a<0\/(bs.length:Int)<=a then ([],0,20)
  else if a∈rd\/32<=l.length then ([],0,21)
  else if (zcS bs kn a.toNat).2.2=6 then ([],(zaQ kn a.toNat:Int),6) else if (zcS bs kn a.toNat).2.2≠0 then ([],0,20)
  else match getV (zcS bs kn a.toNat).1.tr kPrev with
   | none=>(l++[(zcS bs kn a.toNat).1],0,0)
   | some v=>if v.kind≠2 then ([],0,20) else zcp bs kn g (rd++[a]) (l++[(zcS bs kn a.toNat).1]) v.n):=rfl
theorem zd7 {w:World} {p:Nat} {bs:List UInt8} {kn:List Bool} (h:SrcI w p bs kn) (hl:bs.length<=390000) (k:Int) :
  Calls Tryz.prog 24 #[.pointer (some ⟨p,0,none⟩),.int .i64 k] w (SecsEnd w (zcp bs kn 33 [] [] k)):=by
 have HI:=ya h
 have hmm:=@run_makeMap Tryz.prog
 obtain ⟨R,hR⟩:∃R,R=zcp bs kn 33 [] [] k:=⟨_,rfl⟩
 have HR:=ya hR
 rw [<-hR]
 clear h hR
 obtain ⟨mb,hmb⟩:∃mb,mb=w.heap.size:=⟨_,rfl⟩
 have HM1:=ya (show MapN (w.alloc (.map #[] 0)) mb 0 [] by rw [hmb];exact MapN.made w)
 have HB1:=ya (zag w (.map #[] 0))
 have HMW:=ya (show mb<(w.alloc (.map #[] 0)).heap.size/\w.heap.size<=mb/\(w.alloc (.map #[] 0)).heap.size=mb+1 by rw [zan,hmb];omega)
 go_enter Tryz.func24,Tryz.ntmps24
 go_upto_region 2 with fail
 try rw [<-hmb]
 clear hmb hmm
 generalize w.alloc _=W1 at *
 have HS1:=ya (SsM.nil 29 W1 W1 (fun b=>b=mb))
 go_wp2_with fail
 go_loopw [1,8] (fun v1 v8 wr=>∃(rd:List Int) (l:List Sec) (k:Int) (cs:List Value),v1=.int .i64 k/\l.length<=32/\Hid (SsM 29 W1 wr (fun b=>b=mb) l cs v8)/\Hid (MapN wr mb l.length rd)/\Hid (Below w.heap.size w wr)/\Hid (R=zcp bs kn (33-l.length) rd l k)) (fun _ v8 _=>33-slLen v8)
 case atStart=>exact ⟨[],[],k,[],rfl,by simp,HS1,HM1,HB1,HR⟩
 case round =>
  obtain ⟨rd,l,k,cs,rfl,hl32,HSM,HMN,HB,HQ⟩:=hrel
  obtain ⟨sa,sc,rfl,-,-⟩:=zas HSM.out.own
  obtain ⟨m,hm⟩:∃m,m+1=33-l.length:=⟨32-l.length,by omega⟩
  have hQ:=HQ.out
  rw [<-hm,zfP] at hQ
  have HM:=ya hm
  have HTT:=ya (HI.out.total _ HB.out)
  clear HQ hm
  by_cases h1:k<0
  ·have d1:decide (k<0)=true:=yb h1
   have HV:=ya (hQ.trans (yf (.inl h1)))
   clear hQ
   go_wp2_with fail
   go_ret3
   exact zdH HV.out HB.out
  have d1:decide (k<0)=false:=yd h1
  by_cases h2:(bs.length:Int)<=k
  ·have d2:decide ((bs.length:Int)<=k)=true:=yb h2
   have HV:=ya (hQ.trans (yf (.inr h2)))
   clear hQ
   go_wp2_with (go_at_call 54;refine HTT.out.mono ?_;rintro e w6 ⟨rfl,rfl⟩)
   go_ret3
   exact zdH HV.out HB.out
  have d2:decide ((bs.length:Int)<=k)=false:=yd h2
  obtain ⟨K,rfl⟩:∃K:Nat,k=(K:Int):=⟨k.toNat,by omega⟩
  have hKl:K<bs.length:=by omega
  have hKb:i64N (K:Int):=⟨by omega,by omega⟩
  have HKB:=ya hKb
  rw [yg (by rintro (h|h);exact h1 h;exact h2 h),show ((K:Int)).toNat=K from rfl] at hQ
  clear h1 h2 hKb
  by_cases hin:(K:Int)∈rd\/32<=l.length
  ·have HV:=ya (hQ.trans (yf hin))
   have HIN:=ya hin
   obtain ⟨d,hd⟩:∃d,d=decide ((K:Int)∈rd):=⟨_,rfl⟩
   have HD:=ya hd
   clear hQ hin hd
   have d3:d=false->decide ((32:Int)<=(l.length:Int))=true:=fun e=>by
    refine yb ?_
    rcases HIN.out with h|h
    ·have:=HD.out;rw [yb h] at this;rw [this] at e;cases e
    ·omega
   have d4:d=false->decide (32<=l.length)=true:=fun e=>by have:=d3 e;simp at this |-;omega
   cases d
   ·have d5:=d3 rfl
    have d6:=d4 rfl
    clear d3 d4
    go_wp2_with (first|(go_at_call 54;refine HTT.out.mono ?_;rintro e w6 ⟨rfl,rfl⟩)|(at_lookup;refine zcs rfl _ _ rfl HMN.out rfl rfl HKB.out ?_;intro c;rw [<-HD.out]))
    go_ret3
    exact zdH HV.out HB.out
   ·clear d3 d4
    go_wp2_with (first|(go_at_call 54;refine HTT.out.mono ?_;rintro e w6 ⟨rfl,rfl⟩)|(at_lookup;refine zcs rfl _ _ rfl HMN.out rfl rfl HKB.out ?_;intro c;rw [<-HD.out]))
    go_ret3
    exact zdH HV.out HB.out
  rw [yg hin] at hQ
  have hl31:l.length<32:=by
   rcases Nat.lt_or_ge l.length 32 with h|h
   ·exact h
   ·exact absurd (.inr h) hin
  have d3:decide ((32:Int)<=(l.length:Int))=false:=yd (by omega)
  have d4:decide (32<=l.length)=false:=yd (by omega)
  have HD:=ya (show decide ((K:Int)∈rd)=false from yd (fun h=>hin (.inl h)))
  have HSEC:=ya (fun (W:World) (hb:Below w.heap.size w W)=>section_any (HI.out.mono hb) hl hKl)
  have hEV:=sec_even (bs:=(bs.drop K).take (zaQ kn K-K)) (yo:=zaQ kn K==bs.length)
  rw [show secV ((bs.drop K).take (zaQ kn K-K)) (zaQ kn K==bs.length) 0=zcS bs kn K from rfl] at hEV
  unfold sctV at HSEC
  generalize zcS bs kn K=S at *
  obtain ⟨s,so,se⟩:=S
  simp only at hQ HSEC hEV
  clear hin
  go_wp2_with (first|(go_at_call 54;refine HTT.out.mono ?_;rintro e w6 ⟨rfl,rfl⟩)|(at_lookup;refine zcs rfl _ _ rfl HMN.out rfl rfl HKB.out ?_;intro c;rw [HD.out])|(at_mapUpdate;refine zgG rfl _ _ _ rfl HMN.out rfl rfl HKB.out rfl ⟨by omega,by omega⟩ (by unfold maxLen;omega) ?_;intro w2 hmn2 hg2))
  have HB2:=ya (HB.out.grown hg2 HB.out.size (fun b hb=>by cases hb;exact HMW.out.2.1))
  have HM2:=ya hmn2
  have HS2:=ya (HSM.out.on (zae.of_grown (S:=fun b=>b=mb) hg2 (fun b hb=>by cases hb;rfl)) (fun b hb _=>hb) (fun b hb e=>by have:=(HSM.out.own.lt b hb).1;have:=HMW.out.1;omega))
  have HSE:=ya (HSEC.out _ HB2.out)
  have HQ:=ya hQ
  clear hQ hmn2 hg2 HSEC HSM HMN HB HTT HD
  by_cases he:se=0
  case neg =>
   have HSF:=ya (show Calls Tryz.prog 62 #[.pointer (some ⟨p,0,none⟩),.int .i64 K] w2 (zec w2 (Sec.none,if se=6 then ((zaQ kn K:Nat):Int) else 0,if se=6 then 6 else 20)) by
    have:=HSE.out
    rw [yg he] at this
    by_cases h6:se=6
    ·rw [yf h6,yf h6];rwa [yf h6] at this
    ·rw [yg h6,yg h6];rwa [yg h6] at this)
   have HV:=ya (show R=([],if se=6 then ((zaQ kn K:Nat):Int) else 0,if se=6 then 6 else 20) by
    have:=HQ.out
    by_cases h6:se=6
    ·rw [yf h6,yf h6];rwa [yf h6] at this
    ·rw [yg h6,yg h6];rwa [yg h6,yf he] at this)
   obtain ⟨u,hu⟩:∃u,u=(if se=6 then ((zaQ kn K:Nat):Int) else 0):=⟨_,rfl⟩
   obtain ⟨v,hv⟩:∃v,v=(if se=6 then (6:Int) else 20):=⟨_,rfl⟩
   have hv0:v≠0:=by rw [hv];by_cases h6:se=6<;>simp [h6]
   rw [<-hu,<-hv] at HSF HV
   have e0:(v==0)=false:=by rw [ye];exact hv0
   have e1:(v != 0)=true:=by simp only [bne,e0,yi]
   clear hu hv hv0 HSE HQ hEV he
   refine HSF.out.mono ?_
   rintro e w3 ⟨gv,sl,rfl,hs3,hb3⟩
   obtain ⟨ga,gc,rfl,-,-,-⟩:=hs3.1.len
   obtain ⟨sa3,sc3,rfl,-,-,-⟩:=hs3.2.len
   simp only [secA,Sec.none,PV.none,List.length_nil]
   have HB3:=yl HB2 hb3
   clear hs3 hb3
   go_wp2_with fail
   go_ret3
   exact zdH HV.out (HB3.out.alloc HB3.out.size _)
  subst he
  rw [yf rfl] at HSE
  have HV:=ya (HQ.out.trans ((yg (by decide)).trans (yg (fun h=>h rfl))))
  obtain ⟨-,hev⟩:=hEV rfl
  have HEV:=ya hev
  clear HQ hEV hev
  refine HSE.out.mono ?_
  rintro e w3 ⟨gv,sl,rfl,hs3,hb3⟩
  obtain ⟨ga,gc,rfl,-,-,-⟩:=hs3.1.len
  obtain ⟨ta,tc,rfl,-,-,-⟩:=hs3.2.len
  simp only [secA]
  have hb3a:=hb3.alloc hb3.size (.cells #[.slice ga s.gs.length gc,.int .i64 s.tr.kind,.int .i64 s.tr.n,.string (mkB s.tr.s),.slice ta s.tr.l.length tc] 29)
  have HT3:=ya (zac (w:=w3) (b:=w3.heap.size) (.cells #[.slice ga s.gs.length gc,.int .i64 s.tr.kind,.int .i64 s.tr.n,.string (mkB s.tr.s),.slice ta s.tr.l.length tc] 29) rfl)
  have HX3:=ya (hs3.below (zag w3 (.cells #[.slice ga s.gs.length gc,.int .i64 s.tr.kind,.int .i64 s.tr.n,.string (mkB s.tr.s),.slice ta s.tr.l.length tc] 29)))
  have HB3:=yl HB2 hb3a
  have HS3:=ya (HS2.out.below hb3a)
  have HM3:=ya (HM2.out.keep (hb3a.block mb HM2.out.lt))
  have HW2:=ya (show W1.heap.size<=w2.heap.size/\w2.heap.size<=w3.heap.size/\∀b,Value.ownBlock (.slice sa l.length sc)=some b->b<w2.heap.size from ⟨by have:=HM2.out.lt;have:=HMW.out.2.2;omega,hb3.size,fun b hb=>(HS2.out.own.lt b hb).2⟩)
  have HM2L:=ya HM2.out.lt
  clear hb3 hb3a hs3 HS2 HM2 HB2 HSE
  go_upto_region 10 with fail
  obtain ⟨T,hT⟩:∃T,T=w3.heap.size:=⟨_,rfl⟩
  rw [<-hT] at HT3 HW2 |-
  clear hT
  generalize World.alloc _ _=W3 at *
  obtain ⟨⟨t0,t1,t2,t3,t4⟩,-⟩:=za1 HT3.out
  have HSC:=ya (show secC s (.slice ga s.gs.length gc) (.slice ta s.tr.l.length tc)=[.slice ga s.gs.length gc,.int .i64 s.tr.kind,.int .i64 s.tr.n,.string (mkB s.tr.s),.slice ta s.tr.l.length tc] from rfl)
  have HPA:=ya (show pvA s.tr (.slice ta s.tr.l.length tc)=.agg #[.int .i64 s.tr.kind,.int .i64 s.tr.n,.string (mkB s.tr.s),.slice ta s.tr.l.length tc] from rfl)
  have hone:∀u∈secC s (.slice ga s.gs.length gc) (.slice ta s.tr.l.length tc),u.oneCell'=true:=by
   intro u hu
   rw [HSC.out] at hu
   simp at hu
   rcases hu with rfl|rfl|rfl|rfl|rfl<;>rfl
  rw [HSC.out] at hone
  have HONE:=ya hone
  have HGT:=ya (fun (W:World) (hx:IsV W (fun b=>w2.heap.size<=b) s.tr (.slice ta s.tr.l.length tc))=>vget_any hx (fun _=>HEV.out) kPrev)
  rw [HPA.out] at HGT
  clear hone
  generalize hGV:getV s.tr kPrev=GV at *
  clear hGV
  generalize hK1:s.tr.kind=xk at *
  generalize hK2:s.tr.n=xn at *
  generalize hK3:mkB s.tr.s=xb at *
  clear hK1 hK2 hK3
  go_wp2_with (at_builtin;go_loud (refine zdC ESec rfl (.tmp 52) (.tmp 54) rfl W1.heap.size _ l.length _ rfl (HS3.out.own.alloc _) _ 1 _ rfl (zgh _ #[.slice ga s.gs.length gc,.int .i64 xk,.int .i64 xn,.string xb,.slice ta s.tr.l.length tc] _ 5 rfl rfl) HONE.out (by unfold maxLen;omega) (by omega) (by rw [zan];have:=HW2.out;have:=zaf HT3.out;omega) ?_);intro v' w8 hO8 hg8 hn8;obtain ⟨ua,uc,rfl,-,-⟩:=zas hO8;have HS8:=ya (HS3.out.app hg8 HX3.out HW2.out.1 HW2.out.2.2 (fun b hb=>by rw [hb];have:=HM2L.out;exact this) (by rw [HSC.out];exact hO8) hn8);have HST:=ya (grown_stays hg8 HW2.out.2.2);have HX8:=ya (HX3.out.keep HST.out (fun _ h=>h));have HT8:=ya ((HST.out.2 T (zaf HT3.out) HW2.out.2.1).trans HT3.out);have HM8:=ya (HM3.out.keep ((hg8.block mb (by rw [zan];have:=HM3.out.lt;omega) (fun e=>by have:=(HS3.out.own.lt mb e.symm).1;have:=HMW.out.1;omega)).trans (zb8 _ _ HM3.out.lt)));have HB8:=ya ((HB3.out.alloc HB3.out.size _).grown hg8 (by rw [zan];have:=HB3.out.size;omega) (fun b hb=>by have:=(HS3.out.own.lt b hb).1;have:=HMW.out;omega));clear hO8 hg8 hn8 HS3 HX3 HT3 HM3 HB3 t0 t1 t2 t3 t4;obtain ⟨⟨t0,t1,t2,t3,t4⟩,-⟩:=za1 HT8.out)
  have HG8:=ya (HGT.out _ HX8.out.2)
  clear HGT
  have HFW:=ya (show ∀b,W1.heap.size<=b->w.heap.size<=b from fun b hb=>by have:=HMW.out;omega)
  cases GV with
  | none =>
   refine HG8.out.mono ?_
   rintro e w9 ⟨xl,rfl,hv9,hb9⟩
   obtain ⟨la,lc,rfl,-,-,-⟩:=hv9.len
   simp only [getP,pvA,PV.none]
   have HB9:=yl HB8 hb9
   have HS9:=ya (HS8.out.below hb9)
   clear hv9 hb9 HG8 HX8 HT8 HM8 HB8 HS8 t0 t1 t2 t3 t4
   go_wp2_with fail
   go_ret3
   rw [HV.out]
   exact ⟨_,rfl,((HS9.out.below (zag _ _)).fin.keep (zay.refl _ _) (fun b hb=>HFW.out b hb)),HB9.out.alloc HB9.out.size _⟩
  | some v =>
   refine HG8.out.mono ?_
   rintro e w9 ⟨xl,rfl,hv9,hb9⟩
   obtain ⟨la,lc,rfl,-,-,-⟩:=hv9.len
   simp only [getP,pvA]
   have hb9a:=hb9.alloc hb9.size (.cells #[.int .i64 v.kind,.int .i64 v.n,.string (mkB v.s),.slice la v.l.length lc] 27)
   have HY9:=ya (zac (w:=w9) (b:=w9.heap.size) (.cells #[.int .i64 v.kind,.int .i64 v.n,.string (mkB v.s),.slice la v.l.length lc] 27) rfl)
   have HB9:=yl HB8 hb9a
   have HS9:=ya (HS8.out.below hb9a)
   have HM9:=ya (HM8.out.keep (hb9a.block mb HM8.out.lt))
   clear hv9 hb9 hb9a HG8 HX8 HT8 HM8 HB8 HS8 t0 t1 t2 t3 t4
   have HV2:=ya (show R=if v.kind≠2 then ([],0,20) else zcp bs kn m (rd++[(K:Int)]) (l++[s]) v.n from HV.out)
   clear HV
   generalize v.kind=vk at *
   generalize v.n=vn at *
   generalize mkB v.s=vb at *
   go_upto_region 14 with fail
   generalize w9.heap.size=Y at *
   generalize World.alloc _ _=W9 at *
   obtain ⟨⟨y0,y1,y2,y3⟩,-⟩:=zaj HY9.out
   by_cases hk2:vk=2
   case neg =>
    have HV3:=ya (HV2.out.trans (yf hk2))
    have e0:(vk==2)=false:=by rw [ye];exact hk2
    have e1:(vk != 2)=true:=by simp only [bne,e0,yi]
    clear hk2
    go_wp2_with fail
    go_ret3
    exact zdH HV3.out HB9.out
   subst hk2
   have HV3:=ya (HV2.out.trans (yg (fun h=>h rfl)))
   have HLN:=ya (show (l++[s]).length=l.length+1 by simp)
   clear HV2
   go_wp2_with fail
   go_roundw
   case rel=>exact ⟨rd++[(K:Int)],l++[s],vn,_,rfl,by rw [HLN.out];omega,HS9,by rw [HLN.out];exact HM9,HB9,ya (by rw [HV3.out,HLN.out,show 33-(l.length+1)=m by have:=HM.out;omega])⟩
   case measure=>simp [slLen];omega
theorem rfind_any {w:World} {F:Nat->Prop} {v:PV} {sl:Value} (h:IsV w F v sl) (hev:v.kind=7->v.l.length % 2=0) (key:List UInt8):Calls Tryz.prog 101 #[pvA v sl,.string (mkB key)] w (zgv w (zdF v key)):=by
 obtain ⟨a,cap,rfl,g1,g2,g3⟩:=h.len
 have hl63:(v.l.length:Int)<=9223372036854775807:=by unfold maxLen at g2;omega
 have HV:=ya h
 have HNO:=ya (fun h=>findN_no (v:=v) (key:=key) h)
 have HYE:=ya (fun h=>findN_yes (v:=v) (key:=key) h)
 obtain ⟨R,hR⟩:∃R,R=zdF v key:=⟨_,rfl⟩
 rw [<-hR] at HNO HYE |-
 clear hR h g2 g3
 unfold pvA
 obtain ⟨l,hl⟩:∃l,l=v.l:=⟨_,rfl⟩
 rw [<-hl] at HV HYE hl63 g1 hev |-
 have HL:=ya hl
 clear hl
 obtain ⟨B,hB⟩:∃B,B=w.heap.size:=⟨_,rfl⟩
 have HB1:=ya (zag w (.cells #[.int .i64 v.kind,.int .i64 v.n,.string (mkB v.s),.slice a l.length cap] 27))
 have HZ1:=ya (zac (w:=w) (b:=B) (.cells #[.int .i64 v.kind,.int .i64 v.n,.string (mkB v.s),.slice a l.length cap] 27) hB)
 have HV1:=ya (HV.out.below HB1.out)
 generalize v.kind=vk at *
 generalize v.n=vn at *
 generalize mkB v.s=vb at *
 go_enter Tryz.func101,Tryz.ntmps101
 go_upto_region 1 with fail
 rw [<-hB]
 clear hB HV
 generalize w.alloc _=W1 at *
 obtain ⟨⟨z0,z1,z2,z3⟩,-⟩:=zaj HZ1.out
 by_cases h7:vk=7
 case neg =>
  have HR:=ya (HNO.out h7)
  have e0:(vk==7)=false:=by rw [ye];exact h7
  have e1:(vk != 7)=true:=by simp only [bne,e0,yi]
  clear h7 HYE HNO hev
  go_wp2_with fail
  go_loop [5] (fun v5=>v5=.int .i64 0) (fun _=>0)
  case atStart=>rfl
  case round =>
  subst hrel
  go_wp2_with fail
  go_ret
  exact ⟨by rw [HR.out];rfl,HB1.out⟩
 have HR:=ya (HYE.out h7)
 have hl2:=hev h7
 clear hev
 subst h7
 clear HNO HYE
 go_wp2_with fail
 go_loop [5] (fun v5=>∃k:Nat,v5=.int .i64 k/\k<=l.length/\k % 2=0/\Hid (R=(fN key (l.drop k)).map (· + k))) (fun v5=>l.length+2-(intOf v5).toNat)
 case atStart=>exact ⟨0,rfl,by omega,rfl,ya (by rw [HR.out,List.drop_zero];cases fN key l<;>rfl)⟩
 case round =>
  obtain ⟨k,rfl,hk,hk2,HQ⟩:=hrel
  by_cases hlt:k<l.length
  ·have hcd:decide ((k:Int)<(l.length:Int))=true:=yb (by omega)
   have hcd2:decide (k<l.length)=true:=yb hlt
   have hkb:(k:Int)+2<=9223372036854775807:=by omega
   have hkc:k+2<=l.length:=by omega
   have hv1:=HV1.out
   obtain ⟨-,-,-,b,off,rfl,-,-,hc⟩:=hv1.at (by omega)
   obtain ⟨x,hx⟩:∃x,l[k]?=some x:=⟨_,List.getElem?_eq_getElem hlt⟩
   obtain ⟨slx,-,c0,-,c2,-⟩:=hc k x (by rw [<-HL.out];exact hx)
   have HST:=ya (fN_step (key:=key) hx)
   have hq:((mkB x.s).toList==(mkB key).toList)=decide (x.s=key):=by rw [zal key];exact zcQ x.s key
   clear hv1 hc hx
   by_cases h5:x.kind=5
   case neg =>
    have e0:(x.kind==5)=false:=by rw [ye];exact h5
    have HQ2:=ya (show R=(fN key (l.drop (k+2))).map (· + (k+2)) by rw [HQ.out,HST.out,yg (fun h=>h5 h.1),Option.map_map];congr 1;funext q;show q+2+k=q+(k+2);omega)
    clear h5 HST HQ hq
    generalize x.kind=xk at *
    go_wp2_with fail
    go_round
    case rel=>exact ⟨k+2,by go_num,hkc,by omega,HQ2⟩
    case measure=>simp [intOf];omega
   have e0:(x.kind==5)=true:=by rw [beq_iff_eq];exact h5
   by_cases hs:x.s=key
   ·have HQ2:=ya (show R=some k by rw [HQ.out,HST.out,yf ⟨h5,hs⟩];show some (0+k)=_;rw [Nat.zero_add])
    rw [yb hs] at hq
    clear h5 HST HQ hs
    generalize x.kind=xk at *
    generalize mkB x.s=xb at *
    go_wp2_with fail
    go_ret
    exact ⟨by rw [HQ2.out];rfl,HB1.out⟩
   ·have HQ2:=ya (show R=(fN key (l.drop (k+2))).map (· + (k+2)) by rw [HQ.out,HST.out,yg (fun h=>hs h.2),Option.map_map];congr 1;funext q;show q+2+k=q+(k+2);omega)
    rw [yd hs] at hq
    clear h5 HST HQ hs
    generalize x.kind=xk at *
    generalize mkB x.s=xb at *
    go_wp2_with fail
    go_round
    case rel=>exact ⟨k+2,by go_num,hkc,by omega,HQ2⟩
    case measure=>simp [intOf];omega
  ·have hcd:decide ((k:Int)<(l.length:Int))=false:=yd (by omega)
   have hcd2:decide (k<l.length)=false:=yd hlt
   have HQ2:=ya (show R=none by rw [HQ.out,fN_end (by omega)];rfl)
   clear HQ
   go_wp2_with fail
   go_ret
   exact ⟨by rw [HQ2.out];rfl,HB1.out⟩
theorem rget_any {w:World} {F:Nat->Prop} {v:PV} {sl:Value} (h:IsV w F v sl) (hev:v.kind=7->v.l.length % 2=0) (key:List UInt8):Calls Tryz.prog 65 #[pvA v sl,.string (mkB key)] w (GetEnd w F (getP (getV v key))):=by
 obtain ⟨a,cap,rfl,g1,g2,g3⟩:=h.len
 have hl63:(v.l.length:Int)<=9223372036854775807:=by unfold maxLen at g2;omega
 have HV:=ya (IsV.lt _ h)
 have HF:=ya (fun (W:World) (hb:Below w.heap.size w W)=>rfind_any (h.below hb) hev key)
 obtain ⟨R,hR⟩:∃R,R=zdF v key:=⟨_,rfl⟩
 have HLT:=ya (show ∀k,R=some k->k<v.l.length from fun k hk=>by
  rw [hR] at hk
  unfold zdF at hk
  split at hk
  ·exact fN_lt hk
  ·cases hk)
 obtain ⟨V,hV⟩:∃V,V=getP (getV v key):=⟨_,rfl⟩
 have HVN:=ya (show R=none->V=(PV.none,false) from fun h=>by rw [hV];unfold getV;rw [<-hR,h];rfl)
 have HVS:=ya (show ∀k,R=some k->V=(v.l.getD (k+1) PV.none,true) from fun k h=>by rw [hV];unfold getV;rw [<-hR,h];rfl)
 rw [<-hR] at HF
 rw [<-hV]
 clear hR hV h g2 g3
 unfold zgv pvA at HF
 unfold pvA
 obtain ⟨l,hl⟩:∃l,l=v.l:=⟨_,rfl⟩
 clear hev
 rw [<-hl] at HV HF HLT HVS hl63 g1 |-
 have HL:=ya hl
 clear hl
 obtain ⟨B,hB⟩:∃B,B=w.heap.size:=⟨_,rfl⟩
 have HB1:=ya (zaT w (.cells #[.int .i64 v.kind,.int .i64 v.n,.string (mkB v.s),.slice a l.length cap] 27) (.cells #[.int .i64 0,.int .i64 0,.string ⟨#[]⟩,.slice none 0 0] 27))
 have HZ1:=ya (zai (w:=w.alloc (.cells #[.int .i64 v.kind,.int .i64 v.n,.string (mkB v.s),.slice a l.length cap] 27)) (.cells #[.int .i64 0,.int .i64 0,.string ⟨#[]⟩,.slice none 0 0] 27) (zac (w:=w) (b:=B) (.cells #[.int .i64 v.kind,.int .i64 v.n,.string (mkB v.s),.slice a l.length cap] 27) hB))
 have HY1:=ya (zac (w:=w.alloc (.cells #[.int .i64 v.kind,.int .i64 v.n,.string (mkB v.s),.slice a l.length cap] 27)) (b:=B+1) (.cells #[.int .i64 0,.int .i64 0,.string ⟨#[]⟩,.slice none 0 0] 27) (by rw [zan,hB]))
 have HW:=ya (show w.heap.size<=B+1 by omega)
 generalize v.kind=vk at *
 generalize v.n=vn at *
 generalize mkB v.s=vb at *
 go_enter Tryz.func65,Tryz.ntmps65
 go_upto_region 1 with fail
 try rw [<-hB]
 generalize World.alloc _ _=W1 at *
 clear hB
 generalize B+1=r at *
 obtain ⟨⟨z0,z1,z2,z3⟩,-⟩:=zaj HZ1.out
 go_wp2_with fail
 refine (HF.out _ HB1.out).mono ?_
 rintro e w2 ⟨rfl,hb2⟩
 have HZ2:=ya (zaa hb2 HZ1.out)
 have HY2:=ya (zaa hb2 HY1.out)
 have HB2:=yl HB1 hb2
 have HV2:=ya (HV.out.below HB2.out)
 clear hb2 HZ1 HY1 HB1 HV HF z0 z1 z2 z3
 obtain ⟨⟨z0,z1,z2,z3⟩,-⟩:=zaj HZ2.out
 obtain ⟨⟨y0,y1,y2,y3⟩,f0,f1,f2,f3⟩:=zaj HY2.out
 cases R with
 | none =>
  have HE:=ya (HVN.out rfl)
  clear HVN HVS HLT
  unfold zdl
  go_wp2
  refine yh (zab rfl _ _ r 27 _ (0,0) _ rfl (by exact set4 HY2.out _ _ _ _) Tryz.underlying27 rfl (by exact zaC) _ rfl) rfl ?_
  rw [HE.out]
  exact ⟨_,rfl,IsV.leaf _ _ _ rfl,zak HB2.out HW.out _ _ _ _⟩
 | some k =>
  have hkl:=HLT.out k rfl
  have HE:=ya (HVS.out k rfl)
  have hd0:decide ((k:Int)<0)=false:=yd (by omega)
  clear HVN HVS HLT
  unfold zdl
  simp only
  by_cases hle:k+1=l.length
  ·have hq:((k:Int)+1==(l.length:Int))=true:=by rw [beq_iff_eq];omega
   have hq2:((k:Int)==(l.length:Int)-1)=true:=by rw [beq_iff_eq];omega
   have hg:l.getD (k+1) PV.none=PV.none:=by rw [List.getD_eq_getElem?_getD,List.getElem?_eq_none (by omega)];rfl
   have HE2:=ya (HE.out.trans (by rw [hg]))
   clear hg HE hle
   go_wp2
   refine yh (zab rfl _ _ r 27 _ (0,0) _ rfl (by exact set4 HY2.out _ _ _ _) Tryz.underlying27 rfl (by exact zaC) _ rfl) rfl ?_
   rw [HE2.out]
   exact ⟨_,rfl,IsV.leaf _ _ _ rfl,zak HB2.out HW.out _ _ _ _⟩
  ·have hq:((k:Int)+1==(l.length:Int))=false:=by rw [ye];omega
   have hq2:((k:Int)==(l.length:Int)-1)=false:=by rw [ye];omega
   have hk1:k+1<l.length:=by omega
   have hv2:=HV2.out
   obtain ⟨-,-,-,b,off,rfl,-,-,hc⟩:=hv2.at (by omega)
   obtain ⟨x,hx⟩:∃x,l[k+1]?=some x:=⟨_,List.getElem?_eq_getElem hk1⟩
   obtain ⟨slx,hsx,c0,c1,c2,c3⟩:=hc (k+1) x (by rw [<-HL.out];exact hx)
   have hg:l.getD (k+1) PV.none=x:=by rw [List.getD_eq_getElem?_getD,hx];rfl
   have HE2:=ya (HE.out.trans (by rw [hg]))
   obtain ⟨xa,xc,rfl,-,-,-⟩:=hsx.len
   have HSX:=ya hsx
   have HPA:=ya (show pvA x (.slice xa x.l.length xc)=.agg #[.int .i64 x.kind,.int .i64 x.n,.string (mkB x.s),.slice xa x.l.length xc] from rfl)
   have HRW:=ya (zaf HY2.out)
   obtain ⟨j,hj⟩:∃j,j=k+1:=⟨_,rfl⟩
   have hji:(k:Int)+1=(j:Int):=by omega
   rw [<-hj] at c0 c1 c2 c3 hk1
   have HJ:=ya hj
   clear hj hv2 hc hx hg HE hle hsx
   generalize x.kind=xk at *
   generalize x.n=xn at *
   generalize mkB x.s=xb at *
   go_wp2
   refine yh (zab rfl _ _ r 27 _ (0,0) _ rfl (by exact set4 HY2.out _ _ _ _) Tryz.underlying27 rfl (by exact zaC) _ rfl) rfl ?_
   rw [HE2.out]
   refine ⟨.slice xa x.l.length xc,by rw [HPA.out];rfl,?_,zak HB2.out HW.out _ _ _ _⟩
   exact IsV.keep ⟨by rw [zaN];exact ym _,fun b _ hb=>zbg (by have:=HW.out;have:=hb.2;omega) _ _ _ _⟩ (fun b hb=>hb.1) _ HSX.out
structure EsM (w W:World) (g:Nat) (n:Int) (es:List Ent) (sv:Value):Prop where
 blk:W.heap[g]?=some (.cells #[.int .i64 n,sv] 42 (0,0))
 own:W.ownsRow w.heap.size 44 3 sv es.length (zbY es)
 kps:zae (fun b=>b=g) w W
 gne:g<w.heap.size
theorem EsM.ne {w W:World} {g:Nat} {n:Int} {es:List Ent} {sv:Value} (h:EsM w W g n es sv) {b:Nat} (hb:sv.ownBlock=some b):b≠g:=by
 have:=(h.own.lt b hb).1
 have:=h.gne
 omega
theorem EsM.on {w W W':World} {g:Nat} {n:Int} {es:List Ent} {sv:Value} (h:EsM w W g n es sv) (hk:zae (fun _=>False) W W'):EsM w W' g n es sv :=
 ⟨hk.obj h.blk (fun h=>h),zaA h.own fun b hb=>hk.block b (h.own.lt b hb).2 (fun h=>h),h.kps.trans hk (fun x hx=>(by cases hx)),h.gne⟩
theorem EsM.app {w W W8:World} {o:Obj} {g:Nat} {n:Int} {es:List Ent} {sv:Value} (h:EsM w W g n es sv) (hg8:(W.alloc o).grownBy W8 sv.ownBlock) {x:Ent} {v':Value} (hO:W8.ownsRow w.heap.size 44 3 v' (es.length+1) (zbY es++entC x)) :
  EsM w (W8.setCell ⟨g,1,none⟩ v') g n (es++[x]) v':=by
 have hG:W8.heap[g]?=some (.cells #[.int .i64 n,sv] 42 (0,0)) :=
  (hg8.block g (by rw [zan];have:=zaf h.blk;omega) (fun e=>h.ne e.symm rfl)).trans (zai _ h.blk)
 refine ⟨by rw [heap_setCell_same _ g 1 _ _ _ hG];rfl,?_,((h.kps.alloc o).grown hg8 (fun k hk=>.inr (h.own.lt k hk).1)).setCell (.inl rfl) _,h.gne⟩
 have h2:zbY (es++[x])=zbY es++entC x:=by rw [zdV];simp [zbY]
 rw [h2,List.length_append]
 refine zaA hO fun b hb=>?_
 obtain ⟨cs,hc⟩:=zaB hO hb
 exact heap_setCell_other _ _ _ _ (zaO hc hG (by decide))
theorem EsM.below {w W W':World} {g:Nat} {n:Int} {es:List Ent} {sv:Value} (h:EsM w W g n es sv) (hb:Below W.heap.size W W'):EsM w W' g n es sv:=h.on (zar hb)
theorem EsM.fin {w W:World} {g:Nat} {n:Int} {es:List Ent} {sv:Value} (h:EsM w W g n es sv):IsE W (fun b=>w.heap.size<=b) es sv:=isE_own h.own
structure PsM (w W0 W:World) (r p:Nat) (gs:List Grp) (cs:List Value) (v:Value):Prop where
 sb:W.heap[p]?=some (.cells #[v,.int .i64 0,.int .i64 0,.string ⟨#[]⟩,.slice none 0 0] 33 (0,0))
 rb:W.heap[r]?=some (.cells #[.slice none 0 0,.int .i64 0,.int .i64 0,.string ⟨#[]⟩,.slice none 0 0] 33 (0,0))
 gm:GsM W0 W p gs cs v
 bel:Below w.heap.size w W
 lt:w.heap.size<=r/\r<p/\p<W0.heap.size
theorem PsM.on {w W0 W W':World} {r p:Nat} {gs:List Grp} {cs:List Value} {v:Value} (h:PsM w W0 W r p gs cs v) (hb:Below W.heap.size W W'):PsM w W0 W' r p gs cs v :=
 ⟨zaa hb h.sb,zaa hb h.rb,h.gm.on h.lt.2.2 (zar hb),h.bel.trans (hb.mono h.bel.size),h.lt⟩
theorem PsM.app {w W0 W W8:World} {r p:Nat} {o:Obj} {gs:List Grp} {cs:List Value} {v v':Value} (h:PsM w W0 W r p gs cs v) (hg8:(W.alloc o).grownBy W8 v.ownBlock) {n:Int} {es:List Ent} {sv:Value} (hG:GsM W0 W8 p (gs++[⟨n,es⟩]) (cs++[.int .i64 n,sv]) v') :
  PsM w W0 (W8.setCell ⟨p,0,none⟩ v') r p (gs++[⟨n,es⟩]) (cs++[.int .i64 n,sv]) v':=by
 have hnp:∀ {b},v.ownBlock=some b->b≠p/\b≠r:=fun {b} hb=>by
  have:=(h.gm.own.lt b hb).1
  have:=h.lt
  omega
 have hP:W8.heap[p]?=some (.cells #[v,.int .i64 0,.int .i64 0,.string ⟨#[]⟩,.slice none 0 0] 33 (0,0)) :=
  (hg8.block p (by rw [zan];have:=zaf h.sb;omega) (fun e=>(hnp e.symm).1 rfl)).trans (zai _ h.sb)
 have hR:W8.heap[r]?=some (.cells #[.slice none 0 0,.int .i64 0,.int .i64 0,.string ⟨#[]⟩,.slice none 0 0] 33 (0,0)) :=
  (hg8.block r (by rw [zan];have:=zaf h.rb;omega) (fun e=>(hnp e.symm).2 rfl)).trans (zai _ h.rb)
 refine ⟨by rw [heap_setCell_same _ p 0 _ _ _ hP];rfl,?_,hG.on h.lt.2.2 ((zae.refl (fun b=>b=p) W8).setCell (a:=⟨p,0,none⟩) (.inl rfl) _),?_,h.lt⟩
 ·rw [heap_setCell_other _ _ _ _ (show r≠p by have:=h.lt;omega)];exact hR
 ·have h1:Below w.heap.size w W8:=(h.bel.alloc h.bel.size o).grown hg8 (by have:=(h.bel.alloc h.bel.size o).size;omega) (fun b hb=>by have:=(h.gm.own.lt b hb).1;have:=h.lt;omega)
  have h2:w.heap.size<=(⟨p,0,none⟩:Addr).block:=by have:=h.lt;show w.heap.size<=p;omega
  exact h1.setCell h2 _
theorem PsM.ret {w W0 W:World} {r p:Nat} {gs:List Grp} {cs:List Value} {v:Value} (h:PsM w W0 W r p gs cs v) {V:Sec×Int×Int} {e:Int} (hV:V=(Sec.none,0,e)) (y0 y1 y2 y3 y4:Value) :
  zec w V (.returned (.tuple #[.agg #[.slice none 0 0,.int .i64 0,.int .i64 0,.string ⟨#[]⟩,.slice none 0 0],.int .i64 0,.int .i64 e])) (((((W.setCell ⟨r,0,none⟩ y0).setCell ⟨r,1,none⟩ y1).setCell ⟨r,2,none⟩ y2).setCell ⟨r,3,none⟩ y3).setCell ⟨r,4,none⟩ y4) :=
 sec_no hV h.bel h.lt.1 y0 y1 y2 y3 y4
theorem EsM.atG {w W W8:World} {o:Obj} {g:Nat} {n:Int} {es:List Ent} {sv:Value} (h:EsM w W g n es sv) (hg8:(W.alloc o).grownBy W8 sv.ownBlock):W8.heap[g]?=some (.cells #[.int .i64 n,sv] 42 (0,0)) :=
 (hg8.block g (by rw [zan];have:=zaf h.blk;omega) (fun e=>h.ne e.symm rfl)).trans (zai _ h.blk)
theorem SsM.swap {t:TypeId} {w W:World} {X Y:Nat->Prop} {l:List Sec} {cs:List Value} {v:Value} (h:SsM t w W X l cs v) (hX:∀b,b<W.heap.size->Y b->X b):SsM t w W Y l cs v :=
 ⟨h.own,h.hold.ltw.keep (zay.refl _ _) (fun b hb=>⟨hb.1.1,hb.1.2.1,fun hy=>hb.1.2.2 (hX b hb.2 hy)⟩)⟩
theorem SsM.move {t:TypeId} {w W W':World} {X Y:Nat->Prop} {l:List Sec} {cs:List Value} {v:Value} (h:SsM t w W X l cs v) (hk:zae X W W') (hv:∀b,v.ownBlock=some b->¬X b) (hY:∀b,b<W.heap.size->Y b->X b):SsM t w W' Y l cs v :=
 ⟨zaA h.own (fun b hb=>hk.block b (h.own.lt b hb).2 (hv b hb)),h.hold.ltw.keep ⟨hk.size,fun b hb hF=>hk.block b hb hF.1.2.2⟩ (fun b hb=>⟨hb.1.1,hb.1.2.1,fun hy=>hb.1.2.2 (hY b hb.2 hy)⟩)⟩
theorem zgg {w w':World} {row:Option Nat} (h:w.drew.grownBy w' row):w.grownBy w' row:=⟨h.os,h.tape,h.output,h.size,h.block⟩
theorem IsSs.take1 {w:World} {F:Nat->Prop} {l:List Sec} {cs:List Value} {k:Nat} (h:IsSs w F (l.take k) cs) {s:Sec} (hk:l[k]?=some s) {gv sl:Value} (hv:zbe w F s gv sl):IsSs w F (l.take (k+1)) (cs++secC s gv sl):=by
 rw [List.take_add_one,hk];exact h.snoc hv
def zd0 (l:List Sec):Prop:=∀s∈l,zcR s.gs
theorem ze5 {s:Sec} {l:List Sec} {n:Int} (h:zbx s.gs n=none):zbl (s::l) n=zbl l n:=by
 show (match zbx s.gs n with|none=>zbl l n|some e=>if e.used=true/\e.gen=0 then e.at_ else -1)=_
 rw [h]
theorem zeD {s:Sec} {l:List Sec} {n:Int} {e:Ent} (h:zbx s.gs n=some e):zbl (s::l) n=if e.used=true/\e.gen=0 then e.at_ else -1:=by
 show (match zbx s.gs n with|none=>zbl l n|some e=>if e.used=true/\e.gen=0 then e.at_ else -1)=_
 rw [h]
theorem placeV_nil (n:Int):zbl [] n=-1:=rfl
def PlcEnd (w:World) (v:Int) (e:Ending) (w':World):Prop:=e=.returned (.int .i64 v)/\Below w.heap.size w w'
theorem xplace_any {w:World} {F:Nat->Prop} {l:List Sec} {v:Value} (h:IsL w F l v) (hs:zd0 l) (n:Int) (hn0:-2000000000000000000<=n) (hn1:n<=2000000000000000000) :
  Calls Tryz.prog 68 #[v,.int .i64 n] w (PlcEnd w (zbl l n)):=by
 obtain ⟨a,cap,rfl,g1,g2,g3⟩:=h.len
 have hl63:(l.length:Int)<=9223372036854775807:=by unfold maxLen at g2;omega
 have HL:=ya h
 obtain ⟨R,hR⟩:∃R,R=zbl l n:=⟨_,rfl⟩
 have HR:=ya hR
 have HSM:=ya hs
 rw [<-hR]
 clear h hR g2 g3 hs
 go_enter Tryz.func68,Tryz.ntmps68
 go_wp2_with fail
 go_loopw [11] (fun v wr=>∃k:Nat,v=.int .i64 k/\k<=l.length/\Hid (R=zbl (l.drop k) n)/\Hid (Below w.heap.size w wr)) (fun v _=>l.length-(intOf v).toNat)
 case atStart=>exact ⟨0,rfl,Nat.zero_le _,HR,ya (Below.refl _ _)⟩
 case round =>
  obtain ⟨k,rfl,hk,HQ,HB⟩:=hrel
  by_cases hlt:k<l.length
  ·have hcd:decide ((k:Int)<(l.length:Int))=true:=yb (by omega)
   have hcd2:decide (k<l.length)=true:=yb hlt
   have HL2:=ya (HL.out.below HB.out)
   have hL2:=HL2.out
   obtain ⟨-,-,-,b,off,rfl,-,-,hc⟩:=hL2.at (by omega)
   obtain ⟨s,hx⟩:∃s,l[k]?=some s:=⟨_,List.getElem?_eq_getElem hlt⟩
   obtain ⟨gv,sl,hsec,c0,c1,c2,c3,c4⟩:=hc k s hx
   obtain ⟨ga,gc,rfl,-,-,-⟩:=hsec.1.len
   obtain ⟨la,lc,rfl,-,-,-⟩:=hsec.2.len
   have HFD:=ya (fun (W:World) (hb:Below wr.heap.size wr W)=>zeC (hsec.below hb) n (HSM.out s (List.mem_of_getElem? hx)) hn0 hn1)
   have hdrop:l.drop k=s::l.drop (k+1):=by
    rw [List.drop_eq_getElem_cons hlt]
    rw [List.getElem?_eq_getElem hlt] at hx
    rw [Option.some.inj hx]
   have HD:=ya (HQ.out.trans (by rw [hdrop]))
   unfold secA at HFD
   clear hL2 hc hx hdrop HQ
   have HN:=ya (fun h=>HD.out.trans (ze5 (n:=n) h))
   have HY:=ya (fun e h=>HD.out.trans (zeD (n:=n) (e:=e) h))
   clear HD
   generalize zbx s.gs n=o at *
   have HPA:=ya (zag wr (.cells #[.slice ga s.gs.length gc,.int .i64 s.tr.kind,.int .i64 s.tr.n,.string (mkB s.tr.s),.slice la s.tr.l.length lc] 29))
   have HT1:=ya (zac (w:=wr) (b:=wr.heap.size) (.cells #[.slice ga s.gs.length gc,.int .i64 s.tr.kind,.int .i64 s.tr.n,.string (mkB s.tr.s),.slice la s.tr.l.length lc] 29) rfl)
   have HB1:=ya (HB.out.trans (HPA.out.mono HB.out.size))
   have HF1:=ya (HFD.out _ HPA.out)
   clear HFD HPA hsec HL2 HB
   generalize s.gs.length=gl at *
   generalize s.tr.kind=xk at *
   generalize s.tr.n=xn at *
   generalize mkB s.tr.s=xb at *
   generalize s.tr.l.length=xl at *
   go_upto_region 4 with fail
   generalize wr.heap.size=T at *
   generalize World.alloc _ _=W1 at *
   clear c0 c1 c2 c3 c4
   obtain ⟨⟨t0,t1,t2,t3,t4⟩,-⟩:=za1 HT1.out
   go_wp2_with fail
   refine HF1.out.mono ?_
   rintro e w2 ⟨rfl,hb2⟩
   cases o with
   | none =>
    have HE:=ya (HN.out rfl)
    have HB2:=yl HB1 hb2
    have HZ:=ya (zac (w:=w2) (b:=w2.heap.size) (.cells #[.int .i64 0,.int .i64 0,.bool false] 44) rfl)
    have HB3:=ya (HB2.out.alloc HB2.out.size (.cells #[.int .i64 0,.int .i64 0,.bool false] 44))
    simp only [zfe,entA]
    clear hb2 HB1 HB2 HF1 HT1 t0 t1 t2 t3 t4 HN HY
    go_upto_region 5 with fail
    generalize w2.heap.size=Z at *
    generalize World.alloc _ _=W3 at *
    obtain ⟨⟨z0,z1,z2⟩,-⟩:=zbu HZ.out
    go_wp2_with fail
    go_roundw
    case rel=>exact ⟨k+1,by go_num,hlt,HE,HB3⟩
    case measure=>simp [intOf];omega
   | some x =>
    have HE:=ya (HY.out x rfl)
    obtain ⟨xa,xg,xu⟩:=x
    have HB2:=yl HB1 hb2
    have HZ:=ya (zac (w:=w2) (b:=w2.heap.size) (.cells #[.int .i64 xa,.int .i64 xg,.bool xu] 44) rfl)
    have HB3:=ya (HB2.out.alloc HB2.out.size (.cells #[.int .i64 xa,.int .i64 xg,.bool xu] 44))
    simp only [zfe,entA] at HE |-
    clear hb2 HB1 HB2 HF1 HT1 t0 t1 t2 t3 t4 HN HY
    go_upto_region 5 with fail
    generalize w2.heap.size=Z at *
    generalize World.alloc _ _=W3 at *
    obtain ⟨⟨z0,z1,z2⟩,-⟩:=zbu HZ.out
    cases xu
    ·have HE2:=ya (HE.out.trans (yg (by simp)))
     go_wp2_with fail
     go_ret
     exact ⟨by rw [HE2.out];rfl,HB3.out⟩
    ·by_cases hg:xg=0
     ·subst hg
      have HE2:=ya (HE.out.trans (yf ⟨rfl,rfl⟩))
      go_wp2_with fail
      go_ret
      exact ⟨by rw [HE2.out];rfl,HB3.out⟩
     ·have e0:(xg==0)=false:=by rw [ye];exact hg
      have HE2:=ya (HE.out.trans (yg (fun h=>hg h.2)))
      clear hg
      go_wp2_with fail
      go_ret
      exact ⟨by rw [HE2.out];rfl,HB3.out⟩
  ·have hcd:decide ((k:Int)<(l.length:Int))=false:=yd (by omega)
   have hcd2:decide (k<l.length)=false:=yd hlt
   have HE:=ya (show R=-1 by rw [HQ.out,List.drop_eq_nil_of_le (by omega)];rfl)
   go_wp2_with fail
   go_ret
   exact ⟨by rw [HE.out];rfl,HB.out⟩
end Go.Proofs.YtfafdeemfeaedaaGreat
