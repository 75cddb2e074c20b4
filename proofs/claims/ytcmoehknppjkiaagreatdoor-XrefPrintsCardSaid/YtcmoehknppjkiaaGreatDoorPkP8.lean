/-
  Our texts Pad3 to Sr1, in one.
-/
import Derived.Test.YtcmoehknppjkiaaGreatDoorPkP7
import Derived.Deep.Cut
set_option maxRecDepth 8000
set_option maxHeartbeats 8000000
namespace Go.Proofs.YtcmoehknppjkiaaGreatDoor
open Go.RowKit
def zeD (n d:Int) (w:World) (e:Ending) (w':World):Prop:=e=.returned (.tuple #[.string (mkS (padV n d).1),.int .i64 (padV n d).2])/\∃q,w'=w.drewN q
theorem zbY {n d:Int} (h:n<0\/d<1\/20<d\/d<((decL n.toNat).length:Int)):padV n d=([],2):=by unfold padV;rw [yg h]
theorem padV_ok {N:Nat} {d:Int} (h1:1<=d) (h2:d<=20) (h3:((decL N).length:Int)<=d):padV N d=(padL N d.toNat,0):=by unfold padV;rw [yh (by simp;omega)];simp
theorem pad_any (n d:Int) (w:World) (hn:n<9223372036854775808) (hn0:-9223372036854775808<=n) (hd0:-9223372036854775808<=d) (hd1:d<=9223372036854775807) :
  Calls Tryz.prog 39 #[.int .i64 n,.int .i64 d] w (zeD n d w):=by
 obtain ⟨V,hV⟩:∃V,V=padV n d:=⟨_,rfl⟩
 unfold zeD
 rw [<-hV]
 have HV:=yb hV
 clear hV
 by_cases h1:n<0
 ·have HE:=yb (show V=([],2) by rw [HV.out];exact zbY (.inl h1))
  clear hn hn0 hd0 hd1
  go_enter Tryz.func39,Tryz.ntmps39
  go_wp2
  go_ret2
  exact ⟨by rw [HE.out];rfl,0,rfl⟩
 have h1d:decide (n<0)=false:=by simpa using h1
 by_cases h2:d<1
 ·have HE:=yb (show V=([],2) by rw [HV.out];exact zbY (.inr (.inl h2)))
  clear hn hn0 hd0 hd1 h1
  go_enter Tryz.func39,Tryz.ntmps39
  go_wp2
  go_ret2
  exact ⟨by rw [HE.out];rfl,0,rfl⟩
 have h2d:decide (d<1)=false:=by simpa using h2
 by_cases h3:20<d
 ·have HE:=yb (show V=([],2) by rw [HV.out];exact zbY (.inr (.inr (.inl h3))))
  clear hn hn0 hd0 hd1 h1 h2
  go_enter Tryz.func39,Tryz.ntmps39
  go_wp2
  go_ret2
  exact ⟨by rw [HE.out];rfl,0,rfl⟩
 have h3d:decide (20<d)=false:=by simpa using h3
 obtain ⟨N,rfl⟩:=Int.eq_ofNat_of_zero_le (show 0<=n by omega)
 have h2':1<=d:=by omega
 have h3':d<=20:=by omega
 have HT:=yb (fun W=>zeI N (by omega) W)
 unfold zfF at HT
 have hsz:(mkS (decL N)).size=(decL N).length:=zbb _
 have hl1:=(zbA N).2.2
 have hconv:IntKind.u64.wrap (N:Int)=(N:Int):=IntWalk.u64_in _ (by omega)
 clear hn hn0 hd0 hd1 h1 h2 h3
 by_cases h4:d<((decL N).length:Int)
 ·have HE:=yb (show V=([],2) by rw [HV.out];exact zbY (.inr (.inr (.inr (by simpa using h4)))))
  generalize (decL N).length=len at *
  generalize mkS (decL N)=T at *
  go_enter Tryz.func39,Tryz.ntmps39
  go_wp2_with (go_at_call 71;refine (HT.out _).mono ?_;rintro e w' ⟨rfl,q,rfl⟩)
  go_ret2
  exact ⟨by rw [HE.out];rfl,q,rfl⟩
 ·have h4d:decide (d<((decL N).length:Int))=false:=by simpa using h4
  obtain ⟨k,hk⟩:=Int.eq_ofNat_of_zero_le (show 0<=d-((decL N).length:Int) by omega)
  have HR:=yb (fun W=>repeat_any k (by omega) W)
  have hzz:(mkS (List.replicate k 48)).size=k:=by rw [zbb,List.length_replicate]
  have hk19:k<=19:=by omega
  have hl20:(decL N).length<=20:=by omega
  have HE:=yb (show V=(bl (mkS (List.replicate k 48)++mkS (decL N)),0) by
   rw [HV.out,padV_ok h2' h3' (by omega),zdA,zbZ]
   unfold padL
   rw [show d.toNat-(decL N).length=k from by omega])
  clear h4
  generalize (decL N).length=len at *
  generalize mkS (decL N)=T at *
  generalize mkS (List.replicate k 48)=Z at *
  go_enter Tryz.func39,Tryz.ntmps39
  go_wp2_with (first
   |(go_at_call 71;refine (HT.out _).mono ?_;rintro e w' ⟨rfl,q,rfl⟩)
   |(go_at_call 72;refine (HR.out _).mono ?_;rintro e w' ⟨rfl,rfl⟩))
  go_ret2
  exact ⟨by rw [HE.out];rfl,q,rfl⟩
theorem rpad_any (n d:Int) (w:World) (hn:n<9223372036854775808) (hn0:-9223372036854775808<=n) (hd0:-9223372036854775808<=d) (hd1:d<=9223372036854775807) :
  Calls Tryz.prog 40 #[.int .i64 n,.int .i64 d] w (zeD n d w):=by
 obtain ⟨V,hV⟩:∃V,V=padV n d:=⟨_,rfl⟩
 unfold zeD
 rw [<-hV]
 have HV:=yb hV
 clear hV
 by_cases h1:n<0
 ·have HE:=yb (show V=([],2) by rw [HV.out];exact zbY (.inl h1))
  clear hn hn0 hd0 hd1
  go_enter Tryz.func40,Tryz.ntmps40
  go_wp2
  go_ret2
  exact ⟨by rw [HE.out];rfl,0,rfl⟩
 have h1d:decide (n<0)=false:=by simpa using h1
 by_cases h2:d<1
 ·have HE:=yb (show V=([],2) by rw [HV.out];exact zbY (.inr (.inl h2)))
  clear hn hn0 hd0 hd1 h1
  go_enter Tryz.func40,Tryz.ntmps40
  go_wp2
  go_ret2
  exact ⟨by rw [HE.out];rfl,0,rfl⟩
 have h2d:decide (d<1)=false:=by simpa using h2
 by_cases h3:20<d
 ·have HE:=yb (show V=([],2) by rw [HV.out];exact zbY (.inr (.inr (.inl h3))))
  clear hn hn0 hd0 hd1 h1 h2
  go_enter Tryz.func40,Tryz.ntmps40
  go_wp2
  go_ret2
  exact ⟨by rw [HE.out];rfl,0,rfl⟩
 have h3d:decide (20<d)=false:=by simpa using h3
 obtain ⟨N,rfl⟩:=Int.eq_ofNat_of_zero_le (show 0<=n by omega)
 have h2':1<=d:=by omega
 have h3':d<=20:=by omega
 have HT:=yb (fun W=>zcA N d W (by omega) h2' h3')
 have hsz:(mkS (padL N d.toNat)).size=(padL N d.toNat).length:=zbb _
 have hl1:=(zbA N).2.2
 clear hn hn0 hd0 hd1 h1 h2 h3
 by_cases h4:d<((decL N).length:Int)
 ·have HE:=yb (show V=([],2) by rw [HV.out];exact zbY (.inr (.inr (.inr (by simpa using h4)))))
  have h5:d<((padL N d.toNat).length:Int):=by rw [zch (by omega)];exact h4
  generalize (padL N d.toNat).length=len at *
  generalize mkS (padL N d.toNat)=T at *
  clear h4
  go_enter Tryz.func40,Tryz.ntmps40
  go_wp2_with (go_at_call 73;refine (HT.out _).mono ?_;rintro e w' ⟨rfl,rfl⟩)
  go_ret2
  exact ⟨by rw [HE.out];rfl,0,rfl⟩
 ·have h5:decide (d<((padL N d.toNat).length:Int))=false:=by rw [zbH (by omega)];simp;omega
  have HE:=yb (show V=(bl (mkS (padL N d.toNat)),0) by rw [HV.out,padV_ok h2' h3' (by omega),zbZ])
  generalize (padL N d.toNat).length=len at *
  generalize mkS (padL N d.toNat)=T at *
  clear h4
  go_enter Tryz.func40,Tryz.ntmps40
  go_wp2_with (go_at_call 73;refine (HT.out _).mono ?_;rintro e w' ⟨rfl,rfl⟩)
  go_ret2
  exact ⟨by rw [HE.out];rfl,0,rfl⟩
theorem zdD (k n:Int) (s:ByteArray) (a:Option Addr) (m c:Nat) (w:World) (hm:(m:Int)<=9223372036854775807) :
  Calls Tryz.prog 79 #[.agg #[.int .i64 k,.int .i64 n,.string s,.slice a m c]] w fun e w'=>e=.returned (.int .i64 (zaD k n (za7 s m)))/\Below w.heap.size w w':=by
 obtain ⟨V,hV⟩:∃V,V=zaD k n (za7 s m):=⟨_,rfl⟩
 rw [<-hV]
 unfold zaD at hV
 have HB:=yb (zae w (.cells #[.int .i64 k,.int .i64 n,.string s,.slice a m c] 25))
 by_cases h3:s.toList=[]
 ·have h3e:s.toList.isEmpty=true:=by rw [h3];rfl
  by_cases h4:m=0
  ·have hb:za7 s m=true:=by unfold za7;rw [<-toL,h3,h4];rfl
   subst h4
   rw [hb] at hV
   by_cases hk2:k=2
   ·subst hk2
    by_cases h5:-2147483647<=n
    ·by_cases h6:n<=2147483647
     ·have HV:=yb (show V=0 by rw [hV,yg];exact ⟨rfl,.inl ⟨rfl,h5,h6⟩⟩)
      clear hV
      go_enter Tryz.func79,Tryz.ntmps79
      go_wp2
      go_ret
      exact ⟨zaI HV.out.symm,HB.out⟩
     ·have HV:=yb (show V=2 by rw [hV,yh];rintro ⟨-,h|h⟩<;>omega)
      have h6d:decide (n<=2147483647)=false:=by simpa using h6
      clear hV h6
      go_enter Tryz.func79,Tryz.ntmps79
      go_wp2
      go_ret
      exact ⟨zaI HV.out.symm,HB.out⟩
    ·have HV:=yb (show V=2 by rw [hV,yh];rintro ⟨-,h|h⟩<;>omega)
     have h5d:decide (-2147483647<=n)=false:=by simpa using h5
     clear hV h5
     go_enter Tryz.func79,Tryz.ntmps79
     go_wp2
     go_ret
     exact ⟨zaI HV.out.symm,HB.out⟩
   ·have hk2d:(k==2)=false:=by rw [yf];exact hk2
    by_cases hk3:k=3
    ·subst hk3
     by_cases h5:-2147483647000000<=n
     ·by_cases h6:n<=2147483647000000
      ·have HV:=yb (show V=0 by rw [hV,yg];exact ⟨rfl,.inr ⟨rfl,h5,h6⟩⟩)
       clear hV hk2d
       go_enter Tryz.func79,Tryz.ntmps79
       go_wp2
       go_ret
       exact ⟨zaI HV.out.symm,HB.out⟩
      ·have HV:=yb (show V=2 by rw [hV,yh];rintro ⟨-,h|h⟩<;>omega)
       have h6d:decide (n<=2147483647000000)=false:=by simpa using h6
       clear hV h6 hk2d
       go_enter Tryz.func79,Tryz.ntmps79
       go_wp2
       go_ret
       exact ⟨zaI HV.out.symm,HB.out⟩
     ·have HV:=yb (show V=2 by rw [hV,yh];rintro ⟨-,h|h⟩<;>omega)
      have h5d:decide (-2147483647000000<=n)=false:=by simpa using h5
      clear hV h5 hk2d
      go_enter Tryz.func79,Tryz.ntmps79
      go_wp2
      go_ret
      exact ⟨zaI HV.out.symm,HB.out⟩
    ·have hk3d:(k==3)=false:=by rw [yf];exact hk3
     have HV:=yb (show V=2 by rw [hV,yh];rintro ⟨-,h|h⟩<;>omega)
     clear hV hk2 hk3
     go_enter Tryz.func79,Tryz.ntmps79
     go_wp2
     go_ret
     exact ⟨zaI HV.out.symm,HB.out⟩
  ·have HV:=yb (show V=2 by rw [hV,yh];rintro ⟨h,-⟩;unfold za7 at h;simp at h;exact h4 h.2)
   have h4d:((m:Int)==0)=false:=by rw [yf];omega
   have h4e:((m:Int) != 0)=true:=by rw [bne_iff_ne];omega
   clear hV h4
   go_enter Tryz.func79,Tryz.ntmps79
   go_wp2
   go_ret
   exact ⟨zaI HV.out.symm,HB.out⟩
 ·have HV:=yb (show V=2 by rw [hV,yh];rintro ⟨h,-⟩;unfold za7 at h;rw [<-toL] at h;simp at h;exact h3 h.1)
  have h3e:s.toList.isEmpty=false:=by simpa using h3
  clear hV
  go_enter Tryz.func79,Tryz.ntmps79
  go_wp2
  go_ret
  exact ⟨zaI HV.out.symm,HB.out⟩
def zbI (k n:Int) (bare:Bool) (w:World) (e:Ending) (w':World):Prop:=e=.returned (.tuple #[.string (mkS (zaV k n bare).1),.int .i64 (zaV k n bare).2])/\Below w.heap.size w w'
theorem zfe {k n:Int} {b:Bool} (h:zaD k n b=2):zaV k n b=([],2):=by unfold zaV;rw [yh (by omega)]
theorem zet {k n:Int} {b:Bool} (h:zaD k n b=0):zaV k n b=(zbF n++absL k n.natAbs,0):=by unfold zaV;rw [yg h]
theorem checkV_is (k n:Int) (b:Bool):zaD k n b=0\/zaD k n b=2:=by unfold zaD;split<;>simp
theorem padV6 (A:Nat):padV ((A % 1000000:Nat):Int) 6=(padL (A % 1000000) 6,0):=by
 have h:=zaM 5 (A % 1000000) (by omega)
 rw [padV_ok (by omega) (by omega) (by omega)];rfl
theorem pad6_len (A:Nat):(padL (A % 1000000) 6).length=6:=zbH (zaM 5 (A % 1000000) (by omega))
theorem print_any (k n:Int) (s:ByteArray) (a:Option Addr) (m c:Nat) (w:World) (hm:(m:Int)<=9223372036854775807) :
  Calls Tryz.prog 93 #[.agg #[.int .i64 k,.int .i64 n,.string s,.slice a m c]] w (zbI k n (za7 s m) w):=by
 obtain ⟨V,hV⟩:∃V,V=zaV k n (za7 s m):=⟨_,rfl⟩
 unfold zbI
 rw [<-hV]
 have HV:=yb hV
 have HC:=yb (fun W=>zcj k n s a m c W hm)
 have HBX:=yb (show (w.alloc (.cells #[.int .i64 k,.int .i64 n,.string s,.slice a m c] 25)).heap[w.heap.size]?=some (.cells #[.int .i64 k,.int .i64 n,.string s,.slice a m c] 25 (0,0)) from zab _ rfl)
 have HB0:=yb (zae w (.cells #[.int .i64 k,.int .i64 n,.string s,.slice a m c] 25))
 clear hV hm
 rcases checkV_is k n (za7 s m) with hc|hc
 case inr =>
  have HE:=yb (show V=([],2) by rw [HV.out];exact zfe hc)
  rw [hc] at HC
  clear hc
  go_enter Tryz.func93,Tryz.ntmps93
  go_wp2_with (go_at_call 120;refine (HC.out _).mono ?_;rintro e w' ⟨rfl,hb⟩)
  go_ret2
  exact ⟨by rw [HE.out];rfl,HB0.out.trans (hb.mono HB0.out.size)⟩
 have HE:=yb (show V=(zbF n++absL k n.natAbs,0) by rw [HV.out];exact zet hc)
 obtain ⟨-,hkn⟩:=zcy hc
 rw [hc] at HC
 clear hc
 obtain ⟨A,hA⟩:∃A:Nat,A=n.natAbs:=⟨_,rfl⟩
 rw [<-hA] at HE
 have hAb:A<=2147483647000000:=by omega
 have HT:=yb (fun W=>zeI A (by omega) W)
 have HT2:=yb (fun W=>zeI (A / 1000000) (by omega) W)
 unfold zfF at HT HT2
 have hconv:IntKind.u64.wrap (A:Int)=(A:Int):=IntWalk.u64_in _ (by omega)
 have hconv2:IntKind.u64.wrap ((A / 1000000:Nat):Int)=((A / 1000000:Nat):Int):=IntWalk.u64_in _ (by omega)
 have hTs:(mkS (decL A)).size<=20:=by rw [zbb];exact zaM 19 A (by omega)
 have hTs2:(mkS (decL (A / 1000000))).size<=20:=by rw [zbb];exact zaM 19 _ (by omega)
 rcases hkn with ⟨rfl,hn1,hn2⟩|⟨rfl,hn1,hn2⟩
 ·have HE2:=yb (show V=(zbF n++decL A,0) by rw [HE.out];rfl)
  by_cases hn:n<0
  ·have hAn:-n=(A:Int):=by omega
   have HR:=yb (show (⟨#[45]⟩:ByteArray)++mkS (decL A)=mkS (zbF n++decL A) by rw [<-zdA];unfold zbF;rw [yg hn];rfl)
   clear hA
   generalize mkS (decL A)=T at *
   go_enter Tryz.func93,Tryz.ntmps93
   go_wp2_with fail
   refine (HC.out _).mono ?_
   rintro e w1 ⟨rfl,hb1⟩
   have HK1:=yb (zaa hb1 HBX.out)
   have HB1:=yo HB0 hb1
   obtain ⟨⟨k0,k1,k2,k3⟩,-⟩:=zah HK1.out
   clear hb1
   go_wp2
   go_quiet (fail)
   go_wp2_with (go_at_call 71;refine (HT.out _).mono ?_;rintro e w' ⟨rfl,q,rfl⟩)
   go_ret2
   exact ⟨zbx (by rw [HE2.out];exact HR.out) (by rw [HE2.out]),by simpa using zad (zad HB1.out nq) q⟩
  ·obtain rfl:n=(A:Int):=by omega
   have HR:=yb (show (⟨#[]⟩:ByteArray)++mkS (decL A)=mkS (zbF (A:Int)++decL A) by rw [<-zdA];unfold zbF;rw [yh hn];rfl)
   clear hA hn
   generalize mkS (decL A)=T at *
   go_enter Tryz.func93,Tryz.ntmps93
   go_wp2_with fail
   refine (HC.out _).mono ?_
   rintro e w1 ⟨rfl,hb1⟩
   have HK1:=yb (zaa hb1 HBX.out)
   have HB1:=yo HB0 hb1
   obtain ⟨⟨k0,k1,k2,k3⟩,-⟩:=zah HK1.out
   clear hb1
   go_wp2
   go_quiet (fail)
   go_wp2_with (go_at_call 71;refine (HT.out _).mono ?_;rintro e w' ⟨rfl,q,rfl⟩)
   go_ret2
   exact ⟨zbx (by rw [HE2.out];exact HR.out) (by rw [HE2.out]),by simpa using zad (zad HB1.out nq) q⟩
 ·have HE2:=yb (show V=(zbF n++(decL (A / 1000000)++46::zbi (padL (A % 1000000) 6)),0) by rw [HE.out];rfl)
  have hp:=fun W=>pad_any ((A % 1000000:Nat):Int) 6 W (by omega) (by omega) (by omega) (by omega)
  unfold zeD at hp
  rw [padV6] at hp
  have HP:=yb hp
  have hFs:(mkS (padL (A % 1000000) 6)).size=6:=by rw [zbb];exact pad6_len A
  have HTR:=yb (fun W=>zfV ((mkS (padL (A % 1000000) 6)).extract 1 6) W (by rw [ByteArray.size_extract];omega))
  have HTF:=yb (show (mkS (padL (A % 1000000) 6)).extract 0 1++mkS (zbN (bl ((mkS (padL (A % 1000000) 6)).extract 1 6)))=mkS (zbi (padL (A % 1000000) 6)) by
   apply zcm
   rw [zdp,zbZ,zbZ,bl_to]
   have h6:=bl_from (mkS (padL (A % 1000000) 6)) 1
   rw [hFs] at h6
   rw [h6,zbZ];rfl)
  have hFe:((mkS (padL (A % 1000000) 6)).extract 0 1++mkS (zbN (bl ((mkS (padL (A % 1000000) 6)).extract 1 6)))).size<=6:=by
   rw [HTF.out,zbb];exact (mil_trimF (A % 1000000) (by omega)).2.2.2
  have hF1:(mkS (zbN (bl ((mkS (padL (A % 1000000) 6)).extract 1 6)))).size<=6:=by rw [zc1] at hFe;omega
  have hF0:((mkS (padL (A % 1000000) 6)).extract 0 1).size<=6:=by rw [ByteArray.size_extract];omega
  clear hp
  by_cases hn:n<0
  ·have hAn:-n=(A:Int):=by omega
   have HR:=yb (show (⟨#[45]⟩:ByteArray)++mkS (decL (A / 1000000))++⟨#[46]⟩++((mkS (padL (A % 1000000) 6)).extract 0 1++mkS (zbN (bl ((mkS (padL (A % 1000000) 6)).extract 1 6))))=mkS (zbF n++(decL (A / 1000000)++46::zbi (padL (A % 1000000) 6))) by
    rw [HTF.out]
    unfold zbF;rw [yg hn]
    apply zcm
    simp only [zdp,zbZ]
    simp [bl])
   clear hA HTF
   generalize mkS (decL (A / 1000000))=T at *
   generalize mkS (padL (A % 1000000) 6)=F at *
   go_enter Tryz.func93,Tryz.ntmps93
   go_wp2_with fail
   refine (HC.out _).mono ?_
   rintro e w1 ⟨rfl,hb1⟩
   have HK1:=yb (zaa hb1 HBX.out)
   have HB1:=yo HB0 hb1
   obtain ⟨⟨k0,k1,k2,k3⟩,-⟩:=zah HK1.out
   clear hb1
   go_wp2
   go_quiet (fail)
   go_wp2_with fail
   refine (HP.out _).mono ?_
   rintro e w2 ⟨rfl,q,rfl⟩
   go_wp2_with fail
   go_quiet ((go_at_call 129;exact (HTR.out _).mono fun _ _ ⟨he,hm⟩=>⟨he,_,hm.symm⟩))
   go_wp2_with (go_at_call 71;refine (HT2.out _).mono ?_;rintro e w' ⟨rfl,q2,rfl⟩)
   go_ret2
   exact ⟨zbx (by rw [HE2.out];exact HR.out) (by rw [HE2.out]),by simpa using zad HB1.out _⟩
  ·obtain rfl:n=(A:Int):=by omega
   have HR:=yb (show (⟨#[]⟩:ByteArray)++mkS (decL (A / 1000000))++⟨#[46]⟩++((mkS (padL (A % 1000000) 6)).extract 0 1++mkS (zbN (bl ((mkS (padL (A % 1000000) 6)).extract 1 6))))=mkS (zbF (A:Int)++(decL (A / 1000000)++46::zbi (padL (A % 1000000) 6))) by
    rw [HTF.out]
    unfold zbF;rw [yh hn]
    apply zcm
    simp only [zdp,zbZ]
    simp [bl])
   clear hA HTF hn
   generalize mkS (decL (A / 1000000))=T at *
   generalize mkS (padL (A % 1000000) 6)=F at *
   go_enter Tryz.func93,Tryz.ntmps93
   go_wp2_with fail
   refine (HC.out _).mono ?_
   rintro e w1 ⟨rfl,hb1⟩
   have HK1:=yb (zaa hb1 HBX.out)
   have HB1:=yo HB0 hb1
   obtain ⟨⟨k0,k1,k2,k3⟩,-⟩:=zah HK1.out
   clear hb1
   go_wp2
   go_quiet (fail)
   go_wp2_with fail
   refine (HP.out _).mono ?_
   rintro e w2 ⟨rfl,q,rfl⟩
   go_wp2_with fail
   go_quiet ((go_at_call 129;exact (HTR.out _).mono fun _ _ ⟨he,hm⟩=>⟨he,_,hm.symm⟩))
   go_wp2_with (go_at_call 71;refine (HT2.out _).mono ?_;rintro e w' ⟨rfl,q2,rfl⟩)
   go_ret2
   exact ⟨zbx (by rw [HE2.out];exact HR.out) (by rw [HE2.out]),by simpa using zad HB1.out _⟩
theorem trimF_one (a:UInt8):zbi [a]=[a]:=by simp [zbi,zbN]
theorem trimF_snoc (a:UInt8) (g:List UInt8):zbi (a::(g++[48]))=zbi (a::g):=by unfold zbi;simp [zdw]
theorem trimF_stop (a c:UInt8) (g:List UInt8) (h:c≠48):zbi (a::(g++[c]))=a::(g++[c]):=by unfold zbi;simp [zdO _ _ h]
theorem zfk (t:List UInt8) (ht:1<=t.length):zbi (t++[48])=zbi t:=by
 cases t with
 | nil=>simp at ht
 | cons a g=>exact trimF_snoc a g
theorem zfq (t:List UInt8) (c:UInt8) (ht:1<=t.length) (hc:c≠48):zbi (t++[c])=t++[c]:=by
 cases t with
 | nil=>simp at ht
 | cons a g=>exact trimF_stop a c g hc
theorem zdU (k n:Int) (s:ByteArray) (a:Option Addr) (m c:Nat) (w:World) (hm:(m:Int)<=9223372036854775807) :
  Calls Tryz.prog 48 #[.agg #[.int .i64 k,.int .i64 n,.string s,.slice a m c]] w (zbI k n (za7 s m) w):=by
 obtain ⟨V,hV⟩:∃V,V=zaV k n (za7 s m):=⟨_,rfl⟩
 unfold zbI
 rw [<-hV]
 have HV:=yb hV
 have HC:=yb (fun W=>zdD k n s a m c W hm)
 have HBX:=yb (show (w.alloc (.cells #[.int .i64 k,.int .i64 n,.string s,.slice a m c] 25)).heap[w.heap.size]?=some (.cells #[.int .i64 k,.int .i64 n,.string s,.slice a m c] 25 (0,0)) from zab _ rfl)
 have HB0:=yb (zae w (.cells #[.int .i64 k,.int .i64 n,.string s,.slice a m c] 25))
 clear hV hm
 rcases checkV_is k n (za7 s m) with hc|hc
 case inr =>
  have HE:=yb (show V=([],2) by rw [HV.out];exact zfe hc)
  rw [hc] at HC
  clear hc
  go_enter Tryz.func48,Tryz.ntmps48
  go_wp2_with (go_at_call 79;refine (HC.out _).mono ?_;rintro e w' ⟨rfl,hb⟩)
  go_ret2
  exact ⟨by rw [HE.out];rfl,HB0.out.trans (hb.mono HB0.out.size)⟩
 have HE:=yb (show V=(zbF n++absL k n.natAbs,0) by rw [HV.out];exact zet hc)
 obtain ⟨-,hkn⟩:=zcy hc
 rw [hc] at HC
 clear hc
 obtain ⟨A,hA⟩:∃A:Nat,A=n.natAbs:=⟨_,rfl⟩
 rw [<-hA] at HE
 have hAb:A<=2147483647000000:=by omega
 have hT:=fun W=>zcA A 1 W (by omega) (by omega) (by omega)
 have hT2:=fun W=>zcA (A / 1000000) 1 W (by omega) (by omega) (by omega)
 have hT3:=fun W=>zcA (A % 1000000) 6 W (by omega) (by omega) (by omega)
 rw [show padL A (1:Int).toNat=decL A from zch (zbA A).2.2] at hT
 rw [show padL (A / 1000000) (1:Int).toNat=decL (A / 1000000) from zch (zbA _).2.2] at hT2
 rw [show (6:Int).toNat=6 from rfl] at hT3
 have HT:=yb hT
 have HT2:=yb hT2
 have HT3:=yb hT3
 clear hT hT2 hT3
 have hTs:(mkS (decL A)).size<=20:=by rw [zbb];exact zaM 19 A (by omega)
 have hTs2:(mkS (decL (A / 1000000))).size<=20:=by rw [zbb];exact zaM 19 _ (by omega)
 obtain ⟨sg,hsg⟩:∃sg:ByteArray,sg=if n<0 then ⟨#[45]⟩ else ⟨#[]⟩:=⟨_,rfl⟩
 have HSG:=yb (show bl sg=zbF n by rw [hsg];unfold zbF;split<;>rfl)
 rcases hkn with ⟨rfl,hn1,hn2⟩|⟨rfl,hn1,hn2⟩
 ·have HE2:=yb (show V=(zbF n++decL A,0) by rw [HE.out];rfl)
  have HR:=yb (show sg++mkS (decL A)=mkS (zbF n++decL A) by apply zcm;rw [zdp,zbZ,zbZ,HSG.out])
  by_cases hn:n<0
  ·have hAn:-n=(A:Int):=by omega
   rw [yg hn] at hsg
   subst hsg
   clear hA
   generalize mkS (decL A)=T at *
   go_enter Tryz.func48,Tryz.ntmps48
   go_wp2_with fail
   refine (HC.out _).mono ?_
   rintro e w1 ⟨rfl,hb1⟩
   have HK1:=yb (zaa hb1 HBX.out)
   have HB1:=yo HB0 hb1
   obtain ⟨⟨k0,k1,k2,k3⟩,-⟩:=zah HK1.out
   clear hb1
   go_wp2_with (go_at_call 73;refine (HT.out _).mono ?_;rintro e w' ⟨rfl,rfl⟩)
   go_ret2
   exact ⟨zbx (by rw [HE2.out];exact HR.out) (by rw [HE2.out]),HB1.out⟩
  ·obtain rfl:n=(A:Int):=by omega
   rw [yh hn] at hsg
   subst hsg
   clear hA hn
   generalize mkS (decL A)=T at *
   go_enter Tryz.func48,Tryz.ntmps48
   go_wp2_with fail
   refine (HC.out _).mono ?_
   rintro e w1 ⟨rfl,hb1⟩
   have HK1:=yb (zaa hb1 HBX.out)
   have HB1:=yo HB0 hb1
   obtain ⟨⟨k0,k1,k2,k3⟩,-⟩:=zah HK1.out
   clear hb1
   go_wp2_with (go_at_call 73;refine (HT.out _).mono ?_;rintro e w' ⟨rfl,rfl⟩)
   go_ret2
   exact ⟨zbx (by rw [HE2.out];exact HR.out) (by rw [HE2.out]),HB1.out⟩
 ·have HE2:=yb (show V=(zbF n++(decL (A / 1000000)++46::zbi (padL (A % 1000000) 6)),0) by rw [HE.out];rfl)
  have hFs:(mkS (padL (A % 1000000) 6)).size=6:=by rw [zbb];exact pad6_len A
  have HR:=yb (show ∀F:ByteArray,bl F=zbi (padL (A % 1000000) 6)->sg++mkS (decL (A / 1000000))++⟨#[46]⟩++F=mkS (zbF n++(decL (A / 1000000)++46::zbi (padL (A % 1000000) 6))) from fun F hF=>by
    apply zcm
    simp only [zdp,zbZ,HSG.out,hF]
    simp [bl])
  obtain ⟨f,hf⟩:∃f,f=zbi (padL (A % 1000000) 6):=⟨_,rfl⟩
  have HF:=yb (show f=zbi (bl (mkS (padL (A % 1000000) 6))) from hf)
  rw [<-hf] at HR HE2
  clear hf
  by_cases hn:n<0
  ·have hAn:-n=(A:Int):=by omega
   rw [yg hn] at hsg
   subst hsg
   clear hA
   generalize mkS (decL (A / 1000000))=T at *
   generalize mkS (padL (A % 1000000) 6)=F at *
   go_enter Tryz.func48,Tryz.ntmps48
   go_wp2_with fail
   refine (HC.out _).mono ?_
   rintro e w1 ⟨rfl,hb1⟩
   have HK1:=yb (zaa hb1 HBX.out)
   have HB1:=yo HB0 hb1
   obtain ⟨⟨k0,k1,k2,k3⟩,-⟩:=zah HK1.out
   clear hb1
   go_wp2_with fail
   refine (HT3.out _).mono ?_
   rintro e w2 ⟨rfl,rfl⟩
   go_wp2
   go_loop [6,7] (fun v i=>∃(j:Nat) (G:ByteArray),j<=5/\v=.string G/\i=.int .i64 j/\G.size=6-j/\Hid (f=zbi (bl G))) (fun _ i=>5-(intOf i).toNat)
   case atStart=>exact ⟨0,F,by omega,rfl,rfl,hFs,HF⟩
   case round =>
    obtain ⟨j,G,hj,rfl,rfl,hGs,HG⟩:=hrel
    by_cases hj5:j<5
    ·have hj5d:decide ((j:Int)<5)=true:=by simp;omega
     obtain ⟨q,hq⟩:∃q,6-j=q+1:=⟨5-j,by omega⟩
     have hq1:1<=q:=by omega
     have hq5:q<=5:=by omega
     have hgb:=PlainAid.get_bt G
     rw [hq] at hGs
     have hlt:q<G.size:=by omega
     have hx:(G[q].toNat:Int)=PlainAid.bt G q:=hgb q hlt
     have hl:1<=((bl G).take q).length:=by rw [List.length_take,zaR];omega
     have hsp:=zcQ G q hlt
     rw [List.take_of_length_le (by rw [zaR];omega)] at hsp
     have HL:=yb hl
     have HSP:=yb hsp
     have HX:=yb hx
     have HQ:=yb hq
     clear hl hsp hx hq
     by_cases h48:PlainAid.bt G q=48
     ·have h48d:(PlainAid.bt G q==48)=true:=by rw [beq_iff_eq];exact h48
      have HN:=yb (show f=zbi (bl (G.extract 0 q)) by
       have hc:G[q]=48:=UInt8.toNat_inj.1 (Int.ofNat_inj.1 (HX.out.trans h48))
       have h1:=HSP.out
       rw [hc] at h1
       have h2:=zfk _ HL.out
       rw [<-h1] at h2
       rw [HG.out,bl_to,h2])
      clear h48
      go_wp2
      go_round
      case rel=>exact ⟨j+1,_,by omega,rfl,by go_num,by have:=HQ.out;rw [ByteArray.size_extract];omega,HN⟩
      case measure=>simp [intOf];omega
     ·have h48d:(PlainAid.bt G q==48)=false:=by rw [yf];exact h48
      have HN:=yb (show bl G=f by
       have hc:G[q]≠48:=fun e=>h48 (by rw [<-HX.out,e];rfl)
       have h2:=zfq _ _ HL.out hc
       rw [<-HSP.out] at h2
       rw [HG.out,h2])
      have HRF:=yb (HR.out G HN.out)
      clear h48
      go_wp2_with (go_at_call 73;refine (HT2.out _).mono ?_;rintro e w' ⟨rfl,rfl⟩)
      go_ret2
      exact ⟨zbx (by rw [HE2.out];exact HRF.out) (by rw [HE2.out]),HB1.out⟩
    ·obtain rfl:j=5:=by omega
     have HN:=yb (show bl G=f by
      rw [HG.out]
      have hl1:(bl G).length=1:=by rw [zaR,hGs]
      obtain ⟨a,ha⟩:=List.length_eq_one_iff.1 hl1
      rw [ha,trimF_one])
     have HRF:=yb (HR.out G HN.out)
     go_wp2_with (go_at_call 73;refine (HT2.out _).mono ?_;rintro e w' ⟨rfl,rfl⟩)
     go_ret2
     exact ⟨zbx (by rw [HE2.out];exact HRF.out) (by rw [HE2.out]),HB1.out⟩
  ·obtain rfl:n=(A:Int):=by omega
   rw [yh hn] at hsg
   subst hsg
   clear hA hn
   generalize mkS (decL (A / 1000000))=T at *
   generalize mkS (padL (A % 1000000) 6)=F at *
   go_enter Tryz.func48,Tryz.ntmps48
   go_wp2_with fail
   refine (HC.out _).mono ?_
   rintro e w1 ⟨rfl,hb1⟩
   have HK1:=yb (zaa hb1 HBX.out)
   have HB1:=yo HB0 hb1
   obtain ⟨⟨k0,k1,k2,k3⟩,-⟩:=zah HK1.out
   clear hb1
   go_wp2_with fail
   refine (HT3.out _).mono ?_
   rintro e w2 ⟨rfl,rfl⟩
   go_wp2
   go_loop [6,7] (fun v i=>∃(j:Nat) (G:ByteArray),j<=5/\v=.string G/\i=.int .i64 j/\G.size=6-j/\Hid (f=zbi (bl G))) (fun _ i=>5-(intOf i).toNat)
   case atStart=>exact ⟨0,F,by omega,rfl,rfl,hFs,HF⟩
   case round =>
    obtain ⟨j,G,hj,rfl,rfl,hGs,HG⟩:=hrel
    by_cases hj5:j<5
    ·have hj5d:decide ((j:Int)<5)=true:=by simp;omega
     obtain ⟨q,hq⟩:∃q,6-j=q+1:=⟨5-j,by omega⟩
     have hq1:1<=q:=by omega
     have hq5:q<=5:=by omega
     have hgb:=PlainAid.get_bt G
     rw [hq] at hGs
     have hlt:q<G.size:=by omega
     have hx:(G[q].toNat:Int)=PlainAid.bt G q:=hgb q hlt
     have hl:1<=((bl G).take q).length:=by rw [List.length_take,zaR];omega
     have hsp:=zcQ G q hlt
     rw [List.take_of_length_le (by rw [zaR];omega)] at hsp
     have HL:=yb hl
     have HSP:=yb hsp
     have HX:=yb hx
     have HQ:=yb hq
     clear hl hsp hx hq
     by_cases h48:PlainAid.bt G q=48
     ·have h48d:(PlainAid.bt G q==48)=true:=by rw [beq_iff_eq];exact h48
      have HN:=yb (show f=zbi (bl (G.extract 0 q)) by
       have hc:G[q]=48:=UInt8.toNat_inj.1 (Int.ofNat_inj.1 (HX.out.trans h48))
       have h1:=HSP.out
       rw [hc] at h1
       have h2:=zfk _ HL.out
       rw [<-h1] at h2
       rw [HG.out,bl_to,h2])
      clear h48
      go_wp2
      go_round
      case rel=>exact ⟨j+1,_,by omega,rfl,by go_num,by have:=HQ.out;rw [ByteArray.size_extract];omega,HN⟩
      case measure=>simp [intOf];omega
     ·have h48d:(PlainAid.bt G q==48)=false:=by rw [yf];exact h48
      have HN:=yb (show bl G=f by
       have hc:G[q]≠48:=fun e=>h48 (by rw [<-HX.out,e];rfl)
       have h2:=zfq _ _ HL.out hc
       rw [<-HSP.out] at h2
       rw [HG.out,h2])
      have HRF:=yb (HR.out G HN.out)
      clear h48
      go_wp2_with (go_at_call 73;refine (HT2.out _).mono ?_;rintro e w' ⟨rfl,rfl⟩)
      go_ret2
      exact ⟨zbx (by rw [HE2.out];exact HRF.out) (by rw [HE2.out]),HB1.out⟩
    ·obtain rfl:j=5:=by omega
     have HN:=yb (show bl G=f by
      rw [HG.out]
      have hl1:(bl G).length=1:=by rw [zaR,hGs]
      obtain ⟨a,ha⟩:=List.length_eq_one_iff.1 hl1
      rw [ha,trimF_one])
     have HRF:=yb (HR.out G HN.out)
     go_wp2_with (go_at_call 73;refine (HT2.out _).mono ?_;rintro e w' ⟨rfl,rfl⟩)
     go_ret2
     exact ⟨zbx (by rw [HE2.out];exact HRF.out) (by rw [HE2.out]),HB1.out⟩
theorem zd8 {l:List PV} {k:Nat} {x:PV} (hx:l[k]?=some x):zbo (l.take (k+1))=max (zbo (l.take k)) (zaT x):=by
 induction l generalizing k with
 | nil=>cases hx
 | cons y l ih =>
  cases k with
  | zero =>
   have:y=x:=by simpa using hx
   subst this
   simp [zbo]
  | succ k =>
   rw [List.take_succ_cons,List.take_succ_cons]
   simp only [zbo]
   rw [ih (by simpa using hx)];omega
theorem zcT {x:PV}:∀(l:List PV) (k:Nat),l[k]?=some x->zaT x<=zbo l
 | [],k,h=>by cases h
 | y::l,0,h=>by
  have:y=x:=by simpa using h
  subst this
  simp only [zbo];omega
 | y::l,k+1,h=>by
  have:=zcT l k (by simpa using h)
  simp only [zbo];omega
theorem zc5 (v:PV):zaT v=if v.kind=6\/v.kind=7 then 1+zbo v.l else 1:=by obtain ⟨_,_,_,_⟩:=v;rfl
theorem vdepth_any:∀(N:Nat) (v:PV) (sl:Value) (w:World),SizeOf.sizeOf v<=N->zaT v<=1000->IsV w anyF v sl ->
  Calls Tryz.prog 75 #[pvA v sl] w fun e w'=>e=.returned (.int .i64 (zaT v:Nat))/\Below w.heap.size w w':=by
 intro N
 induction N with
 | zero=>intro v sl w h;obtain ⟨_,_,_,_⟩:=v;simp at h
 | succ N ih =>
 intro v sl w hN hd hv
 obtain ⟨a1,cap1,e1,g1,g2,g3⟩:=hv.len
 subst e1
 have HA:=yb hv
 have HIH:=yb ih
 have HN:=yb hN
 have HSA:=yb (fun (k:Nat) (x:PV) (h:v.l[k]?=some x)=>zbh h)
 have m1:(v.l.length:Int)<=9223372036854775807:=by unfold maxLen at g2;omega
 have hdv:=zc5 v
 unfold pvA
 obtain ⟨DV,hDV⟩:∃DV,DV=zaT v:=⟨_,rfl⟩
 rw [<-hDV] at hd hdv |-
 clear hDV
 clear ih hN hv
 obtain ⟨la,hla⟩:∃la,la=v.l:=⟨_,rfl⟩
 have HLA:=yb hla
 rw [<-hla] at hdv HA HSA m1 g1 |-
 clear hla g2 g3
 have HHK:∀k,k=v.kind->DV=if k=6\/k=7 then 1+zbo la else 1:=fun k e=>by rw [e];exact hdv
 obtain ⟨k0,hk0⟩:∃k,k=v.kind:=⟨_,rfl⟩
 have hdk:=HHK k0 hk0
 rw [<-hk0]
 have HD:=yb hd
 clear HHK hdv hk0 hd
 generalize v.n=n0 at *
 generalize mkB v.s=s0 at *
 go_enter Tryz.func75,Tryz.ntmps75
 obtain ⟨B,hB⟩:∃B,B=w.heap.size:=⟨_,rfl⟩
 have HX1:=yb (zab (w:=w) (b:=B) (.cells #[.int .i64 k0,.int .i64 n0,.string s0,.slice a1 la.length cap1] 25) hB)
 have HW:=yb (zae w (.cells #[.int .i64 k0,.int .i64 n0,.string s0,.slice a1 la.length cap1] 25))
 go_upto_region 2 with fail
 rw [<-hB]
 clear hB
 generalize w.alloc _=W1 at *
 obtain ⟨⟨c0,c1,c2,c3⟩,-⟩:=zah HX1.out
 by_cases hk:k0=6\/k0=7
 case neg =>
  have hk6:(k0==6)=false:=by rw [yf];omega
  have hk7:(k0==7)=false:=by rw [yf];omega
  rw [yh hk] at hdk
  subst hdk
  clear hk HA HIH HN HSA HD HLA
  go_wp2
  go_ret
  exact ⟨rfl,HW.out⟩
 rw [yg hk] at hdk
 have HDK:=yb hdk
 have hdl:zbo la<=999:=by have:=HD.out;omega
 clear hdk
 have hor:∀ {Q:Prop},(k0=6->Q)->(k0=7->Q)->Q:=fun h6 h7=>hk.elim h6 h7
 have HFIN:Hid (∀w',Below w.heap.size w w'->w'=w'):=yb fun _ _=>rfl
 clear hk HFIN
 refine hor (fun e6=>?_) (fun e7=>?_)
 all_goals
  first|subst e6|subst e7
  clear hor
  go_wp2
  go_loopw [3,17] (fun vn vk wr=>∃(k n:Nat),vk=.int .i64 k/\vn=.int .i64 n/\n<=999/\k<=la.length/\Hid (Below W1.heap.size W1 wr)/\Hid (n=zbo (la.take k))) (fun _ vk _=>la.length-(intOf vk).toNat)
  case atStart=>exact ⟨0,0,rfl,rfl,by omega,Nat.zero_le _,Below.refl _ _,rfl⟩
  case round =>
   obtain ⟨k,n,rfl,rfl,hn,hk,HWR1,HV⟩:=hrel
   have HWR:=yb (HW.out.trans (HWR1.out.mono HW.out.size))
   by_cases q1:k<la.length
   case neg =>
    have hkl:k=la.length:=by omega
    subst hkl
    have hv:=HV.out
    rw [List.take_length] at hv
    have hv2:DV=1+n:=by rw [HDK.out,hv]
    have HV9:=yb hv2
    clear hv hv2 HV HA HIH HN HSA c0 c1 c2 c3 HDK
    go_wp2
    go_ret
    exact ⟨by rw [HV9.out];push_cast;rfl,HWR.out⟩
   obtain ⟨x,hx⟩:∃x,la[k]?=some x:=⟨_,List.getElem?_eq_getElem q1⟩
   obtain ⟨-,-,-,b1,o1,rfl,-,-,hax⟩:=(HA.out.below HWR.out).at (by omega)
   rw [<-HLA.out] at hax
   obtain ⟨sx,hsx,x0,x1,x2,x3⟩:=hax k x hx
   have hlt:SizeOf.sizeOf x<SizeOf.sizeOf v:=HSA.out k x hx
   have hN:=HN.out
   have hdx:=zcT la k hx
   have hv:max n (zaT x)=zbo (la.take (k+1)):=by rw [zd8 hx];have:=HV.out;omega
   have HV2:=yb hv
   have hdx2:zaT x<=999:=by omega
   obtain ⟨sa',sc',rfl,-,-,-⟩:=hsx.len
   have HCALL:=yb (fun (W:World) (hb:Below wr.heap.size wr W)=>HIH.out x _ W (by omega) (by omega) (hsx.below hb))
   simp only [pvA] at HCALL
   clear hv hsx hlt hN hax hx HA HIH HV HSA HLA HN hdx c0 c1 c2 c3
   generalize zaT x=d at *
   have hkl:(0:Int)<=(k:Int):=by omega
   have hki:(k:Int)<(la.length:Int):=by omega
   have hd1:decide (k<la.length)=true:=yd q1
   generalize x.kind=xk at *
   generalize x.n=xn at *
   generalize mkB x.s=xs at *
   generalize x.l.length=xl at *
   have HB4:=yb (zae wr (.cells #[.int .i64 xk,.int .i64 xn,.string xs,.slice sa' xl sc'] 25))
   have HK4:=yb (zab (w:=wr) (b:=wr.heap.size) (.cells #[.int .i64 xk,.int .i64 xn,.string xs,.slice sa' xl sc'] 25) rfl)
   have HW4:=yb (HWR1.out.trans (HB4.out.mono HWR1.out.size))
   go_upto_region 6 with fail
   obtain ⟨r4,hr4⟩:∃r4,r4=wr.heap.size:=⟨_,rfl⟩
   rw [<-hr4] at HK4 |-
   clear hr4 x0 x1 x2 x3
   have HC4:=yb (HCALL.out _ HB4.out)
   clear HCALL HB4
   generalize wr.alloc _=W4 at *
   obtain ⟨⟨x0,x1,x2,x3⟩,-⟩:=zah HK4.out
   go_wp2_with fail
   refine HC4.out.mono ?_
   rintro e w5 ⟨rfl,hb5⟩
   have HW5:=yo HW4 hb5
   clear hb5 x0 x1 x2 x3 HC4
   by_cases hc:n<d
   ·have hm:max n d=d:=by omega
    have hm2:max (n:Int) (d:Int)=(d:Int):=by omega
    rw [hm] at HV2
    have hd1:decide ((n:Int)<(d:Int))=true:=yd (by omega)
    have hd2:decide (n<d)=true:=yd hc
    have hc2:(n:Int)<=(d:Int):=by omega
    go_wp2
    go_roundw
    case rel=>exact ⟨k+1,d,by go_num,by go_num,by omega,by omega,HW5,HV2⟩
    case measure=>simp [intOf];omega
   ·have hm:max n d=n:=by omega
    have hm2:max (n:Int) (d:Int)=(n:Int):=by omega
    rw [hm] at HV2
    have hd1:decide ((n:Int)<(d:Int))=false:=ye (by omega)
    have hd2:decide (n<d)=false:=ye hc
    have hc2:(d:Int)<=(n:Int):=by omega
    go_wp2
    go_roundw
    case rel=>exact ⟨k+1,n,by go_num,by go_num,by omega,by omega,HW5,HV2⟩
    case measure=>simp [intOf];omega
theorem eqBs (a b:List UInt8):((mkB a).toList==b)=decide (a=b):=by
 rw [zag];by_cases h:a=b<;>simp [h]
theorem plain_any (k n:Int) (s:List UInt8) (a:Option Addr) (m c:Nat) (w:World) :
  Calls Tryz.prog 119 #[.agg #[.int .i64 k,.int .i64 n,.string (mkB s),.slice a m c]] w fun e w'=>e=.returned (.bool (n==0&&decide (s=[])&&m==0))/\Below w.heap.size w w':=by
 have hs:=eqBs s []
 generalize decide (s=[])=ds at *
 generalize mkB s=S at *
 have HB:=yb (zae w (.cells #[.int .i64 k,.int .i64 n,.string S,.slice a m c] 25))
 have hm:((m:Int)==0)=(m==0):=by rw [Bool.eq_iff_iff];simp
 cases h1:(n==0)
 ·go_enter Tryz.func119,Tryz.ntmps119
  go_wp2
  go_ret
  exact ⟨rfl,HB.out⟩
 ·cases ds
  ·go_enter Tryz.func119,Tryz.ntmps119
   go_wp2
   go_ret
   exact ⟨rfl,HB.out⟩
  ·cases h2:(m==0)
   ·rw [h2] at hm
    go_enter Tryz.func119,Tryz.ntmps119
    go_wp2
    go_ret
    exact ⟨rfl,HB.out⟩
   ·rw [h2] at hm
    go_enter Tryz.func119,Tryz.ntmps119
    go_wp2
    go_ret
    exact ⟨rfl,HB.out⟩
theorem zfb {l:List PV} (h:zcs l=true) {k:Nat} {x:PV} (hx:l[k*2]?=some x):x.kind=5:=by
 induction k generalizing l with
 | zero =>
  match l,h with
  | [a],h =>
   have e:a=x:=by simpa using hx
   subst e
   simpa [zcs] using h
  | a::b::l,h =>
   have e:a=x:=by simpa using hx
   subst e
   simp [zcs] at h
   exact h.1
  | [],_=>simp at hx
 | succ k ih =>
  match l,h with
  | [],_=>simp at hx
  | [a],_=>simp at hx
  | a::b::l,h=>exact ih (l:=l) (by simp [zcs] at h;exact h.2) (by rw [show (k+1)*2=k*2+2 by omega] at hx;simpa using hx)
theorem zfC:∀(l:List PV),(∀k x,l[k*2]?=some x->x.kind=5)->zcs l=true
 | [],_=>rfl
 | [a],h=>by have:=h 0 a rfl;simp [zcs,this]
 | a::b::l,h=>by
  have h1:=h 0 a rfl
  have h2:=zfC l (fun k x hx=>h (k+1) x (by rw [show (k+1)*2=k*2+2 by omega];simpa using hx))
  simp [zcs,h1,h2]
theorem asc_getS {l:List PV} (h:ascV (twoV l)=true) (he:l.length % 2=0) {k:Nat} {x y:PV} (hx:l[k*2]?=some x) (hy:l[k*2+2]?=some y):sLt x.s y.s=true:=by
 induction k generalizing l with
 | zero =>
  match l,h with
  | [],_=>cases hx
  | [a],_=>cases hy
  | [a,b],_=>cases hy
  | [a,b,c],_=>simp at he
  | a::b::c::d::l,h =>
   have e1:a=x:=by simpa using hx
   have e2:c=y:=by simpa using hy
   subst e1 e2
   simp [twoV,ascV] at h
   exact h.1
 | succ k ih =>
  match l,h with
  | [],_=>cases hx
  | [a],_=>simp at he
  | a::b::l,h =>
   refine ih (l:=l) ?_ (by simp at he;omega) (by rw [show (k+1)*2=k*2+2 by omega] at hx;simpa using hx) (by rw [show (k+1)*2+2=(k*2+2)+2 by omega] at hy;simpa using hy)
   match l,h with
   | [],_=>rfl
   | [c],_=>rfl
   | c::d::l,h=>simp [twoV,ascV] at h |-;exact h.2
theorem asc_ofS:∀(l:List PV),(∀k x y,l[k*2]?=some x->l[k*2+2]?=some y->sLt x.s y.s=true)->ascV (twoV l)=true
 | [],_=>rfl
 | [a],_=>rfl
 | [a,b],_=>rfl
 | [a,b,c],_=>rfl
 | a::b::c::d::l,h=>by
  have h1:=h 0 a c rfl rfl
  have h2:=asc_ofS (c::d::l) (fun k x y hx hy=>h (k+1) x y (by rw [show (k+1)*2=k*2+2 by omega];simpa using hx) (by rw [show (k+1)*2+2=(k*2+2)+2 by omega];simpa using hy))
  simp [twoV,ascV] at h2 |-
  exact ⟨h1,h2⟩
def zcN (l:List PV):Int:=if l.length % 2≠0 then 2 else if zcs l=false then 2 else if ascV (twoV l)=true then 0 else 16
theorem vdict_any {v:PV} {sl:Value} {w:World} (hv:IsV w anyF v sl) :
  Calls Tryz.prog 122 #[pvA v sl] w fun e w'=>e=.returned (.int .i64 (zcN v.l))/\Below w.heap.size w w':=by
 obtain ⟨a1,cap1,e1,g1,g2,g3⟩:=hv.len
 subst e1
 have HA:=yb hv
 have m1:(v.l.length:Int)<=9223372036854775807:=by unfold maxLen at g2;omega
 unfold pvA
 clear hv g2 g3
 obtain ⟨la,hla⟩:∃la,la=v.l:=⟨_,rfl⟩
 have HLA:=yb hla
 rw [<-hla] at m1 g1 HA |-
 clear hla
 obtain ⟨R,hR⟩:∃R,R=zcN la:=⟨_,rfl⟩
 rw [<-hR]
 unfold zcN at hR
 have HR:=yb hR
 clear hR
 generalize v.kind=k0 at *
 generalize v.n=n0 at *
 generalize mkB v.s=s0 at *
 go_enter Tryz.func122,Tryz.ntmps122
 obtain ⟨B,hB⟩:∃B,B=w.heap.size:=⟨_,rfl⟩
 have HX1:=yb (zab (w:=w) (b:=B) (.cells #[.int .i64 k0,.int .i64 n0,.string s0,.slice a1 la.length cap1] 25) hB)
 have HW:=yb (zae w (.cells #[.int .i64 k0,.int .i64 n0,.string s0,.slice a1 la.length cap1] 25))
 go_upto_region 1 with fail
 rw [<-hB]
 clear hB
 generalize w.alloc _=W1 at *
 obtain ⟨⟨c0,c1,c2,c3⟩,-⟩:=zah HX1.out
 by_cases he:la.length % 2=0
 case neg =>
  have he1:((la.length:Int) % 2==1)=true:=by rw [beq_iff_eq];omega
  have he2:((la.length:Int) % 2==0)=false:=by rw [yf];omega
  have he3:((la.length:Int) % 2 != 0)=true:=by simp only [bne,he2,yj]
  have hr:=HR.out
  rw [yg he] at hr
  subst hr
  clear HR HA he
  go_wp2
  go_ret
  exact ⟨rfl,HW.out⟩
 have he1:((la.length:Int) % 2==1)=false:=by rw [yf];omega
 have he2:((la.length:Int) % 2==0)=true:=by rw [beq_iff_eq];omega
 have he3:((la.length:Int) % 2 != 0)=false:=by simp only [bne,he2,Bool.not_true]
 have HE:=yb he
 have hr:=HR.out
 rw [yh (by omega)] at hr
 clear HR
 have HR:=yb hr
 clear hr he
 go_wp2
 clear he1 he2 he3
 go_loopw [3] (fun vk wr=>∃j K:Nat,vk=.int .i64 (K:Int)/\Hid (K=j*2)/\K<=la.length/\wr=W1/\Hid (∀i x,i<j->la[i*2]?=some x->x.kind=5)) (fun vk _=>la.length+2-(intOf vk).toNat)
 case atStart=>exact ⟨0,0,rfl,rfl,by omega,rfl,yb fun i x h=>absurd h (Nat.not_lt_zero _)⟩
 case round =>
  obtain ⟨j,k,rfl,HK,hj,hwr,HG⟩:=hrel
  rw [hwr]
  clear hwr
  have hke:k<la.length->k+2<=la.length:=fun h=>by have h1:=HK.out;have h2:=HE.out;omega
  by_cases q1:k<la.length
  case pos =>
   obtain ⟨x,hx⟩:∃x,la[k]?=some x:=⟨_,List.getElem?_eq_getElem q1⟩
   obtain ⟨-,-,-,b1,o1,rfl,-,-,hax⟩:=(HA.out.below HW.out).at (by omega)
   rw [<-HLA.out] at hax
   obtain ⟨sx,-,x0,-⟩:=hax k x hx
   have hkl:(0:Int)<=(k:Int):=by omega
   have hki:(k:Int)<(la.length:Int):=by omega
   have hd1:decide (k<la.length)=true:=yd q1
   have hd2:decide ((k:Int)<(la.length:Int))=true:=yd hki
   have hk2:=hke q1
   clear hke
   by_cases h5:x.kind=5
   ·rw [h5] at x0
    have HG2:=yb (show ∀i y,i<j+1->la[i*2]?=some y->y.kind=5 from fun i y hi hy=>by
     by_cases e:i=j
     ·subst e
      have h1:=HK.out
      rw [<-h1,hx] at hy
      cases hy
      exact h5
     ·exact HG.out i y (by omega) hy)
    clear hax hx h5 HG
    go_wp2
    go_roundw
    case rel=>exact ⟨j+1,k+2,by go_num,by have:=HK.out;show k+2=(j+1)*2;omega,hk2,trivial,HG2⟩
    case measure=>simp [intOf];omega
   ·have h51:(x.kind==5)=false:=by rw [yf];exact h5
    have h52:(x.kind != 5)=true:=by simp only [bne,h51,yj]
    have hev:zcs la=false:=by
     cases hq:zcs la with
     | false=>rfl
     | true=>exact absurd (zfb hq (k:=j) (by rw [<-HK.out];exact hx)) h5
    have hr:=HR.out
    rw [yg hev] at hr
    subst hr
    generalize x.kind=xk at *
    clear hax hx h5 HG HR HA hev HK HE
    go_wp2
    go_ret
    exact ⟨rfl,HW.out⟩
  have hd1:decide (k<la.length)=false:=ye q1
  have hd2:decide ((k:Int)<(la.length:Int))=false:=ye (by omega)
  have hq2:¬(k:Int)<(la.length:Int):=by omega
  have hev:zcs la=true:=zfC la fun i x hx=>HG.out i x (by
   have h1:=HK.out
   have h2:=(List.getElem?_eq_some_iff.1 hx).1
   omega) hx
  have hr:=HR.out
  rw [yh (by rw [hev];decide)] at hr
  clear HR
  have HR:=yb hr
  clear hr HK hj hke HG hev
  go_wp2
  clear hd1 hd2 hq2 q1
  clear c0 c1 c2 c3
  go_loopw [4] (fun vk wr=>∃j m K:Nat,vk=.int .i64 (K:Int)/\Hid (m=j*2)/\m+2=K/\m<=la.length/\Hid (Below W1.heap.size W1 wr)/\Hid (∀i x y,i<j->la[i*2]?=some x->la[i*2+2]?=some y->sLt x.s y.s=true)) (fun vk _=>la.length+4-(intOf vk).toNat)
  case atStart=>exact ⟨0,0,2,by go_num,rfl,rfl,by omega,Below.refl _ _,yb fun i x y h=>absurd h (Nat.not_lt_zero _)⟩
  case round =>
   obtain ⟨j,m,K,rfl,HK,hmK,hm2,HWR,HG⟩:=hrel
   have HW2:=yb (HW.out.trans (HWR.out.mono HW.out.size))
   obtain ⟨⟨c0,c1,c2,c3⟩,-⟩:=zah (zaa HWR.out HX1.out)
   by_cases q2:K<la.length
   case neg =>
    have hd0:decide (K<la.length)=false:=ye q2
    have hd1:decide ((K:Int)<(la.length:Int))=false:=ye (by omega)
    have hq2:¬(K:Int)<(la.length:Int):=by omega
    have has:ascV (twoV la)=true:=asc_ofS la fun i x y hx hy=>HG.out i x y (by
     have h1:=HK.out
     have h2:=(List.getElem?_eq_some_iff.1 hy).1
     omega) hx hy
    have hr:=HR.out
    rw [yg has] at hr
    subst hr
    clear HG HA HR has HK HE hmK
    go_wp2
    go_ret
    exact ⟨rfl,HW2.out⟩
   obtain ⟨x,hx⟩:∃x,la[m]?=some x:=⟨_,List.getElem?_eq_getElem (by omega)⟩
   obtain ⟨y,hy⟩:∃y,la[K]?=some y:=⟨_,List.getElem?_eq_getElem q2⟩
   have hK2:K+2<=la.length:=by have h1:=HK.out;have h2:=HE.out;omega
   obtain ⟨-,-,-,b1,o1,rfl,-,-,hax⟩:=(HA.out.below HW2.out).at (by omega)
   rw [<-HLA.out] at hax
   obtain ⟨sx,-,-,-,x2,-⟩:=hax m x hx
   obtain ⟨sy,-,-,-,y2,-⟩:=hax K y hy
   have l1:Op.bytesLess (mkB x.s).toList (mkB y.s).toList=sLt x.s y.s:=by rw [zag,zag,zbX]
   have l2:Op.bytesLess (mkB y.s).toList (mkB x.s).toList=sLt y.s x.s:=by rw [zag,zag,zbX]
   have l3:((mkB y.s).toList==(mkB x.s).toList)=decide (y.s=x.s):=by rw [zag x.s];exact eqBs _ _
   have l4:((mkB x.s).toList==(mkB y.s).toList)=decide (x.s=y.s):=by rw [zag y.s];exact eqBs _ _
   have u3:=zas.cell c3
   have e2:=zas.cell x2
   have r2:=zas.cell y2
   have hd0:decide (K<la.length)=true:=yd q2
   have hd1:decide ((K:Int)<(la.length:Int))=true:=yd (by omega)
   have hkl:(0:Int)<=(m:Int):=by omega
   have hki:(m:Int)<(la.length:Int):=by omega
   have hkl2:(0:Int)<=(K:Int):=by omega
   have hki2:(K:Int)<(la.length:Int):=by omega
   have hkm:(K:Int)-2=(m:Int):=by omega
   have hkw:IntKind.i64.wrap ((K:Int)-2)=(m:Int):=by rw [IntWalk.i64_in _ (by omega)];omega
   have hkw2:IntKind.i64.wrap (m:Int)=(m:Int):=IntWalk.i64_in _ (by omega)
   by_cases hlt:sLt x.s y.s=true
   ·rw [hlt] at l1
    rw [zfs _ _ hlt] at l2
    have hne:x.s≠y.s:=fun e=>by rw [e,zcO] at hlt;cases hlt
    rw [ye (fun e=>hne e.symm)] at l3
    rw [ye hne] at l4
    have HG2:=yb (show ∀i u z,i<j+1->la[i*2]?=some u->la[i*2+2]?=some z->sLt u.s z.s=true from fun i u z hi hu hz=>by
     by_cases e:i=j
     ·subst e
      have h1:=HK.out
      rw [<-h1,hx] at hu
      rw [<-h1,hmK,hy] at hz
      cases hu
      cases hz
      exact hlt
     ·exact HG.out i u z (by omega) hu hz)
    clear hax hx hy HG HA hlt x2 y2 hne HR
    generalize mkB x.s=sX at *
    generalize mkB y.s=sY at *
    have HMK:=yb hmK
    clear hmK
    go_wp2
    refine zaw (by kernel_rfl) (by kernel_rfl) ?_
    repeat (go_big_quiet_step (fail))
    refine wpQuiet_nil ?_
    rintro _ ⟨⟨w4,hb4⟩,rfl⟩
    have HW4:=yo HWR hb4
    clear u3 e2 r2 c0 c1 c2 c3 hb4 l1 l2 l3 l4
    go_wp2
    exact ⟨⟨j+1,K,K+2,by go_num,by have h1:=HK.out;have h2:=HMK.out;show K=(j+1)*2;omega,rfl,by omega,HW4,HG2⟩,by simp [intOf];omega⟩
   ·have hge:sLt x.s y.s=false:=by simpa using hlt
    rw [hge] at l1
    have has:ascV (twoV la)=false:=by
     cases hq:ascV (twoV la) with
     | false=>rfl
     | true=>exact absurd (asc_getS hq HE.out (k:=j) (by rw [<-HK.out];exact hx) (by rw [<-HK.out,hmK];exact hy)) hlt
    have hr:=HR.out
    rw [yh (by rw [has];decide)] at hr
    subst hr
    by_cases hgt:sLt y.s x.s=true
    ·rw [hgt] at l2
     have hne:x.s≠y.s:=fun e=>by rw [e,zcO] at hgt;cases hgt
     rw [ye (fun e=>hne e.symm)] at l3
     rw [ye hne] at l4
     clear hax hx hy HG HA hlt x2 y2 hne HR has hge hgt HK HE
     generalize mkB x.s=sX at *
     generalize mkB y.s=sY at *
     clear hmK
     go_wp2
     refine zaw (by kernel_rfl) (by kernel_rfl) ?_
     repeat (go_big_quiet_step (fail))
     refine wpQuiet_nil ?_
     rintro _ ⟨⟨w4,hb4⟩,rfl⟩
     have HW4:=yo HW2 hb4
     clear u3 e2 r2 c0 c1 c2 c3 hb4 l1 l2 l3 l4
     go_wp2
     go_ret
     exact ⟨rfl,HW4.out⟩
    ·have hgf:sLt y.s x.s=false:=by simpa using hgt
     rw [hgf] at l2
     have heq:x.s=y.s:=by
      by_cases e:x.s=y.s
      ·exact e
      ·exact absurd (zcn _ _ hge e) (by rw [hgf];decide)
     rw [yd heq.symm] at l3
     rw [yd heq] at l4
     clear hax hx hy HG HA hlt x2 y2 HR has hge hgt hgf HK HE heq
     generalize mkB x.s=sX at *
     generalize mkB y.s=sY at *
     clear hmK
     go_wp2
     refine zaw (by kernel_rfl) (by kernel_rfl) ?_
     repeat (go_big_quiet_step (fail))
     refine wpQuiet_nil ?_
     rintro _ ⟨⟨w4,hb4⟩,rfl⟩
     have HW4:=yo HW2 hb4
     clear u3 e2 r2 c0 c1 c2 c3 hb4 l1 l2 l3 l4
     go_wp2
     go_ret
     exact ⟨rfl,HW4.out⟩
theorem idx_memS (o:List UInt8) (c:UInt8):decide (0<=Lib.indexByte o c)=decide (c∈o):=by
 have hg:=Lib.indexByte_ge o c
 by_cases h:Lib.indexByte o c=-1
 ·rw [h,ye (zcE _ _ h)];rfl
 ·obtain ⟨i,hi⟩:=Int.eq_ofNat_of_zero_le (show 0<=Lib.indexByte o c by omega)
  obtain ⟨a,t,e,-,-⟩:=zcD _ _ _ hi
  rw [hi,yd (by omega),yd (by rw [e];simp)]
theorem vown_k0 {n:Int} {s:List UInt8} {l:List PV} {a1:Option Addr} {cap1:Nat} {w:World} (_m1:(l.length:Int)<=9223372036854775807) :
  Calls Tryz.prog 78 #[.agg #[.int .i64 0,.int .i64 n,.string (mkB s),.slice a1 l.length cap1]] w fun e w'=>e=.returned (.int .i64 (if n=0/\s=[]/\l=[] then 0 else 2))/\Below w.heap.size w w':=by
 obtain ⟨R,hR⟩:∃R,R=(if n=0/\s=[]/\l=[] then 0 else 2:Int):=⟨_,rfl⟩
 rw [<-hR]
 have HR:=yb hR
 have HB:=yb (zae w (.cells #[.int .i64 0,.int .i64 n,.string (mkB s),.slice a1 l.length cap1] 25))
 clear hR
 have HP:=yb (fun W=>plain_any 0 n s a1 l.length cap1 W)
 have hq:R=if (n==0&&decide (s=[])&&l.length==0)=true then 0 else 2:=by
  rw [HR.out];cases l<;>simp
 clear HR
 obtain ⟨b,hb⟩:∃b,b=(n==0&&decide (s=[])&&l.length==0):=⟨_,rfl⟩
 rw [<-hb] at HP hq
 have HQ:=yb hq
 clear hb hq
 generalize l.length=m at *
 generalize mkB s=S at *
 cases b
 ·obtain rfl:R=2:=HQ.out
  clear HQ
  go_enter Tryz.func78,Tryz.ntmps78
  go_wp2_with (go_at_call 119;refine (HP.out _).mono ?_;rintro e w1 ⟨rfl,hb1⟩)
  go_ret
  exact ⟨rfl,HB.out.trans (hb1.mono HB.out.size)⟩
 ·obtain rfl:R=0:=HQ.out
  clear HQ
  go_enter Tryz.func78,Tryz.ntmps78
  go_wp2_with (go_at_call 119;refine (HP.out _).mono ?_;rintro e w1 ⟨rfl,hb1⟩)
  go_ret
  exact ⟨rfl,HB.out.trans (hb1.mono HB.out.size)⟩
theorem vown_k1 {n:Int} {s:List UInt8} {l:List PV} {a1:Option Addr} {cap1:Nat} {w:World} (_m1:(l.length:Int)<=9223372036854775807) :
  Calls Tryz.prog 78 #[.agg #[.int .i64 1,.int .i64 n,.string (mkB s),.slice a1 l.length cap1]] w fun e w'=>e=.returned (.int .i64 (if (n=0\/n=1)/\s=[]/\l=[] then 0 else 2))/\Below w.heap.size w w':=by
 obtain ⟨R,hR⟩:∃R,R=(if (n=0\/n=1)/\s=[]/\l=[] then 0 else 2:Int):=⟨_,rfl⟩
 rw [<-hR]
 have HR:=yb hR
 have HB:=yb (zae w (.cells #[.int .i64 1,.int .i64 n,.string (mkB s),.slice a1 l.length cap1] 25))
 clear hR
 by_cases hn0:n=0
 ·have en0:(n==0)=true:=by rw [beq_iff_eq];exact hn0
  have en0':(n != 0)=false:=by simp only [bne,en0,Bool.not_true]
  by_cases hs0:s=[]
  ·have es0:(mkB s).toList=[]:=by rw [zag];exact hs0
   have es0b:((mkB s).toList==[])=true:=by rw [beq_iff_eq];exact es0
   have es0c:((mkB s).toList != [])=false:=by simp only [bne,es0b,Bool.not_true]
   by_cases hm0:l=[]
   ·have em0:(l.length==0)=true:=by rw [hm0];rfl
    have em0':((l.length:Int)==0)=true:=by rw [hm0];rfl
    have hr:=HR.out
    obtain rfl:R=0:=by rw [hr];simp [hn0,hs0,hm0]
    clear HR hr hn0 hs0 hm0
    generalize l.length=m at *
    generalize mkB s=S at *
    go_enter Tryz.func78,Tryz.ntmps78
    go_wp2
    go_ret
    exact ⟨rfl,HB.out⟩
   ·have em0:(l.length==0)=false:=by rw [yf];exact fun e=>hm0 (List.eq_nil_of_length_eq_zero e)
    have em0':((l.length:Int)==0)=false:=by rw [yf];exact fun e=>hm0 (List.eq_nil_of_length_eq_zero (by omega))
    have hr:=HR.out
    obtain rfl:R=2:=by rw [hr];simp [hn0,hs0,hm0]
    clear HR hr hn0 hs0 hm0
    generalize l.length=m at *
    generalize mkB s=S at *
    go_enter Tryz.func78,Tryz.ntmps78
    go_wp2
    go_ret
    exact ⟨rfl,HB.out⟩
  ·have es0b:((mkB s).toList==[])=false:=by rw [yf,zag];exact hs0
   have es0c:((mkB s).toList != [])=true:=by simp only [bne,es0b,yj]
   have hr:=HR.out
   obtain rfl:R=2:=by rw [hr];simp [hn0,hs0]
   clear HR hr hn0 hs0
   generalize l.length=m at *
   generalize mkB s=S at *
   go_enter Tryz.func78,Tryz.ntmps78
   go_wp2
   go_ret
   exact ⟨rfl,HB.out⟩
 ·have en0:(n==0)=false:=by rw [yf];exact hn0
  have en0':(n != 0)=true:=by simp only [bne,en0,yj]
  by_cases hn1:n=1
  ·have en1:(n==1)=true:=by rw [beq_iff_eq];exact hn1
   by_cases hs0:s=[]
   ·have es0:(mkB s).toList=[]:=by rw [zag];exact hs0
    have es0b:((mkB s).toList==[])=true:=by rw [beq_iff_eq];exact es0
    have es0c:((mkB s).toList != [])=false:=by simp only [bne,es0b,Bool.not_true]
    by_cases hm0:l=[]
    ·have em0:(l.length==0)=true:=by rw [hm0];rfl
     have em0':((l.length:Int)==0)=true:=by rw [hm0];rfl
     have hr:=HR.out
     obtain rfl:R=0:=by rw [hr];simp [hn1,hs0,hm0]
     clear HR hr hn0 hn1 hs0 hm0
     generalize l.length=m at *
     generalize mkB s=S at *
     go_enter Tryz.func78,Tryz.ntmps78
     go_wp2
     go_ret
     exact ⟨rfl,HB.out⟩
    ·have em0:(l.length==0)=false:=by rw [yf];exact fun e=>hm0 (List.eq_nil_of_length_eq_zero e)
     have em0':((l.length:Int)==0)=false:=by rw [yf];exact fun e=>hm0 (List.eq_nil_of_length_eq_zero (by omega))
     have hr:=HR.out
     obtain rfl:R=2:=by rw [hr];simp [hn1,hs0,hm0]
     clear HR hr hn0 hn1 hs0 hm0
     generalize l.length=m at *
     generalize mkB s=S at *
     go_enter Tryz.func78,Tryz.ntmps78
     go_wp2
     go_ret
     exact ⟨rfl,HB.out⟩
   ·have es0b:((mkB s).toList==[])=false:=by rw [yf,zag];exact hs0
    have es0c:((mkB s).toList != [])=true:=by simp only [bne,es0b,yj]
    have hr:=HR.out
    obtain rfl:R=2:=by rw [hr];simp [hn1,hs0]
    clear HR hr hn0 hn1 hs0
    generalize l.length=m at *
    generalize mkB s=S at *
    go_enter Tryz.func78,Tryz.ntmps78
    go_wp2
    go_ret
    exact ⟨rfl,HB.out⟩
  ·have en1:(n==1)=false:=by rw [yf];exact hn1
   have hr:=HR.out
   obtain rfl:R=2:=by rw [hr];simp [hn0,hn1]
   clear HR hr hn0 hn1
   generalize l.length=m at *
   generalize mkB s=S at *
   go_enter Tryz.func78,Tryz.ntmps78
   go_wp2
   go_ret
   exact ⟨rfl,HB.out⟩
theorem vown_k4 {n:Int} {s:List UInt8} {l:List PV} {a1:Option Addr} {cap1:Nat} {w:World} (_m1:(l.length:Int)<=9223372036854775807) :
  Calls Tryz.prog 78 #[.agg #[.int .i64 4,.int .i64 n,.string (mkB s),.slice a1 l.length cap1]] w fun e w'=>e=.returned (.int .i64 (if n=0/\l=[] then 0 else 2))/\Below w.heap.size w w':=by
 obtain ⟨R,hR⟩:∃R,R=(if n=0/\l=[] then 0 else 2:Int):=⟨_,rfl⟩
 rw [<-hR]
 have HR:=yb hR
 have HB:=yb (zae w (.cells #[.int .i64 4,.int .i64 n,.string (mkB s),.slice a1 l.length cap1] 25))
 clear hR
 by_cases hn0:n=0
 ·have en0:(n==0)=true:=by rw [beq_iff_eq];exact hn0
  have en0':(n != 0)=false:=by simp only [bne,en0,Bool.not_true]
  by_cases hm0:l=[]
  ·have em0:(l.length==0)=true:=by rw [hm0];rfl
   have em0':((l.length:Int)==0)=true:=by rw [hm0];rfl
   have hr:=HR.out
   obtain rfl:R=0:=by rw [hr];simp [hn0,hm0]
   clear HR hr hn0 hm0
   generalize l.length=m at *
   generalize mkB s=S at *
   go_enter Tryz.func78,Tryz.ntmps78
   go_wp2
   go_ret
   exact ⟨rfl,HB.out⟩
  ·have em0:(l.length==0)=false:=by rw [yf];exact fun e=>hm0 (List.eq_nil_of_length_eq_zero e)
   have em0':((l.length:Int)==0)=false:=by rw [yf];exact fun e=>hm0 (List.eq_nil_of_length_eq_zero (by omega))
   have hr:=HR.out
   obtain rfl:R=2:=by rw [hr];simp [hn0,hm0]
   clear HR hr hn0 hm0
   generalize l.length=m at *
   generalize mkB s=S at *
   go_enter Tryz.func78,Tryz.ntmps78
   go_wp2
   go_ret
   exact ⟨rfl,HB.out⟩
 ·have en0:(n==0)=false:=by rw [yf];exact hn0
  have en0':(n != 0)=true:=by simp only [bne,en0,yj]
  have hr:=HR.out
  obtain rfl:R=2:=by rw [hr];simp [hn0]
  clear HR hr hn0
  generalize l.length=m at *
  generalize mkB s=S at *
  go_enter Tryz.func78,Tryz.ntmps78
  go_wp2
  go_ret
  exact ⟨rfl,HB.out⟩
theorem vown_k6 {n:Int} {s:List UInt8} {l:List PV} {a1:Option Addr} {cap1:Nat} {w:World} (_m1:(l.length:Int)<=9223372036854775807) :
  Calls Tryz.prog 78 #[.agg #[.int .i64 6,.int .i64 n,.string (mkB s),.slice a1 l.length cap1]] w fun e w'=>e=.returned (.int .i64 (if n=0/\s=[] then 0 else 2))/\Below w.heap.size w w':=by
 obtain ⟨R,hR⟩:∃R,R=(if n=0/\s=[] then 0 else 2:Int):=⟨_,rfl⟩
 rw [<-hR]
 have HR:=yb hR
 have HB:=yb (zae w (.cells #[.int .i64 6,.int .i64 n,.string (mkB s),.slice a1 l.length cap1] 25))
 clear hR
 by_cases hn0:n=0
 ·have en0:(n==0)=true:=by rw [beq_iff_eq];exact hn0
  have en0':(n != 0)=false:=by simp only [bne,en0,Bool.not_true]
  by_cases hs0:s=[]
  ·have es0:(mkB s).toList=[]:=by rw [zag];exact hs0
   have es0b:((mkB s).toList==[])=true:=by rw [beq_iff_eq];exact es0
   have es0c:((mkB s).toList != [])=false:=by simp only [bne,es0b,Bool.not_true]
   have hr:=HR.out
   obtain rfl:R=0:=by rw [hr];simp [hn0,hs0]
   clear HR hr hn0 hs0
   generalize l.length=m at *
   generalize mkB s=S at *
   go_enter Tryz.func78,Tryz.ntmps78
   go_wp2
   go_ret
   exact ⟨rfl,HB.out⟩
  ·have es0b:((mkB s).toList==[])=false:=by rw [yf,zag];exact hs0
   have es0c:((mkB s).toList != [])=true:=by simp only [bne,es0b,yj]
   have hr:=HR.out
   obtain rfl:R=2:=by rw [hr];simp [hn0,hs0]
   clear HR hr hn0 hs0
   generalize l.length=m at *
   generalize mkB s=S at *
   go_enter Tryz.func78,Tryz.ntmps78
   go_wp2
   go_ret
   exact ⟨rfl,HB.out⟩
 ·have en0:(n==0)=false:=by rw [yf];exact hn0
  have en0':(n != 0)=true:=by simp only [bne,en0,yj]
  have hr:=HR.out
  obtain rfl:R=2:=by rw [hr];simp [hn0]
  clear HR hr hn0
  generalize l.length=m at *
  generalize mkB s=S at *
  go_enter Tryz.func78,Tryz.ntmps78
  go_wp2
  go_ret
  exact ⟨rfl,HB.out⟩
theorem vown_k8 {n:Int} {s:List UInt8} {l:List PV} {a1:Option Addr} {cap1:Nat} {w:World} (_m1:(l.length:Int)<=9223372036854775807) :
  Calls Tryz.prog 78 #[.agg #[.int .i64 8,.int .i64 n,.string (mkB s),.slice a1 l.length cap1]] w fun e w'=>e=.returned (.int .i64 (if 1<=n/\n<=4096/\s=[]/\l=[] then 0 else 2))/\Below w.heap.size w w':=by
 obtain ⟨R,hR⟩:∃R,R=(if 1<=n/\n<=4096/\s=[]/\l=[] then 0 else 2:Int):=⟨_,rfl⟩
 rw [<-hR]
 have HR:=yb hR
 have HB:=yb (zae w (.cells #[.int .i64 8,.int .i64 n,.string (mkB s),.slice a1 l.length cap1] 25))
 clear hR
 by_cases hg1:1<=n
 ·have eg1:decide (1<=n)=true:=yd hg1
  by_cases hle:n<=4096
  ·have ele:decide (n<=4096)=true:=yd hle
   by_cases hs0:s=[]
   ·have es0:(mkB s).toList=[]:=by rw [zag];exact hs0
    have es0b:((mkB s).toList==[])=true:=by rw [beq_iff_eq];exact es0
    have es0c:((mkB s).toList != [])=false:=by simp only [bne,es0b,Bool.not_true]
    by_cases hm0:l=[]
    ·have em0:(l.length==0)=true:=by rw [hm0];rfl
     have em0':((l.length:Int)==0)=true:=by rw [hm0];rfl
     have hr:=HR.out
     obtain rfl:R=0:=by rw [hr];simp [hg1,hle,hs0,hm0]
     clear HR hr hg1 hle hs0 hm0
     generalize l.length=m at *
     generalize mkB s=S at *
     go_enter Tryz.func78,Tryz.ntmps78
     go_wp2
     go_ret
     exact ⟨rfl,HB.out⟩
    ·have em0:(l.length==0)=false:=by rw [yf];exact fun e=>hm0 (List.eq_nil_of_length_eq_zero e)
     have em0':((l.length:Int)==0)=false:=by rw [yf];exact fun e=>hm0 (List.eq_nil_of_length_eq_zero (by omega))
     have hr:=HR.out
     obtain rfl:R=2:=by rw [hr];simp [hg1,hle,hs0,hm0]
     clear HR hr hg1 hle hs0 hm0
     generalize l.length=m at *
     generalize mkB s=S at *
     go_enter Tryz.func78,Tryz.ntmps78
     go_wp2
     go_ret
     exact ⟨rfl,HB.out⟩
   ·have es0b:((mkB s).toList==[])=false:=by rw [yf,zag];exact hs0
    have es0c:((mkB s).toList != [])=true:=by simp only [bne,es0b,yj]
    have hr:=HR.out
    obtain rfl:R=2:=by rw [hr];simp [hg1,hle,hs0]
    clear HR hr hg1 hle hs0
    generalize l.length=m at *
    generalize mkB s=S at *
    go_enter Tryz.func78,Tryz.ntmps78
    go_wp2
    go_ret
    exact ⟨rfl,HB.out⟩
  ·have ele:decide (n<=4096)=false:=ye hle
   have hr:=HR.out
   obtain rfl:R=2:=by rw [hr];simp [hg1,hle]
   clear HR hr hg1 hle
   generalize l.length=m at *
   generalize mkB s=S at *
   go_enter Tryz.func78,Tryz.ntmps78
   go_wp2
   go_ret
   exact ⟨rfl,HB.out⟩
 ·have eg1:decide (1<=n)=false:=ye hg1
  have hr:=HR.out
  obtain rfl:R=2:=by rw [hr];simp [hg1]
  clear HR hr hg1
  generalize l.length=m at *
  generalize mkB s=S at *
  go_enter Tryz.func78,Tryz.ntmps78
  go_wp2
  go_ret
  exact ⟨rfl,HB.out⟩
theorem vown_k2 {n:Int} {s:List UInt8} {l:List PV} {a1:Option Addr} {cap1:Nat} {w:World} (_m1:(l.length:Int)<=9223372036854775807) :
  Calls Tryz.prog 78 #[.agg #[.int .i64 2,.int .i64 n,.string (mkB s),.slice a1 l.length cap1]] w fun e w'=>e=.returned (.int .i64 (zaD 2 n (za7 (mkB s) l.length)))/\Below w.heap.size w w':=by
 obtain ⟨R,hR⟩:∃R,R=(zaD 2 n (za7 (mkB s) l.length):Int):=⟨_,rfl⟩
 rw [<-hR]
 have HR:=yb hR
 have HB:=yb (zae w (.cells #[.int .i64 2,.int .i64 n,.string (mkB s),.slice a1 l.length cap1] 25))
 clear hR
 have HP:=yb (fun W=>zcj 2 n (mkB s) a1 l.length cap1 W _m1)
 rw [<-HR.out] at HP
 clear HR
 generalize l.length=m at *
 generalize mkB s=S at *
 go_enter Tryz.func78,Tryz.ntmps78
 go_wp2_with (go_at_call 120;refine (HP.out _).mono ?_;rintro e w1 ⟨rfl,hb1⟩)
 go_ret
 exact ⟨rfl,HB.out.trans (hb1.mono HB.out.size)⟩
theorem vown_k3 {n:Int} {s:List UInt8} {l:List PV} {a1:Option Addr} {cap1:Nat} {w:World} (_m1:(l.length:Int)<=9223372036854775807) :
  Calls Tryz.prog 78 #[.agg #[.int .i64 3,.int .i64 n,.string (mkB s),.slice a1 l.length cap1]] w fun e w'=>e=.returned (.int .i64 (zaD 3 n (za7 (mkB s) l.length)))/\Below w.heap.size w w':=by
 obtain ⟨R,hR⟩:∃R,R=(zaD 3 n (za7 (mkB s) l.length):Int):=⟨_,rfl⟩
 rw [<-hR]
 have HR:=yb hR
 have HB:=yb (zae w (.cells #[.int .i64 3,.int .i64 n,.string (mkB s),.slice a1 l.length cap1] 25))
 clear hR
 have HP:=yb (fun W=>zcj 3 n (mkB s) a1 l.length cap1 W _m1)
 rw [<-HR.out] at HP
 clear HR
 generalize l.length=m at *
 generalize mkB s=S at *
 go_enter Tryz.func78,Tryz.ntmps78
 go_wp2_with (go_at_call 120;refine (HP.out _).mono ?_;rintro e w1 ⟨rfl,hb1⟩)
 go_ret
 exact ⟨rfl,HB.out.trans (hb1.mono HB.out.size)⟩
theorem vown_k5 {n:Int} {s:List UInt8} {l:List PV} {a1:Option Addr} {cap1:Nat} {w:World} (_m1:(l.length:Int)<=9223372036854775807) :
  Calls Tryz.prog 78 #[.agg #[.int .i64 5,.int .i64 n,.string (mkB s),.slice a1 l.length cap1]] w fun e w'=>e=.returned (.int .i64 (if 127<s.length\/(0:UInt8)∈s then 17 else if n=0/\l=[] then 0 else 2))/\Below w.heap.size w w':=by
 obtain ⟨R,hR⟩:∃R,R=(if 127<s.length\/(0:UInt8)∈s then 17 else if n=0/\l=[] then 0 else 2:Int):=⟨_,rfl⟩
 rw [<-hR]
 have HR:=yb hR
 have HB:=yb (zae w (.cells #[.int .i64 5,.int .i64 n,.string (mkB s),.slice a1 l.length cap1] 25))
 clear hR
 have hsz:(mkB s).size=s.length:=zar s
 have HI:=yb (fun W=>zdd (mkB s) 0 W)
 rw [show bl (mkB s)=s from rfl,show (0:Int).toNat.toUInt8=0 from rfl] at HI
 have him:=idx_memS s 0
 generalize Lib.indexByte s 0=ix at *
 by_cases h127:127<s.length
 ·have hd1:decide (127<(mkB s).size)=true:=yd (by omega)
  have hd2:decide ((127:Int)<((mkB s).size:Int))=true:=yd (by omega)
  obtain rfl:R=17:=by rw [HR.out,yg (.inl h127)]
  clear HR HI him h127 hsz
  generalize mkB s=S at *
  generalize l.length=m at *
  go_enter Tryz.func78,Tryz.ntmps78
  go_wp2
  go_ret
  exact ⟨rfl,HB.out⟩
 have hd1:decide (127<(mkB s).size)=false:=ye (by omega)
 have hd2:decide ((127:Int)<((mkB s).size:Int))=false:=ye (by omega)
 by_cases hz:(0:UInt8)∈s
 ·rw [yd hz] at him
  obtain rfl:R=17:=by rw [HR.out,yg (.inr hz)]
  clear HR h127 hsz hz
  generalize mkB s=S at *
  generalize l.length=m at *
  go_enter Tryz.func78,Tryz.ntmps78
  go_wp2_with (go_at_call 121;refine (HI.out _).mono ?_;rintro e w1 ⟨rfl,rfl⟩)
  go_ret
  exact ⟨rfl,HB.out⟩
 rw [ye hz] at him
 have hr:=HR.out
 rw [yh (by rintro (h|h);exact h127 h;exact hz h)] at hr
 clear HR h127 hz hsz
 have HR:=yb hr
 clear hr
 by_cases hn0:n=0
 ·have en0:(n==0)=true:=by rw [beq_iff_eq];exact hn0
  have en0':(n != 0)=false:=by simp only [bne,en0,Bool.not_true]
  by_cases hm0:l=[]
  ·have em0:(l.length==0)=true:=by rw [hm0];rfl
   have em0':((l.length:Int)==0)=true:=by rw [hm0];rfl
   have hr:=HR.out
   obtain rfl:R=0:=by rw [hr];simp [hn0,hm0]
   clear HR hr hn0 hm0
   generalize l.length=m at *
   generalize mkB s=S at *
   go_enter Tryz.func78,Tryz.ntmps78
   go_wp2_with (go_at_call 121;refine (HI.out _).mono ?_;rintro e w1 ⟨rfl,rfl⟩)
   go_ret
   exact ⟨rfl,HB.out⟩
  ·have em0:(l.length==0)=false:=by rw [yf];exact fun e=>hm0 (List.eq_nil_of_length_eq_zero e)
   have em0':((l.length:Int)==0)=false:=by rw [yf];exact fun e=>hm0 (List.eq_nil_of_length_eq_zero (by omega))
   have hr:=HR.out
   obtain rfl:R=2:=by rw [hr];simp [hn0,hm0]
   clear HR hr hn0 hm0
   generalize l.length=m at *
   generalize mkB s=S at *
   go_enter Tryz.func78,Tryz.ntmps78
   go_wp2_with (go_at_call 121;refine (HI.out _).mono ?_;rintro e w1 ⟨rfl,rfl⟩)
   go_ret
   exact ⟨rfl,HB.out⟩
 ·have en0:(n==0)=false:=by rw [yf];exact hn0
  have en0':(n != 0)=true:=by simp only [bne,en0,yj]
  have hr:=HR.out
  obtain rfl:R=2:=by rw [hr];simp [hn0]
  clear HR hr hn0
  generalize l.length=m at *
  generalize mkB s=S at *
  go_enter Tryz.func78,Tryz.ntmps78
  go_wp2_with (go_at_call 121;refine (HI.out _).mono ?_;rintro e w1 ⟨rfl,rfl⟩)
  go_ret
  exact ⟨rfl,HB.out⟩
theorem vown_k7 {n:Int} {s:List UInt8} {l:List PV} {a1:Option Addr} {cap1:Nat} {w:World} (hv:IsV w anyF (.mk 7 n s l) (.slice a1 l.length cap1)) :
  Calls Tryz.prog 78 #[.agg #[.int .i64 7,.int .i64 n,.string (mkB s),.slice a1 l.length cap1]] w fun e w'=>e=.returned (.int .i64 (if n=0/\s=[] then zcN l else 2))/\Below w.heap.size w w':=by
 obtain ⟨R,hR⟩:∃R,R=(if n=0/\s=[] then zcN l else 2:Int):=⟨_,rfl⟩
 rw [<-hR]
 have HR:=yb hR
 have HB:=yb (zae w (.cells #[.int .i64 7,.int .i64 n,.string (mkB s),.slice a1 l.length cap1] 25))
 have HD:=yb (fun (W:World) (h:Below w.heap.size w W)=>vdict_any (hv.below h))
 clear hR hv
 simp only [pvA,PV.kind,PV.n,PV.s,PV.l] at HD
 generalize hdc:zcN l=dc at *
 clear hdc
 by_cases hn0:n=0
 ·have en0:(n==0)=true:=by rw [beq_iff_eq];exact hn0
  have en0':(n != 0)=false:=by simp only [bne,en0,Bool.not_true]
  by_cases hs0:s=[]
  ·have es0:(mkB s).toList=[]:=by rw [zag];exact hs0
   have es0b:((mkB s).toList==[])=true:=by rw [beq_iff_eq];exact es0
   have es0c:((mkB s).toList != [])=false:=by simp only [bne,es0b,Bool.not_true]
   have hr:=HR.out
   obtain rfl:R=dc:=by rw [hr];simp [hn0,hs0]
   clear HR hr hn0 hs0
   generalize l.length=m at *
   generalize mkB s=S at *
   go_enter Tryz.func78,Tryz.ntmps78
   go_wp2_with (go_at_call 122;refine (HD.out _ HB.out).mono ?_;rintro e w1 ⟨rfl,hb1⟩)
   go_ret
   first|exact ⟨rfl,HB.out⟩|exact ⟨rfl,HB.out.trans (hb1.mono HB.out.size)⟩
  ·have es0b:((mkB s).toList==[])=false:=by rw [yf,zag];exact hs0
   have es0c:((mkB s).toList != [])=true:=by simp only [bne,es0b,yj]
   have hr:=HR.out
   obtain rfl:R=2:=by rw [hr];simp [hn0,hs0]
   clear HR hr hn0 hs0
   generalize l.length=m at *
   generalize mkB s=S at *
   go_enter Tryz.func78,Tryz.ntmps78
   go_wp2_with (go_at_call 122;refine (HD.out _ HB.out).mono ?_;rintro e w1 ⟨rfl,hb1⟩)
   go_ret
   first|exact ⟨rfl,HB.out⟩|exact ⟨rfl,HB.out.trans (hb1.mono HB.out.size)⟩
 ·have en0:(n==0)=false:=by rw [yf];exact hn0
  have en0':(n != 0)=true:=by simp only [bne,en0,yj]
  have hr:=HR.out
  obtain rfl:R=2:=by rw [hr];simp [hn0]
  clear HR hr hn0
  generalize l.length=m at *
  generalize mkB s=S at *
  go_enter Tryz.func78,Tryz.ntmps78
  go_wp2_with (go_at_call 122;refine (HD.out _ HB.out).mono ?_;rintro e w1 ⟨rfl,hb1⟩)
  go_ret
  first|exact ⟨rfl,HB.out⟩|exact ⟨rfl,HB.out.trans (hb1.mono HB.out.size)⟩
theorem vown_kx {k n:Int} {S:ByteArray} {m:Nat} {a1:Option Addr} {cap1:Nat} {w:World} (hk:k≠0/\k≠1/\k≠2/\k≠3/\k≠4/\k≠5/\k≠6/\k≠7/\k≠8) :
  Calls Tryz.prog 78 #[.agg #[.int .i64 k,.int .i64 n,.string S,.slice a1 m cap1]] w fun e w'=>e=.returned (.int .i64 2)/\Below w.heap.size w w':=by
 obtain ⟨h0,h1,h2,h3,h4,h5,h6,h7,h8⟩:=hk
 have e0:(k==0)=false:=by rw [yf];exact h0
 have e1:(k==1)=false:=by rw [yf];exact h1
 have e2:(k==2)=false:=by rw [yf];exact h2
 have e3:(k==3)=false:=by rw [yf];exact h3
 have e4:(k==4)=false:=by rw [yf];exact h4
 have e5:(k==5)=false:=by rw [yf];exact h5
 have e6:(k==6)=false:=by rw [yf];exact h6
 have e7:(k==7)=false:=by rw [yf];exact h7
 have e8:(k==8)=false:=by rw [yf];exact h8
 have HB:=yb (zae w (.cells #[.int .i64 k,.int .i64 n,.string S,.slice a1 m cap1] 25))
 clear h0 h1 h2 h3 h4 h5 h6 h7 h8
 go_enter Tryz.func78,Tryz.ntmps78
 go_wp2
 go_ret
 exact ⟨rfl,HB.out⟩
theorem bare_mkB (s:List UInt8) (l:List PV):za7 (mkB s) l.length=decide (s=[]/\l=[]):=by
 show (decide (s=[])&&decide (l.length=0))=_
 cases s<;>cases l<;>simp
theorem zef {k n:Int} {s:List UInt8} {l:List PV}:zaD k n (za7 (mkB s) l.length)=if s=[]/\l=[] then zaD k n true else 2:=by
 rw [bare_mkB]
 by_cases h:s=[]/\l=[]
 ·rw [yg h,yd h]
 ·rw [yh h,ye h];unfold zaD;rw [yh (by simp)]
theorem vown_any {v:PV} {sl:Value} {w:World} (hv:IsV w anyF v sl) :
  Calls Tryz.prog 78 #[pvA v sl] w fun e w'=>e=.returned (.int .i64 (ownC v))/\Below w.heap.size w w':=by
 obtain ⟨a1,cap1,e1,g1,g2,-⟩:=hv.len
 subst e1
 have m1:(v.l.length:Int)<=9223372036854775807:=by unfold maxLen at g2;omega
 obtain ⟨k,n,s,l⟩:=v
 simp only [pvA,PV.kind,PV.n,PV.s,PV.l] at m1 g1 hv |-
 simp only [ownC]
 by_cases h0:k=0
 ·subst h0;rw [yg rfl];exact vown_k0 m1
 rw [yh h0]
 by_cases h1:k=1
 ·subst h1;rw [yg rfl];exact vown_k1 m1
 rw [yh h1]
 by_cases h2:k=2
 ·subst h2;rw [yg (.inl rfl),<-zef];exact vown_k2 m1
 by_cases h3:k=3
 ·subst h3;rw [yg (.inr rfl),<-zef];exact vown_k3 m1
 rw [yh (by omega)]
 by_cases h4:k=4
 ·subst h4;rw [yg rfl];exact vown_k4 m1
 rw [yh h4]
 by_cases h5:k=5
 ·subst h5;rw [yg rfl];exact vown_k5 m1
 rw [yh h5]
 by_cases h6:k=6
 ·subst h6;rw [yg rfl];exact vown_k6 m1
 rw [yh h6]
 by_cases h7:k=7
 ·subst h7
  rw [yg rfl]
  have e:(if n≠0\/s≠[]\/l.length % 2≠0 then 2 else if zcs l=false then 2 else if ascV (twoV l)=true then 0 else 16:Int)=if n=0/\s=[] then zcN l else 2:=by
   unfold zcN
   by_cases hn:n=0
   ·by_cases hs:s=[]
    ·by_cases hl:l.length % 2=0
     ·rw [yh (show ¬(n≠0\/s≠[]\/l.length % 2≠0) from by simp [hn,hs,hl]),yg (show n=0/\s=[] from ⟨hn,hs⟩),yh (show ¬l.length % 2≠0 from by simp [hl])]
     ·rw [yg (.inr (.inr hl)),yg (show n=0/\s=[] from ⟨hn,hs⟩),yg hl]
    ·rw [yg (.inr (.inl hs)),yh (fun h=>hs h.2)]
   ·rw [yg (.inl hn),yh (fun h=>hn h.1)]
  rw [e]
  exact vown_k7 hv
 rw [yh h7]
 by_cases h8:k=8
 ·subst h8;rw [yg rfl];exact vown_k8 m1
 rw [yh h8]
 exact vown_kx ⟨h0,h1,by omega,by omega,h4,h5,h6,h7,h8⟩
theorem ext_sg:∀(k:Nat),k<16->(⟨#[48,49,50,51,52,53,54,55,56,57,97,98,99,100,101,102]⟩:ByteArray).extract k (k+1)=mkB [hexG k]:=by
 have:∀d:Fin 16,(⟨#[48,49,50,51,52,53,54,55,56,57,97,98,99,100,101,102]⟩:ByteArray).extract d.1 (d.1+1)=mkB [hexG d.1]:=by decide
 exact fun k h=>this ⟨k,h⟩
theorem zaQ (a b:List UInt8):mkB a++mkB b=mkB (a++b):=ByteArray.mk_append_mk a b
theorem rhex13 (c:UInt8) (w:World):Calls Tryz.prog 80 #[.int .u8 c.toNat] w fun e w'=>e=.returned (.string (mkB (hexB c)))/\∃q,w'=w.drewN q:=by
 have hx:mkB (hexB c)=(⟨#[48,49,50,51,52,53,54,55,56,57,97,98,99,100,101,102]⟩:ByteArray).extract (c.toNat / 16) (c.toNat / 16+1)++(⟨#[48,49,50,51,52,53,54,55,56,57,97,98,99,100,101,102]⟩:ByteArray).extract (c.toNat % 16) (c.toNat % 16+1):=by
  have h:=c.toNat_lt
  rw [ext_sg _ (by omega),ext_sg _ (by omega),zaQ];rfl
 have hc:=c.toNat_lt
 generalize mkB (hexB c)=R at *
 have HX:=yb hx
 clear hx
 generalize c.toNat=n at *
 have h1:n / 16<16:=by omega
 have h2:n % 16<16:=by omega
 have h3:(n:Int) / 16<16:=by omega
 have h4:(n:Int) % 16<16:=by omega
 have h5:(0:Int)<=(n:Int) / 16:=by omega
 have h6:(0:Int)<=(n:Int) % 16:=by omega
 go_enter Tryz.func80,Tryz.ntmps80
 go_wp2
 go_quiet (fail)
 go_wp2
 go_ret
 exact ⟨by rw [HX.out];rfl,_,rfl⟩
def zdN (s:List UInt8):Bool:=!(decide (127<s.length)||decide ((0:UInt8)∈s))
theorem rtext11 (s:List UInt8) (w:World) (hl:s.length<=288230376151711744) :
  Calls Tryz.prog 81 #[.string (mkB s)] w fun e w'=>e=.returned (.bool (zdN s))/\w=w':=by
 have hsz:(mkB s).size=s.length:=zar s
 have hszi:((mkB s).size:Int)=s.length:=by rw [hsz]
 obtain ⟨R,hR⟩:∃R,R=zdN s:=⟨_,rfl⟩
 rw [<-hR]
 unfold zdN at hR
 have HR:=yb hR
 clear hR
 go_enter Tryz.func81,Tryz.ntmps81
 go_wp2
 go_loopw [3] (fun vk wr=>∃k:Nat,vk=.int .i64 k/\k<=s.length/\wr=w/\Hid ((0:UInt8)∉s.take k)) (fun vk _=>s.length-(intOf vk).toNat)
 case atStart=>exact ⟨0,rfl,Nat.zero_le _,rfl,yb (by simp)⟩
 case round =>
  obtain ⟨k,rfl,hk,hwr,HG⟩:=hrel
  rw [hwr]
  clear hwr
  by_cases q1:k<s.length
  case neg =>
   have hd1:decide (k<s.length)=false:=ye q1
   have hd2:decide ((k:Int)<(s.length:Int))=false:=ye (by omega)
   have hq2:¬(k:Int)<(s.length:Int):=by omega
   have hg:=HG.out
   rw [List.take_of_length_le (by omega)] at hg
   have hr:=HR.out
   rw [ye hg,Bool.or_false] at hr
   by_cases h127:127<s.length
   ·have b1:decide (s.length<=127)=false:=ye (by omega)
    have b2:decide ((s.length:Int)<=127)=false:=ye (by omega)
    rw [yd h127] at hr
    obtain rfl:R=false:=hr
    clear HR HG hg
    go_wp2
    go_ret
    exact ⟨rfl,rfl⟩
   ·have b1:decide (s.length<=127)=true:=yd (by omega)
    have b2:decide ((s.length:Int)<=127)=true:=yd (by omega)
    rw [ye h127] at hr
    obtain rfl:R=true:=hr
    clear HR HG hg
    go_wp2
    go_ret
    exact ⟨rfl,rfl⟩
  have hd1:decide (k<s.length)=true:=yd q1
  have hd2:decide ((k:Int)<(s.length:Int))=true:=yd (by omega)
  have hk0:(0:Int)<=(k:Int):=by omega
  have hk1:(k:Int)<(s.length:Int):=by omega
  have hk2:k<(mkB s).size:=by omega
  obtain ⟨c,hc⟩:∃c,c=s[k]'q1:=⟨_,rfl⟩
  have hcs:s[k]?=some c:=by rw [hc];exact List.getElem?_eq_getElem q1
  obtain ⟨n,hn⟩:∃n,n=c.toNat:=⟨_,rfl⟩
  have hat:((mkB s)[k]'hk2).toNat=n:=by rw [hn,hc];exact ze0 q1 hk2
  by_cases h0:n=0
  ·have b1:(n==0)=true:=by rw [h0];rfl
   have b2:((n:Int)==0)=true:=by rw [h0];rfl
   have hc0:c=0:=UInt8.toNat_inj.1 (by rw [<-hn,h0];rfl)
   have hr:=HR.out
   rw [yd (show (0:UInt8)∈s by rw [<-hc0];exact List.mem_of_getElem? hcs),Bool.or_true] at hr
   obtain rfl:R=false:=hr
   clear HR HG hc0 hcs hc hn h0
   go_wp2
   go_ret
   exact ⟨rfl,rfl⟩
  ·have b1:(n==0)=false:=by rw [yf];exact h0
   have b2:((n:Int)==0)=false:=by rw [yf];omega
   have HG2:=yb (show (0:UInt8)∉s.take (k+1) by
    rw [List.take_add_one,hcs]
    intro hm
    rcases List.mem_append.1 hm with hm|hm
    ·exact HG.out hm
    ·simp at hm
     exact h0 (by rw [hn,<-hm];rfl))
   clear HG hcs hc hn h0
   go_wp2
   go_roundw
   case rel=>exact ⟨k+1,by go_num,by omega,trivial,HG2⟩
   case measure=>simp [intOf];omega
theorem rdict_any {v:PV} {sl:Value} {w:World} (hv:IsV w anyF v sl) (hn:v.n=0) (hs:v.s=[]) :
  Calls Tryz.prog 133 #[pvA v sl] w fun e w'=>e=.returned (.int .i64 (zcN v.l))/\Below w.heap.size w w':=by
 obtain ⟨a1,cap1,e1,g1,g2,g3⟩:=hv.len
 subst e1
 have HA:=yb hv
 have m1:(v.l.length:Int)<=9223372036854775807:=by unfold maxLen at g2;omega
 unfold pvA
 clear hv g2 g3
 obtain ⟨la,hla⟩:∃la,la=v.l:=⟨_,rfl⟩
 have HLA:=yb hla
 rw [<-hla] at m1 g1 HA |-
 clear hla
 obtain ⟨R,hR⟩:∃R,R=zcN la:=⟨_,rfl⟩
 rw [<-hR]
 unfold zcN at hR
 have HR:=yb hR
 clear hR
 rw [hn,hs,show mkB []=⟨#[]⟩ from rfl]
 clear hn hs
 generalize v.kind=k0 at *
 go_enter Tryz.func133,Tryz.ntmps133
 obtain ⟨B,hB⟩:∃B,B=w.heap.size:=⟨_,rfl⟩
 have HX1:=yb (zab (w:=w) (b:=B) (.cells #[.int .i64 k0,.int .i64 0,.string ⟨#[]⟩,.slice a1 la.length cap1] 25) hB)
 have HW:=yb (zae w (.cells #[.int .i64 k0,.int .i64 0,.string ⟨#[]⟩,.slice a1 la.length cap1] 25))
 go_upto_region 1 with fail
 rw [<-hB]
 clear hB
 generalize w.alloc _=W1 at *
 obtain ⟨⟨c0,c1,c2,c3⟩,-⟩:=zah HX1.out
 by_cases he:la.length % 2=0
 case neg =>
  have he1:((la.length:Int) % 2==1)=true:=by rw [beq_iff_eq];omega
  have he2:((la.length:Int) % 2==0)=false:=by rw [yf];omega
  have he3:((la.length:Int) % 2 != 0)=true:=by simp only [bne,he2,yj]
  have hr:=HR.out
  rw [yg he] at hr
  subst hr
  clear HR HA he
  go_wp2
  go_ret
  exact ⟨rfl,HW.out⟩
 have he1:((la.length:Int) % 2==1)=false:=by rw [yf];omega
 have he2:((la.length:Int) % 2==0)=true:=by rw [beq_iff_eq];omega
 have he3:((la.length:Int) % 2 != 0)=false:=by simp only [bne,he2,Bool.not_true]
 have HE:=yb he
 have hr:=HR.out
 rw [yh (by omega)] at hr
 clear HR
 have HR:=yb hr
 clear hr he
 go_wp2
 clear he1 he2 he3
 go_loopw [3] (fun vk wr=>∃j K:Nat,vk=.int .i64 (K:Int)/\Hid (K=j*2)/\K<=la.length/\wr=W1/\Hid (∀i x,i<j->la[i*2]?=some x->x.kind=5)) (fun vk _=>la.length+2-(intOf vk).toNat)
 case atStart=>exact ⟨0,0,rfl,rfl,by omega,rfl,yb fun i x h=>absurd h (Nat.not_lt_zero _)⟩
 case round =>
  obtain ⟨j,k,rfl,HK,hj,hwr,HG⟩:=hrel
  rw [hwr]
  clear hwr
  have hke:k<la.length->k+2<=la.length:=fun h=>by have h1:=HK.out;have h2:=HE.out;omega
  by_cases q1:k<la.length
  case pos =>
   obtain ⟨x,hx⟩:∃x,la[k]?=some x:=⟨_,List.getElem?_eq_getElem q1⟩
   obtain ⟨-,-,-,b1,o1,rfl,-,-,hax⟩:=(HA.out.below HW.out).at (by omega)
   rw [<-HLA.out] at hax
   obtain ⟨sx,-,x0,-⟩:=hax k x hx
   have hkl:(0:Int)<=(k:Int):=by omega
   have hki:(k:Int)<(la.length:Int):=by omega
   have hd1:decide (k<la.length)=true:=yd q1
   have hd2:decide ((k:Int)<(la.length:Int))=true:=yd hki
   have hk2:=hke q1
   clear hke
   by_cases h5:x.kind=5
   ·rw [h5] at x0
    have HG2:=yb (show ∀i y,i<j+1->la[i*2]?=some y->y.kind=5 from fun i y hi hy=>by
     by_cases e:i=j
     ·subst e
      have h1:=HK.out
      rw [<-h1,hx] at hy
      cases hy
      exact h5
     ·exact HG.out i y (by omega) hy)
    clear hax hx h5 HG
    go_wp2
    go_roundw
    case rel=>exact ⟨j+1,k+2,by go_num,by have:=HK.out;show k+2=(j+1)*2;omega,hk2,trivial,HG2⟩
    case measure=>simp [intOf];omega
   ·have h51:(x.kind==5)=false:=by rw [yf];exact h5
    have h52:(x.kind != 5)=true:=by simp only [bne,h51,yj]
    have hev:zcs la=false:=by
     cases hq:zcs la with
     | false=>rfl
     | true=>exact absurd (zfb hq (k:=j) (by rw [<-HK.out];exact hx)) h5
    have hr:=HR.out
    rw [yg hev] at hr
    subst hr
    generalize x.kind=xk at *
    clear hax hx h5 HG HR HA hev HK HE
    go_wp2
    go_ret
    exact ⟨rfl,HW.out⟩
  have hd1:decide (k<la.length)=false:=ye q1
  have hd2:decide ((k:Int)<(la.length:Int))=false:=ye (by omega)
  have hq2:¬(k:Int)<(la.length:Int):=by omega
  have hev:zcs la=true:=zfC la fun i x hx=>HG.out i x (by
   have h1:=HK.out
   have h2:=(List.getElem?_eq_some_iff.1 hx).1
   omega) hx
  have hr:=HR.out
  rw [yh (by rw [hev];decide)] at hr
  clear HR
  have HR:=yb hr
  clear hr HK hj hke HG hev
  go_wp2
  clear hd1 hd2 hq2 q1
  clear c0 c1 c2 c3
  go_loopw [4] (fun vk wr=>∃j m K:Nat,vk=.int .i64 (K:Int)/\Hid (m=j*2)/\m+2=K/\m<=la.length/\Hid (Below W1.heap.size W1 wr)/\Hid (∀i x y,i<j->la[i*2]?=some x->la[i*2+2]?=some y->sLt x.s y.s=true)) (fun vk _=>la.length+4-(intOf vk).toNat)
  case atStart=>exact ⟨0,0,2,by go_num,rfl,rfl,by omega,Below.refl _ _,yb fun i x y h=>absurd h (Nat.not_lt_zero _)⟩
  case round =>
   obtain ⟨j,m,K,rfl,HK,hmK,hm2,HWR,HG⟩:=hrel
   have HW2:=yb (HW.out.trans (HWR.out.mono HW.out.size))
   obtain ⟨⟨c0,c1,c2,c3⟩,-⟩:=zah (zaa HWR.out HX1.out)
   by_cases q2:K<la.length
   case neg =>
    have hd0:decide (K<la.length)=false:=ye q2
    have hd1:decide ((K:Int)<(la.length:Int))=false:=ye (by omega)
    have hq2:¬(K:Int)<(la.length:Int):=by omega
    have has:ascV (twoV la)=true:=asc_ofS la fun i x y hx hy=>HG.out i x y (by
     have h1:=HK.out
     have h2:=(List.getElem?_eq_some_iff.1 hy).1
     omega) hx hy
    have hr:=HR.out
    rw [yg has] at hr
    subst hr
    clear HG HA HR has HK HE hmK
    go_wp2
    go_ret
    exact ⟨rfl,HW2.out⟩
   obtain ⟨x,hx⟩:∃x,la[m]?=some x:=⟨_,List.getElem?_eq_getElem (by omega)⟩
   obtain ⟨y,hy⟩:∃y,la[K]?=some y:=⟨_,List.getElem?_eq_getElem q2⟩
   have hK2:K+2<=la.length:=by have h1:=HK.out;have h2:=HE.out;omega
   obtain ⟨-,-,-,b1,o1,rfl,-,-,hax⟩:=(HA.out.below HW2.out).at (by omega)
   rw [<-HLA.out] at hax
   obtain ⟨sx,-,-,-,x2,-⟩:=hax m x hx
   obtain ⟨sy,-,-,-,y2,-⟩:=hax K y hy
   have l1:Op.bytesLess (mkB x.s).toList (mkB y.s).toList=sLt x.s y.s:=by rw [zag,zag,zbX]
   have l2:Op.bytesLess (mkB y.s).toList (mkB x.s).toList=sLt y.s x.s:=by rw [zag,zag,zbX]
   have l3:((mkB y.s).toList==(mkB x.s).toList)=decide (y.s=x.s):=by rw [zag x.s];exact eqBs _ _
   have l4:((mkB x.s).toList==(mkB y.s).toList)=decide (x.s=y.s):=by rw [zag y.s];exact eqBs _ _
   have u3:=zas.cell c3
   have e2:=zas.cell x2
   have r2:=zas.cell y2
   have hd0:decide (K<la.length)=true:=yd q2
   have hd1:decide ((K:Int)<(la.length:Int))=true:=yd (by omega)
   have hkl:(0:Int)<=(m:Int):=by omega
   have hki:(m:Int)<(la.length:Int):=by omega
   have hkl2:(0:Int)<=(K:Int):=by omega
   have hki2:(K:Int)<(la.length:Int):=by omega
   have hkm:(K:Int)-2=(m:Int):=by omega
   have hkw:IntKind.i64.wrap ((K:Int)-2)=(m:Int):=by rw [IntWalk.i64_in _ (by omega)];omega
   have hkw2:IntKind.i64.wrap (m:Int)=(m:Int):=IntWalk.i64_in _ (by omega)
   by_cases hlt:sLt x.s y.s=true
   ·rw [hlt] at l1
    rw [zfs _ _ hlt] at l2
    have hne:x.s≠y.s:=fun e=>by rw [e,zcO] at hlt;cases hlt
    rw [ye (fun e=>hne e.symm)] at l3
    rw [ye hne] at l4
    have HG2:=yb (show ∀i u z,i<j+1->la[i*2]?=some u->la[i*2+2]?=some z->sLt u.s z.s=true from fun i u z hi hu hz=>by
     by_cases e:i=j
     ·subst e
      have h1:=HK.out
      rw [<-h1,hx] at hu
      rw [<-h1,hmK,hy] at hz
      cases hu
      cases hz
      exact hlt
     ·exact HG.out i u z (by omega) hu hz)
    clear hax hx hy HG HA hlt x2 y2 hne HR
    generalize mkB x.s=sX at *
    generalize mkB y.s=sY at *
    have HMK:=yb hmK
    clear hmK
    go_wp2
    refine zaw (by kernel_rfl) (by kernel_rfl) ?_
    repeat (go_big_quiet_step (fail))
    refine wpQuiet_nil ?_
    rintro _ ⟨⟨w4,hb4⟩,rfl⟩
    have HW4:=yo HWR hb4
    clear u3 e2 r2 c0 c1 c2 c3 hb4 l1 l2 l3 l4
    go_wp2
    exact ⟨⟨j+1,K,K+2,by go_num,by have h1:=HK.out;have h2:=HMK.out;show K=(j+1)*2;omega,rfl,by omega,HW4,HG2⟩,by simp [intOf];omega⟩
   ·have hge:sLt x.s y.s=false:=by simpa using hlt
    rw [hge] at l1
    have has:ascV (twoV la)=false:=by
     cases hq:ascV (twoV la) with
     | false=>rfl
     | true=>exact absurd (asc_getS hq HE.out (k:=j) (by rw [<-HK.out];exact hx) (by rw [<-HK.out,hmK];exact hy)) hlt
    have hr:=HR.out
    rw [yh (by rw [has];decide)] at hr
    subst hr
    by_cases hgt:sLt y.s x.s=true
    ·rw [hgt] at l2
     have hne:x.s≠y.s:=fun e=>by rw [e,zcO] at hgt;cases hgt
     rw [ye (fun e=>hne e.symm)] at l3
     rw [ye hne] at l4
     clear hax hx hy HG HA hlt x2 y2 hne HR has hge hgt HK HE
     generalize mkB x.s=sX at *
     generalize mkB y.s=sY at *
     clear hmK
     go_wp2
     refine zaw (by kernel_rfl) (by kernel_rfl) ?_
     repeat (go_big_quiet_step (fail))
     refine wpQuiet_nil ?_
     rintro _ ⟨⟨w4,hb4⟩,rfl⟩
     have HW4:=yo HW2 hb4
     clear u3 e2 r2 c0 c1 c2 c3 hb4 l1 l2 l3 l4
     go_wp2
     go_ret
     exact ⟨rfl,HW4.out⟩
    ·have hgf:sLt y.s x.s=false:=by simpa using hgt
     rw [hgf] at l2
     have heq:x.s=y.s:=by
      by_cases e:x.s=y.s
      ·exact e
      ·exact absurd (zcn _ _ hge e) (by rw [hgf];decide)
     rw [yd heq.symm] at l3
     rw [yd heq] at l4
     clear hax hx hy HG HA hlt x2 y2 HR has hge hgt hgf HK HE heq
     generalize mkB x.s=sX at *
     generalize mkB y.s=sY at *
     clear hmK
     go_wp2
     refine zaw (by kernel_rfl) (by kernel_rfl) ?_
     repeat (go_big_quiet_step (fail))
     refine wpQuiet_nil ?_
     rintro _ ⟨⟨w4,hb4⟩,rfl⟩
     have HW4:=yo HW2 hb4
     clear u3 e2 r2 c0 c1 c2 c3 hb4 l1 l2 l3 l4
     go_wp2
     go_ret
     exact ⟨rfl,HW4.out⟩
mutual
def fewV:PV->Int->Int
 | .mk _ _ _ l,n=>fewL l (n-1)
def fewL:List PV->Int->Int
 | [],n=>n
 | x::l,n=>if n<0 then n else fewL l (fewV x n)
end
mutual
def nodeV:PV->Nat
 | .mk _ _ _ l=>1+ze7 l
def ze7:List PV->Nat
 | []=>0
 | x::l=>nodeV x+ze7 l
end
theorem zga (l:List PV) {n:Int} (h:n<0):fewL l n=n:=by cases l with
 | nil=>rfl
 | cons x l=>simp only [fewL];rw [yg h]
mutual
theorem zeq:∀(v:PV) (n:Int),0<=n->-1<=fewV v n/\fewV v n<=n/\(0<=fewV v n->fewV v n=n-nodeV v)
 | .mk k m s l,n,h=>by
  simp only [fewV,nodeV]
  by_cases h1:n-1<0
  ·rw [zga l h1];omega
  ·have:=fewL_bd l (n-1) (by omega)
   omega
theorem fewL_bd:∀(l:List PV) (n:Int),0<=n->-1<=fewL l n/\fewL l n<=n/\(0<=fewL l n->fewL l n=n-ze7 l)
 | [],n,h=>by simp only [fewL,ze7];omega
 | x::l,n,h=>by
  simp only [fewL,ze7]
  rw [yh (by omega)]
  have h1:=zeq x n h
  by_cases h2:fewV x n<0
  ·rw [zga l h2];omega
  ·have:=fewL_bd l (fewV x n) (by omega)
   omega
end
theorem fewV_is (v:PV) (n:Int):fewV v n=fewL v.l (n-1):=by obtain ⟨_,_,_,_⟩:=v;rfl
theorem few_any:∀(N:Nat) (v:PV) (sl:Value) (w:World) (n:Int),SizeOf.sizeOf v<=N->0<=n->n<=1000->IsV w anyF v sl ->
  Calls Tryz.prog 19 #[pvA v sl,.int .i64 n] w fun e w'=>e=.returned (.int .i64 (fewV v n))/\Below w.heap.size w w':=by
 intro N
 induction N with
 | zero=>intro v sl w n h;obtain ⟨_,_,_,_⟩:=v;simp at h
 | succ N ih =>
 intro v sl w n hN h0 h1 hv
 obtain ⟨a1,cap1,e1,g1,g2,g3⟩:=hv.len
 subst e1
 have HA:=yb hv
 have HIH:=yb ih
 have HN:=yb hN
 have HSA:=yb (fun (k:Nat) (x:PV) (h:v.l[k]?=some x)=>zbh h)
 have m1:(v.l.length:Int)<=9223372036854775807:=by unfold maxLen at g2;omega
 obtain ⟨R,hR⟩:∃R,R=fewV v n:=⟨_,rfl⟩
 rw [<-hR]
 rw [fewV_is] at hR
 unfold pvA
 clear ih hN hv g2 g3
 obtain ⟨la,hla⟩:∃la,la=v.l:=⟨_,rfl⟩
 have HLA:=yb hla
 rw [<-hla] at hR HA HSA m1 g1 |-
 clear hla
 have HR:=yb hR
 clear hR
 generalize v.kind=k0 at *
 generalize v.n=n0 at *
 generalize mkB v.s=s0 at *
 have hw0:IntKind.i64.wrap (n-1)=n-1:=IntWalk.i64_in _ (by omega)
 go_enter Tryz.func19,Tryz.ntmps19
 obtain ⟨B,hB⟩:∃B,B=w.heap.size:=⟨_,rfl⟩
 have HX1:=yb (zab (w:=w) (b:=B) (.cells #[.int .i64 k0,.int .i64 n0,.string s0,.slice a1 la.length cap1] 25) hB)
 have HW:=yb (zae w (.cells #[.int .i64 k0,.int .i64 n0,.string s0,.slice a1 la.length cap1] 25))
 go_upto_region 1 with fail
 rw [<-hB]
 clear hB
 generalize w.alloc _=W1 at *
 go_wp2
 go_loopw [1,5] (fun vm vk wr=>∃(k:Nat) (m:Int),vk=.int .i64 k/\vm=.int .i64 m/\-1<=m/\m<=1000/\k<=la.length/\Hid (Below W1.heap.size W1 wr)/\Hid (R=fewL (la.drop k) m)) (fun _ vk _=>la.length-(intOf vk).toNat)
 case atStart=>exact ⟨0,n-1,rfl,rfl,by omega,by omega,Nat.zero_le _,Below.refl _ _,HR⟩
 case round =>
  obtain ⟨k,m,rfl,rfl,hm0,hm1,hk,HWR1,HV⟩:=hrel
  have HWR:=yb (HW.out.trans (HWR1.out.mono HW.out.size))
  obtain ⟨⟨c0,c1,c2,c3⟩,-⟩:=zah (zaa HWR1.out HX1.out)
  by_cases q1:k<la.length
  case neg =>
   have hkl:k=la.length:=by omega
   subst hkl
   have hv:=HV.out
   rw [List.drop_length] at hv
   obtain rfl:R=m:=hv
   have hd1:decide (la.length<la.length)=false:=by simp
   clear HV HA HIH HN HSA HR
   go_wp2
   go_ret
   exact ⟨rfl,HWR.out⟩
  have hd1:decide (k<la.length)=true:=yd q1
  have hd2:decide ((k:Int)<(la.length:Int))=true:=yd (by omega)
  by_cases q2:0<=m
  case neg =>
   have hd3:decide (0<=m)=false:=ye q2
   have hv:=HV.out
   rw [zga _ (by omega)] at hv
   obtain rfl:R=m:=hv
   clear HV HA HIH HN HSA HR
   go_wp2
   go_ret
   exact ⟨rfl,HWR.out⟩
  have hd3:decide (0<=m)=true:=yd q2
  obtain ⟨x,hx⟩:∃x,la[k]?=some x:=⟨_,List.getElem?_eq_getElem q1⟩
  obtain ⟨-,-,-,b1,o1,rfl,-,-,hax⟩:=(HA.out.below HWR.out).at (by omega)
  rw [<-HLA.out] at hax
  obtain ⟨sx,hsx,x0,x1,x2,x3⟩:=hax k x hx
  have hlt:SizeOf.sizeOf x<SizeOf.sizeOf v:=HSA.out k x hx
  have hN:=HN.out
  have hfb:=zeq x m q2
  have hv:R=fewL (la.drop (k+1)) (fewV x m):=by
   rw [HV.out,List.drop_eq_getElem_cons q1]
   have he:la[k]=x:=by rw [List.getElem?_eq_getElem q1] at hx;exact Option.some.inj hx
   rw [he]
   simp only [fewL]
   rw [yh (by omega)]
  have HV2:=yb hv
  obtain ⟨sa',sc',rfl,-,-,-⟩:=hsx.len
  have HCALL:=yb (HIH.out x _ wr m (by omega) q2 hm1 hsx)
  simp only [pvA] at HCALL
  have hb1:-1<=fewV x m:=hfb.1
  have hb2:fewV x m<=1000:=by omega
  clear hv hsx hlt hN hax hx HA HIH HV HSA HLA HN hfb HR
  generalize fewV x m=m2 at *
  have hkl:(0:Int)<=(k:Int):=by omega
  have hki:(k:Int)<(la.length:Int):=by omega
  generalize x.kind=xk at *
  generalize x.n=xn at *
  generalize mkB x.s=xs at *
  generalize x.l.length=xl at *
  go_wp2_with fail
  refine HCALL.out.mono ?_
  rintro e w5 ⟨rfl,hb5⟩
  have HW5:=yo HWR1 hb5
  clear hb5 x0 x1 x2 x3 HCALL c0 c1 c2 c3
  go_wp2
  go_roundw
  case rel=>exact ⟨k+1,m2,by go_num,rfl,hb1,hb2,by omega,HW5,HV2⟩
  case measure=>simp [intOf];omega
end Go.Proofs.YtcmoehknppjkiaaGreatDoor
namespace Go.Proofs.YtcmoehknppjkiaaGreatDoor
theorem zcF (k n:Int) (b:Bool):(zaV k n b).1.length<=40:=by
 by_cases h:zaD k n b=0
 ·obtain ⟨-,hc⟩:=zcy h
  unfold zaV
  rw [yg h]
  show (zbF n++absL k n.natAbs).length<=40
  have h1:(zbF n).length<=1:=by unfold zbF;split<;>simp
  have h2:(absL k n.natAbs).length<=30:=by
   unfold absL
   split
   ·have:=zaM 19 n.natAbs (by omega);omega
   ·have h3:=zaM 19 (n.natAbs / 1000000) (by omega)
    have h4:=(mil_trimF (n.natAbs % 1000000) (by omega)).2.2.2
    rw [List.length_append,List.length_cons];omega
  rw [List.length_append];omega
 ·unfold zaV
  rw [yh h]
  simp
mutual
theorem zeW:∀v:PV,zaT v<=nodeV v
 | .mk k n s l=>by
  have:=zd9 l
  simp only [zaT,nodeV]
  split<;>omega
theorem zd9:∀l:List PV,zbo l<=ze7 l
 | []=>by simp [zbo,ze7]
 | x::l=>by
  have h1:=zeW x
  have h2:=zd9 l
  simp only [zbo,ze7]
  omega
end
end Go.Proofs.YtcmoehknppjkiaaGreatDoor
namespace Go.Proofs.YtcmoehknppjkiaaGreatDoor
open Go.RowKit
theorem nameC_is (s:List UInt8) (x:Int):(if 127<s.length\/(0:UInt8)∈s then 17 else x)=if zdN s=false then 17 else x:=by
 unfold zdN
 by_cases h1:127<s.length
 ·rw [yg (.inl h1)];simp [h1]
 ·by_cases h2:(0:UInt8)∈s
  ·rw [yg (.inr h2)];simp [h2]
  ·rw [yh (by rintro (h|h);exact h1 h;exact h2 h)];simp [h1,h2]
theorem zfu (v:PV) (sl:Value) (w:World):Calls Tryz.prog 98 #[pvA v sl] w fun e w'=>e=.returned (.bool (v.kind==6||v.kind==7))/\Below w.heap.size w w':=by
 unfold pvA
 generalize v.kind=k at *
 by_cases h:k=6
 ·subst h
  go_enter Tryz.func98,Tryz.ntmps98
  go_wp2
  go_ret
  exact ⟨rfl,zae w _⟩
 ·have h1:(k==6)=false:=by rw [yf];exact h
  rw [h1,Bool.false_or]
  clear h
  go_enter Tryz.func98,Tryz.ntmps98
  go_wp2
  go_ret
  exact ⟨rfl,zae w _⟩
theorem rdepth_any:∀(N:Nat) (v:PV) (sl:Value) (w:World),SizeOf.sizeOf v<=N->zaT v<=1000->IsV w anyF v sl ->
  Calls Tryz.prog 56 #[pvA v sl] w fun e w'=>e=.returned (.int .i64 (zaT v:Nat))/\Below w.heap.size w w':=by
 intro N
 induction N with
 | zero=>intro v sl w h;obtain ⟨_,_,_,_⟩:=v;simp at h
 | succ N ih =>
 intro v sl w hN hd hv
 obtain ⟨a1,cap1,e1,g1,g2,g3⟩:=hv.len
 subst e1
 have HA:=yb hv
 have HIH:=yb ih
 have HN:=yb hN
 have HSA:=yb (fun (k:Nat) (x:PV) (h:v.l[k]?=some x)=>zbh h)
 have HD:=yb hd
 have m1:(v.l.length:Int)<=9223372036854775807:=by unfold maxLen at g2;omega
 have HH:=yb (fun W=>zfu v (.slice a1 v.l.length cap1) W)
 have hdv:zaT v=if v.kind=6\/v.kind=7 then 1+zbo v.l else 1:=by obtain ⟨_,_,_,_⟩:=v;rfl
 have HDM:=yb (fun (h:v.kind=6\/v.kind=7) (k:Nat) (x:PV) (hx:v.l[k]?=some x)=>show zaT x+1<=zaT v by rw [zc5 v,yg h];have:=zcT _ _ hx;omega)
 unfold pvA at HH |-
 clear ih hN hd hv
 by_cases hk:v.kind=6\/v.kind=7
 case neg =>
  rw [yh hk] at hdv
  have hb:(v.kind==6||v.kind==7)=false:=by
   simp only [Bool.or_eq_false_iff,yf];omega
  rw [hb] at HH
  rw [hdv]
  clear hk hb hdv HA HIH HDM HD HN HSA
  generalize v.kind=k0 at *
  generalize v.n=n0 at *
  generalize mkB v.s=s0 at *
  generalize v.l.length=l0 at *
  go_enter Tryz.func56,Tryz.ntmps56
  go_wp2_with (go_at_call 98;refine (HH.out _).mono ?_;rintro e w1 ⟨rfl,hb1⟩)
  go_ret
  exact ⟨rfl,(zae w _).trans (hb1.mono (by rw [zaq];omega))⟩
 rw [yg hk] at hdv
 have hb:(v.kind==6||v.kind==7)=true:=by
  rcases hk with h|h<;>rw [h]<;>rfl
 rw [hb] at HH
 have HDV:=yb hdv
 have HDL:=yb (show zbo v.l<=999 by have:=HD.out;omega)
 have HDM2:=yb (fun (k:Nat) (x:PV) (hx:v.l[k]?=some x)=>HDM.out hk k x hx)
 clear hk hb hdv HDM
 obtain ⟨la,hla⟩:∃la,la=v.l:=⟨_,rfl⟩
 have HLA:=yb hla
 rw [<-hla] at HH HDV HDL HDM2 HA m1 g1 |-
 clear hla
 generalize v.kind=k0 at *
 generalize v.n=n0 at *
 generalize v.s=s0 at *
 go_enter Tryz.func56,Tryz.ntmps56
 obtain ⟨B,hB⟩:∃B,B=w.heap.size:=⟨_,rfl⟩
 have HX1:=yb (zab (w:=w) (b:=B) (.cells #[.int .i64 k0,.int .i64 n0,.string (mkB s0),.slice a1 la.length cap1] 25) hB)
 have HW:=yb (zae w (.cells #[.int .i64 k0,.int .i64 n0,.string (mkB s0),.slice a1 la.length cap1] 25))
 have HBB:=yb hB
 go_wp2_with (go_at_call 98;refine (HH.out _).mono ?_;rintro e w1 ⟨rfl,hb1⟩)
 rw [<-hB]
 have HX2:=yb (zaa hb1 HX1.out)
 have HW1:=yo HW hb1
 clear hb1 HX1 HW hB
 go_loopw [3,4] (fun vn vk wr=>∃(k n:Nat),vk=.int .i64 k/\vn=.int .i64 n/\n<=1000/\k<=la.length/\Hid (Below w.heap.size w wr)/\Hid (Below w1.heap.size w1 wr)/\Hid (n=1+zbo (la.take k))) (fun _ vk _=>la.length-(intOf vk).toNat)
 case atStart=>exact ⟨0,1,rfl,rfl,by omega,Nat.zero_le _,HW1,Below.refl _ _,rfl⟩
 case round =>
  obtain ⟨k,n,rfl,rfl,hn,hk,HWR,HWR1,HV⟩:=hrel
  obtain ⟨⟨c0,c1,c2,c3⟩,-⟩:=zah (zaa HWR1.out HX2.out)
  by_cases q1:k<la.length
  case neg =>
   have hkl:k=la.length:=by omega
   subst hkl
   have hv:=HV.out
   rw [List.take_length] at hv
   have hv2:=HDV.out.trans hv.symm
   have HV9:=yb hv2
   clear hv hv2 HDV HV HDL HA HIH HDM2
   go_wp2
   go_ret
   exact ⟨by rw [HV9.out];rfl,HWR.out⟩
  obtain ⟨x,hx⟩:∃x,la[k]?=some x:=⟨_,List.getElem?_eq_getElem q1⟩
  obtain ⟨-,-,-,b1,o1,rfl,-,-,hax⟩:=(HA.out.below HWR.out).at (by omega)
  rw [<-HLA.out] at hax
  obtain ⟨sx,hsx,x0,x1,x2,x3⟩:=hax k x hx
  have hlt:SizeOf.sizeOf x<SizeOf.sizeOf v:=HSA.out k x (by rw [<-HLA.out];exact hx)
  have hN:=HN.out
  have hdx:=HDM2.out k x hx
  have hcall:=HIH.out x sx wr (by omega) (by have:=HD.out;omega) hsx
  have hv:max n (zaT x+1)=1+zbo (la.take (k+1)):=by rw [zd8 hx];have:=HV.out;omega
  have HV2:=yb hv
  have hdx2:zaT x<=999:=by have:=HD.out;omega
  unfold pvA at hcall
  obtain ⟨sa',sc',rfl,-,-,-⟩:=hsx.len
  generalize zaT x=d at *
  have HCALL:=yb hcall
  clear hcall hv hsx hlt hN hax hx HA HIH HV HSA HLA HN HDV HDM2 HD hdx
  have hkl:(0:Int)<=(k:Int):=by omega
  have hki:(k:Int)<(la.length:Int):=by omega
  go_wp2_with fail
  refine HCALL.out.mono ?_
  rintro e w4 ⟨rfl,hb4⟩
  have HW4:=yo HWR hb4
  have HW5:=yo HWR1 hb4
  clear hb4 x0 x1 x2 x3 c0 c1 c2 c3 HCALL
  by_cases hc:n<d+1
  ·have hm:max n (d+1)=d+1:=by omega
   rw [hm] at HV2
   have hd1:decide ((n:Int)<(d:Int)+1)=true:=yd (by omega)
   go_wp2
   go_roundw
   case rel=>exact ⟨k+1,d+1,by go_num,by go_num,by omega,by omega,HW4,HW5,HV2⟩
   case measure=>simp [intOf];omega
  ·have hm:max n (d+1)=n:=by omega
   rw [hm] at HV2
   have hd1:decide ((n:Int)<(d:Int)+1)=false:=ye (by omega)
   go_wp2
   go_roundw
   case rel=>exact ⟨k+1,n,by go_num,rfl,by omega,by omega,HW4,HW5,HV2⟩
   case measure=>simp [intOf];omega
theorem rdict_bad {n:Int} {s:List UInt8} {a1:Option Addr} {m cap1:Nat} {w:World} (h:n≠0\/s≠[]) :
  Calls Tryz.prog 133 #[.agg #[.int .i64 7,.int .i64 n,.string (mkB s),.slice a1 m cap1]] w fun e w'=>e=.returned (.int .i64 2)/\Below w.heap.size w w':=by
 have HB:=yb (zae w (.cells #[.int .i64 7,.int .i64 n,.string (mkB s),.slice a1 m cap1] 25))
 by_cases hn0:n=0
 ·have en0:(n==0)=true:=by rw [beq_iff_eq];exact hn0
  have en0':(n != 0)=false:=by simp only [bne,en0,Bool.not_true]
  have hs0:s≠[]:=by rcases h with h|h;exact absurd hn0 h;exact h
  have es0b:((mkB s).toList==[])=false:=by rw [yf,zag];exact hs0
  have es0c:((mkB s).toList != [])=true:=by simp only [bne,es0b,yj]
  clear hn0 h hs0
  generalize mkB s=S at *
  go_enter Tryz.func133,Tryz.ntmps133
  go_wp2
  go_ret
  exact ⟨rfl,HB.out⟩
 ·have en0:(n==0)=false:=by rw [yf];exact hn0
  have en0':(n != 0)=true:=by simp only [bne,en0,yj]
  clear hn0 h
  generalize mkB s=S at *
  go_enter Tryz.func133,Tryz.ntmps133
  go_wp2
  go_ret
  exact ⟨rfl,HB.out⟩
theorem rdictA {n:Int} {s:List UInt8} {l:List PV} {a1:Option Addr} {cap1:Nat} {w:World} (hv:IsV w anyF (.mk 7 n s l) (.slice a1 l.length cap1)) :
  Calls Tryz.prog 133 #[pvA (.mk 7 n s l) (.slice a1 l.length cap1)] w fun e w'=>e=.returned (.int .i64 (if n=0/\s=[] then zcN l else 2))/\Below w.heap.size w w':=by
 by_cases h:n=0/\s=[]
 ·rw [yg h]
  exact rdict_any hv h.1 h.2
 ·rw [yh h]
  exact rdict_bad (by by_cases hn:n=0;exact .inr fun e=>h ⟨hn,e⟩;exact .inl hn)
end Go.Proofs.YtcmoehknppjkiaaGreatDoor
