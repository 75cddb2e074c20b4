/-
  Our texts QSym5 to Dv1, in one.
-/
import Derived.Test.YtkhcjoomijkfbaaGreatDoorPkB9
import Derived.Test.YtkhcjoomijkfbaaGreatDoorProg
import Derived.BigQuiet
import Derived.Deep.QuietTactic
import Derived.Maps.AppendAt
set_option maxRecDepth 8000
set_option maxHeartbeats 8000000
namespace Go.Proofs.YtkhcjoomijkfbaaGreatDoor
open Go.RowKit Go.Sort
theorem sym_loQ {α:Type} [Inhabited α] (enc:α→Value) (hE:∀x,∃a n c,enc x=.slice a n c) (cf:α→α→Int) (lt:α→α→Bool) (D:α→Prop) (f:FuncId) (cb:Array Value) (g cap:Nat) (rest:List Value) (n:Nat) (w0:World)
   (hC:CmpQ Tryz.prog f cb enc cf D w0 g) (hsz:n<4611686018427387904) (a m b mid s0 r0:Nat) (d:Array α) (w:World) (hdn:d.size=n) (hS:SB enc w0 g 46 rest d w) (hD:∀i,i<d.size→D d[i]!) (ham:a+1<m) (hmb:m+1<b) (hb:b≤n) (hA:zdE (ltOf cf) lt d a m b)
   (hmid:mid=(a+b) / 2) (hcase:m≤mid) (hs0:s0=a) (hr0:r0=m) (hfin:zgl enc lt f cb g cap rest n w0 a m b mid s0 r0 d) :
   Calls Tryz.prog 239 #[.slice (some ⟨g,0,none⟩) n cap,.int .i64 a,.int .i64 m,.int .i64 b,.func (.func f) #[] cb] w fun e w'=>zdm enc lt g a b rest d w0 e w':=by
 have hne1:((m:Int)-(a:Int)==1)=false:=by rw [beq_eq_false_iff_ne];omega
 have hne2:((b:Int)-(m:Int)==1)=false:=by rw [beq_eq_false_iff_ne];omega
 have hmid1:((a:Int)+(b:Int)) / 2=(mid:Int):=by omega
 have hma:a<mid:=by omega
 have hmB:mid<b:=by omega
 have hsr:s0≤r0:=by omega
 have hs0a:a≤s0:=by omega
 have hr0m:r0≤m:=by omega
 have hr0d:r0≤mid:=by omega
 have hs0b:mid+m-s0≤b:=by omega
 have hend0:s0=a∨mid+m-s0=b:=by omega
 have hend1:r0=m∨r0=mid:=by omega
 have eg:=hC.enters
 have HC:=Lib.hid hC
 have HS:=Lib.hid hS
 have HD:=Lib.hid hD
 have HA:=Lib.hid hA
 have HS0:=Lib.hid hs0
 have HR0:=Lib.hid hr0
 have FIN:=Lib.hid hfin
 clear hC hS hD hA hs0 hr0 hmid hfin
 go_enter Tryz.func239,Tryz.ntmps239
 go_wp2
 go_loopw [20,21] (fun vs vr wr=>∃(s r:Nat),vs=.int .i64 s∧vr=.int .i64 r∧s0≤s∧s≤r∧r≤r0∧Hid (SB enc w0 g 46 rest d wr)∧Hid (s0<s→lt d[mid+m-s]! d[s-1]! = false)∧Hid (r<r0→lt d[mid+m-r-1]! d[r]! = true)) (fun vs vr _=>(intOf vr).toNat-(intOf vs).toNat)
 case atStart=>exact ⟨s0,r0,by have:=HS0.out;go_num,by have:=HR0.out;go_num,Nat.le_refl _,hsr,Nat.le_refl _,HS,Lib.hid (fun h=>absurd h (Nat.lt_irrefl _)),Lib.hid (fun h=>absurd h (Nat.lt_irrefl _))⟩
 case round =>
   obtain ⟨s,r,rfl,rfl,h3,h4,h5,HSk,HLo,HHi⟩:=hrel
   clear HS
   by_cases hlt:s<r
   · obtain ⟨c,hc⟩:∃c,c=(s+r) / 2:=⟨_,rfl⟩
     have hc1:=HSk.out.cell (mid+m-1-c) (by omega)
     have hc2:=HSk.out.cell c (by omega)
     have hcall:=fun q=>HC.out.calls (wr.drewN q) (HSk.out.drewN q).grown d[mid+m-1-c]! d[c]! (HD.out (mid+m-1-c) (by omega)) (HD.out c (by omega))
     have hag:=HA.out c (mid+m-1-c) (by omega) (by omega) (by omega) (by omega)
     obtain ⟨X,hX⟩:∃X,X=d[mid+m-1-c]! := ⟨_,rfl⟩
     obtain ⟨Y,hY⟩:∃Y,Y=d[c]! := ⟨_,rfl⟩
     rw [←hX] at hc1 hcall hag
     rw [←hY] at hc2 hcall hag
     have HX:=Lib.hid hX
     have HY:=Lib.hid hY
     obtain ⟨x,xn,xc,hx⟩:=hE X
     obtain ⟨y,yn,yc,hy⟩:=hE Y
     rw [hx] at hc1 hcall
     rw [hy] at hc2 hcall
     have HCALL:=Lib.hid hcall
     have HAG:=Lib.hid hag
     clear hcall hx hy hX hY hag
     have hh1:((s:Int)+(r:Int)) / 2=(c:Int):=by omega
     have hidx:((mid:Int)+(m:Int)-1-(c:Int)).toNat=mid+m-1-c:=by omega
     have hi0:0≤(mid:Int)+(m:Int)-1-(c:Int):=by omega
     have hi1:(mid:Int)+(m:Int)-1-(c:Int)<(n:Int):=by omega
     have hcn:(c:Int)<(n:Int):=by omega
     have hhi:s≤c:=by omega
     have hhj:c<r:=by omega
     clear hc
     by_cases hcf:cf X Y<0
     · have hl : lt X Y = true := by rw [← HAG.out]; simpa [ltOf] using hcf
       have HL:=Lib.hid hl
       have hcf2:cf X Y<0:=hcf
       have hcfB:decide (cf X Y<0)=true:=by rw [decide_eq_true_iff];exact hcf
       clear hl hcf
       go_wp2_with fail
       go_quiet ((refine Calls.quiet_of (HCALL.out _)))
       go_wp2
       go_roundw
       case rel=>exact ⟨s,c,rfl,rfl,h3,hhi,by omega,Lib.hid (HSk.out.drewN _),HLo,Lib.hid (fun _=>by rw [show mid+m-c-1=mid+m-1-c from by omega,←HX.out,←HY.out];exact HL.out)⟩
       case measure=>simp [intOf];omega
     · have hl : lt X Y = false := by rw [← HAG.out]; simpa [ltOf] using hcf
       have HL:=Lib.hid hl
       have hcf2:0≤cf X Y:=by omega
       have hcfB:decide (cf X Y<0)=false:=by rw [decide_eq_false_iff_not];omega
       clear hl hcf
       go_wp2_with fail
       go_quiet ((refine Calls.quiet_of (HCALL.out _)))
       go_wp2
       go_roundw
       case rel=>exact ⟨c+1,r,by go_num,rfl,by omega,by omega,h5,Lib.hid (HSk.out.drewN _),Lib.hid (fun _=>by rw [show mid+m-(c+1)=mid+m-1-c from by omega,Nat.add_sub_cancel,←HX.out,←HY.out];exact HL.out),HHi⟩
       case measure=>simp [intOf];omega
   · obtain rfl : s = r := by omega
     obtain ⟨e,he,hme,heb,hde,hsum,FROT,FS1,FS2,FK1,FK2,FD⟩:=FIN.out s wr h3 h5 HSk.out HLo.out HHi.out
     have he1:(mid:Int)+(m:Int)-(s:Int)=(e:Int):=by omega
     replace FROT:=Lib.hid FROT
     replace FS1:=Lib.hid FS1
     replace FS2:=Lib.hid FS2
     replace FK1:=Lib.hid FK1
     replace FK2:=Lib.hid FK2
     replace FD:=Lib.hid FD
     clear he
     by_cases hA1:s<m
     · by_cases hB1:m<e
       · by_cases hC1:a<s
         · by_cases hE1:e<b
           · have hq0 : (s : Int) < (mid : Int) := by omega
             have hq1:(mid:Int)<(e:Int):=by omega
             have HROT:=Lib.hid (FROT.out (by omega) (by omega))
             go_wp2_with fail
             (with_reducible refine HROT.out.mono ?_)
             rintro e1 w2 ⟨rfl,R,hRs,hRB,hRk,hRp⟩
             have HB2:=Lib.hid hRB
             have HRK:=Lib.hid hRk
             have HRP:=Lib.hid hRp
             clear hRB hRk hRp
             have hs1:=FS1.out R w2 hRs HB2.out HRK.out HRP.out (by omega) (by omega)
             have HS1C:=Lib.hid hs1
             clear hs1
             go_wp2_with fail
             (with_reducible refine HS1C.out.mono ?_)
             rintro e2 w3 ⟨rfl,R1,hR1s',hR1B,hR1p,hR1o⟩
             have hR1s:R1.size=n:=hR1s'.trans hRs
             have HB3:=Lib.hid hR1B
             have HP1:=Lib.hid hR1p
             have HO1:=Lib.hid hR1o
             clear hR1s' hR1B hR1p hR1o
             have hs2:=FS2.out R R1 w3 hRs hR1s HB3.out HRK.out HRP.out HP1.out (by omega) (by omega)
             have HS2C:=Lib.hid hs2
             clear hs2
             go_wp2_with fail
             (with_reducible refine HS2C.out.mono ?_)
             rintro e3 w4 ⟨rfl,R2,hR2s',hR2B,hR2p,hR2o⟩
             have hR2s:R2.size=n:=hR2s'.trans hR1s
             have HB4:=Lib.hid hR2B
             have HP2:=Lib.hid hR2p
             have HO2:=Lib.hid hR2o
             clear hR2s' hR2B hR2p hR2o
             go_wp2
             all_goals go_end0
             all_goals exact ⟨rfl,R2,hR2s.trans hdn.symm,HB4.out,FD.out R R1 R2 hRs HRK.out HRP.out HP1.out HO1.out HP2.out HO2.out⟩
           · have hq0 : (s : Int) < (mid : Int) := by omega
             have hq1:(mid:Int)<(e:Int):=by omega
             have hq2:(b:Int)≤(e:Int):=by omega
             have HROT:=Lib.hid (FROT.out (by omega) (by omega))
             go_wp2_with fail
             (with_reducible refine HROT.out.mono ?_)
             rintro e1 w2 ⟨rfl,R,hRs,hRB,hRk,hRp⟩
             have HB2:=Lib.hid hRB
             have HRK:=Lib.hid hRk
             have HRP:=Lib.hid hRp
             clear hRB hRk hRp
             have hs1:=FS1.out R w2 hRs HB2.out HRK.out HRP.out (by omega) (by omega)
             have HS1C:=Lib.hid hs1
             clear hs1
             go_wp2_with fail
             (with_reducible refine HS1C.out.mono ?_)
             rintro e2 w3 ⟨rfl,R1,hR1s',hR1B,hR1p,hR1o⟩
             have hR1s:R1.size=n:=hR1s'.trans hRs
             have HB3:=Lib.hid hR1B
             have HP1:=Lib.hid hR1p
             have HO1:=Lib.hid hR1o
             clear hR1s' hR1B hR1p hR1o
             have hR2s:R1.size=n:=hR1s
             have HB4:=Lib.hid HB3.out
             have HP2:=Lib.hid (permIn_refl R1 mid b)
             have HO2:=Lib.hid (FK2.out R R1 HRK.out HP1.out (by omega))
             go_wp2
             all_goals go_end0
             all_goals exact ⟨rfl,R1,hR2s.trans hdn.symm,HB4.out,FD.out R R1 R1 hRs HRK.out HRP.out HP1.out HO1.out HP2.out HO2.out⟩
         · by_cases hE1:e<b
           · have hq0 : (s : Int) < (mid : Int) := by omega
             have hq1:(mid:Int)<(e:Int):=by omega
             have hq2:(s:Int)≤(a:Int):=by omega
             have HROT:=Lib.hid (FROT.out (by omega) (by omega))
             go_wp2_with fail
             (with_reducible refine HROT.out.mono ?_)
             rintro e1 w2 ⟨rfl,R,hRs,hRB,hRk,hRp⟩
             have HB2:=Lib.hid hRB
             have HRK:=Lib.hid hRk
             have HRP:=Lib.hid hRp
             clear hRB hRk hRp
             have hR1s:R.size=n:=hRs
             have HB3:=Lib.hid HB2.out
             have HP1:=Lib.hid (permIn_refl R a mid)
             have HO1:=Lib.hid (FK1.out R HRK.out (by omega))
             have hs2:=FS2.out R R w2 hRs hR1s HB3.out HRK.out HRP.out HP1.out (by omega) (by omega)
             have HS2C:=Lib.hid hs2
             clear hs2
             go_wp2_with fail
             (with_reducible refine HS2C.out.mono ?_)
             rintro e3 w4 ⟨rfl,R2,hR2s',hR2B,hR2p,hR2o⟩
             have hR2s:R2.size=n:=hR2s'.trans hR1s
             have HB4:=Lib.hid hR2B
             have HP2:=Lib.hid hR2p
             have HO2:=Lib.hid hR2o
             clear hR2s' hR2B hR2p hR2o
             go_wp2
             all_goals go_end0
             all_goals exact ⟨rfl,R2,hR2s.trans hdn.symm,HB4.out,FD.out R R R2 hRs HRK.out HRP.out HP1.out HO1.out HP2.out HO2.out⟩
           · have hq0 : (s : Int) < (mid : Int) := by omega
             have hq1:(mid:Int)<(e:Int):=by omega
             have hq2:(s:Int)≤(a:Int):=by omega
             have hq3:(b:Int)≤(e:Int):=by omega
             have HROT:=Lib.hid (FROT.out (by omega) (by omega))
             go_wp2_with fail
             (with_reducible refine HROT.out.mono ?_)
             rintro e1 w2 ⟨rfl,R,hRs,hRB,hRk,hRp⟩
             have HB2:=Lib.hid hRB
             have HRK:=Lib.hid hRk
             have HRP:=Lib.hid hRp
             clear hRB hRk hRp
             have hR1s:R.size=n:=hRs
             have HB3:=Lib.hid HB2.out
             have HP1:=Lib.hid (permIn_refl R a mid)
             have HO1:=Lib.hid (FK1.out R HRK.out (by omega))
             have hR2s:R.size=n:=hR1s
             have HB4:=Lib.hid HB3.out
             have HP2:=Lib.hid (permIn_refl R mid b)
             have HO2:=Lib.hid (FK2.out R R HRK.out HP1.out (by omega))
             go_wp2
             all_goals go_end0
             all_goals exact ⟨rfl,R,hR2s.trans hdn.symm,HB4.out,FD.out R R R hRs HRK.out HRP.out HP1.out HO1.out HP2.out HO2.out⟩
       · have hq0 : (e : Int) ≤ (m : Int) := by omega
         have hq1:(mid:Int)≤(s:Int):=by omega
         have hq2:(a:Int)<(s:Int):=by omega
         have hq3:(e:Int)<(b:Int):=by omega
         have hq4:(mid:Int)<(e:Int):=by omega
         have hRs:d.size=n:=hdn
         have HB2:=Lib.hid HSk.out
         have HRK:=Lib.hid (zc1 d s m e (by omega) (by omega) (by omega))
         have HRP:=Lib.hid (permIn_refl d a b)
         have hR1s:d.size=n:=hRs
         have HB3:=Lib.hid HB2.out
         have HP1:=Lib.hid (permIn_refl d a mid)
         have HO1:=Lib.hid (FK1.out d HRK.out (by omega))
         have hs2:=FS2.out d d wr hRs hR1s HB3.out HRK.out HRP.out HP1.out (by omega) (by omega)
         have HS2C:=Lib.hid hs2
         clear hs2
         go_wp2_with fail
         all_goals
           (with_reducible refine HS2C.out.mono ?_)
           rintro e3 w4 ⟨rfl,R2,hR2s',hR2B,hR2p,hR2o⟩
           have hR2s:R2.size=n:=hR2s'.trans hR1s
           have HB4:=Lib.hid hR2B
           have HP2:=Lib.hid hR2p
           have HO2:=Lib.hid hR2o
           clear hR2s' hR2B hR2p hR2o
           go_wp2
           all_goals go_end0
           all_goals exact ⟨rfl,R2,hR2s.trans hdn.symm,HB4.out,FD.out d d R2 hRs HRK.out HRP.out HP1.out HO1.out HP2.out HO2.out⟩
     · by_cases hB1:m<e
       · have hq0 : (m : Int) ≤ (s : Int) := by omega
         have hq1:(s:Int)<(mid:Int):=by omega
         have hq2:(a:Int)<(s:Int):=by omega
         have hq3:(e:Int)<(b:Int):=by omega
         have hq4:(e:Int)≤(mid:Int):=by omega
         have hRs:d.size=n:=hdn
         have HB2:=Lib.hid HSk.out
         have HRK:=Lib.hid (zc1 d s m e (by omega) (by omega) (by omega))
         have HRP:=Lib.hid (permIn_refl d a b)
         have hs1:=FS1.out d wr hRs HB2.out HRK.out HRP.out (by omega) (by omega)
         have HS1C:=Lib.hid hs1
         clear hs1
         go_wp2_with fail
         all_goals
           (with_reducible refine HS1C.out.mono ?_)
           rintro e2 w3 ⟨rfl,R1,hR1s',hR1B,hR1p,hR1o⟩
           have hR1s:R1.size=n:=hR1s'.trans hRs
           have HB3:=Lib.hid hR1B
           have HP1:=Lib.hid hR1p
           have HO1:=Lib.hid hR1o
           clear hR1s' hR1B hR1p hR1o
           have hR2s:R1.size=n:=hR1s
           have HB4:=Lib.hid HB3.out
           have HP2:=Lib.hid (permIn_refl R1 mid b)
           have HO2:=Lib.hid (FK2.out d R1 HRK.out HP1.out (by omega))
           go_wp2
           all_goals go_end0
           all_goals exact ⟨rfl,R1,hR2s.trans hdn.symm,HB4.out,FD.out d R1 R1 hRs HRK.out HRP.out HP1.out HO1.out HP2.out HO2.out⟩
       · have hq0 : (m : Int) ≤ (s : Int) := by omega
         have hq1:(e:Int)≤(m:Int):=by omega
         have hq2:(mid:Int)≤(s:Int):=by omega
         have hq3:(a:Int)<(s:Int):=by omega
         have hq4:(e:Int)<(b:Int):=by omega
         have hq5:(e:Int)≤(mid:Int):=by omega
         have hRs:d.size=n:=hdn
         have HB2:=Lib.hid HSk.out
         have HRK:=Lib.hid (zc1 d s m e (by omega) (by omega) (by omega))
         have HRP:=Lib.hid (permIn_refl d a b)
         have hR1s:d.size=n:=hRs
         have HB3:=Lib.hid HB2.out
         have HP1:=Lib.hid (permIn_refl d a mid)
         have HO1:=Lib.hid (FK1.out d HRK.out (by omega))
         have hR2s:d.size=n:=hR1s
         have HB4:=Lib.hid HB3.out
         have HP2:=Lib.hid (permIn_refl d mid b)
         have HO2:=Lib.hid (FK2.out d d HRK.out HP1.out (by omega))
         go_wp2
         all_goals
           all_goals go_end0
           all_goals exact ⟨rfl,d,hR2s.trans hdn.symm,HB4.out,FD.out d d d hRs HRK.out HRP.out HP1.out HO1.out HP2.out HO2.out⟩
theorem zfB {α:Type} [Inhabited α] (enc:α→Value) (hE:∀x,∃a n c,enc x=.slice a n c) (cf:α→α→Int) (lt:α→α→Bool) (hL:SWO lt) (D:α→Prop) (f:FuncId) (cb:Array Value) (g cap:Nat) (rest:List Value) (n:Nat) (w0:World)
   (hC:CmpQ Tryz.prog f cb enc cf D w0 g) (hsz:n<4611686018427387904):∀N,zfM enc cf lt D f cb g cap rest n w0 N
 | 0=>fun a m b d w h1 h2 h3 h4 h5 h6=>by omega
 | N + 1 => by
   have ih:=zfB enc hE cf lt hL D f cb g cap rest n w0 hC hsz N
   intro a m b d w hN hdn hS hD ham hmb hb h1 h2 hA
   by_cases c1:m=a+1
   · subst hdn
     exact sym_leftQ enc hE cf lt hL D f cb g cap a m b rest d w0 w hC hS hD c1 hmb hb hsz h2 hA
   by_cases c2:b=m+1
   · subst hdn
     exact sym_rightQ enc hE cf lt hL D f cb g cap a m b rest d w0 w hC hS hD (by omega) c2 hb hsz h1 hA
   obtain ⟨mid,hmid⟩:∃mid,mid=(a+b) / 2:=⟨_,rfl⟩
   by_cases c3:mid<m
   · exact sym_hiQ enc hE cf lt D f cb g cap rest n w0 hC hsz a m b mid (mid + m - b) mid d w hdn hS hD (by omega) (by omega) hb hA hmid c3 rfl rfl
       (sym_finQ enc hE cf lt hL D f cb g cap rest n w0 N hsz ih a m b mid (mid+m-b) mid d hN hdn hD hb h1 h2 hA (by omega) (by omega) (by omega) (by omega) (by omega) (by omega) (by omega) (by omega))
   · exact sym_loQ enc hE cf lt D f cb g cap rest n w0 hC hsz a m b mid a m d w hdn hS hD (by omega) (by omega) hb hA hmid (by omega) rfl rfl
       (sym_finQ enc hE cf lt hL D f cb g cap rest n w0 N hsz ih a m b mid a m d hN hdn hD hb h1 h2 hA (by omega) (by omega) (by omega) (by omega) (by omega) (by omega) (by omega) (by omega))
end Go.Proofs.YtkhcjoomijkfbaaGreatDoor
namespace Go.Proofs.YtkhcjoomijkfbaaGreatDoor
open Go.RowKit Go.Sort
variable {α : Type} [Inhabited α] {lt lt1 : α → α → Bool} {d R R' : Array α} {lo m hi s i : Nat}
structure Good (lt:α→α→Bool) (d:Array α) (lo hi:Nat) (R:Array α):Prop where
 srt:SortedIn lt lo (min hi d.size) R
 loc:∀k,lo≤k→k<hi→k<d.size→∃j,lo≤j∧j<hi∧j<d.size∧R[k]! = d[j]!
theorem Good.same (h:Good lt d lo hi R) (hR:∀k,lo≤k→k<hi→k<d.size→R'[k]! = R[k]!):Good lt d lo hi R' :=
 ⟨zck h.srt (fun k h1 h2=>hR k h1 (by omega) (by omega)),fun k h1 h2 h3=>by rw [hR k h1 h2 h3];exact h.loc k h1 h2 h3⟩
theorem Good.agree (hag : ∀ p q, p < q → q < d.size → lt1 d[q]! d[p]! = lt d[q]! d[p]!) (h1 : Good lt d lo m R) (h2 : Good lt d m hi R) : zdE lt1 lt R lo m (min hi d.size) := fun p q a b c e => by
 obtain ⟨p',_,p2,p3,hp⟩:=h1.loc p a b (by omega)
 obtain ⟨q',q1,q2,q3,hq⟩:=h2.loc q c (by omega) (by omega)
 rw [hp,hq];exact hag _ _ (by omega) q3
theorem Good.join (h1:Good lt d lo m R) (h2:Good lt d m hi R) (hlm:lo≤m) (hmh:m≤hi) (hsz:R.size=d.size) (hP:PermIn lo (min hi d.size) R R') (hS:SortedIn lt lo (min hi d.size) R'):Good lt d lo hi R' :=
 ⟨hS, fun k a b c => permIn_all R R' lo (min hi d.size) (fun x => ∃ j, lo ≤ j ∧ j < hi ∧ j < d.size ∧ x = d[j]!) (by omega) hP (fun i i1 i2 => by
   by_cases h:i<m
   · obtain ⟨j,a1,a2,a3,a4⟩:=h1.loc i i1 h (by omega);exact ⟨j,a1,by omega,a3,a4⟩
   · obtain ⟨j,a1,a2,a3,a4⟩:=h2.loc i (by omega) (by omega) (by omega);exact ⟨j,by omega,a2,a3,a4⟩) k a (by omega)⟩
theorem Good.wide (h:Good lt d lo m R) (hm:d.size≤m) (hmh:m≤hi):Good lt d lo hi R :=
 ⟨by have:=h.srt;rwa [show min m d.size=min hi d.size from by omega] at this,fun k a b c=>by obtain ⟨j,a1,a2,a3,a4⟩:=h.loc k a (by omega) c;exact ⟨j,a1,by omega,a3,a4⟩⟩
theorem Good.void (h:d.size≤lo):Good lt d lo hi R:=⟨fun p q h1 h2 h3=>by omega,fun k h1 h2 h3=>by omega⟩
structure zcP (lt:α→α→Bool) (d:Array α) (s i:Nat) (R:Array α):Prop where
 sz:R.size=d.size
 perm:PermIn 0 d.size d R
 old:∀k,s * i≤k→R[k]! = d[k]!
 good:∀j,j<i→Good lt d (s * j) (s * (j+1)) R
theorem zcP.start:zcP lt d s 0 d:=⟨rfl,permIn_refl _ _ _,fun _ _=>rfl,fun _ h=>by omega⟩
theorem zcP.step (h:zcP lt d s i R) (hle:s * i≤d.size) (hP:PermIn (s * i) (min (s * i+s) d.size) R R') (hS:SortedIn lt (s * i) (min (s * i+s) d.size) R'):zcP lt d s (i+1) R':=by
 have hm:s * (i+1)=s * i+s:=Nat.mul_succ s i
 refine ⟨hP.1.trans h.sz,permIn_trans _ _ _ _ _ h.perm (permIn_mono R R' _ _ 0 d.size (by omega) (by omega) (by rw [h.sz];omega) hP),fun k hk=>?_,fun j hj=>?_⟩
 · rw [hP.2.1 k (by omega)];exact h.old k (by omega)
 · by_cases hji:j<i
   · have h2 := Nat.mul_le_mul_left s (show j + 1 ≤ i by omega)
     exact (h.good j hji).same fun k h3 h4 h5=>hP.2.1 k (by omega)
   · obtain rfl : j = i := by omega
     rw [hm]
     exact ⟨hS,fun k a b c=>permIn_all R R' _ _ (fun x=>∃q,s * j≤q∧q<s * j+s∧q<d.size∧x=d[q]!) (by rw [h.sz];omega) hP (fun q h1 h2=>⟨q,h1,by omega,by omega,h.old q h1⟩) k a (by omega)⟩
theorem zcP.all (h:zcP lt d s i R) (hn:d.size≤s * i) (j:Nat):Good lt d (s * j) (s * (j+1)) R:=by
 by_cases hj:j<i
 · exact h.good j hj
 · have h2 := Nat.mul_le_mul_left s (show i ≤ j by omega)
   exact Good.void (by omega)
structure zbJ (lt:α→α→Bool) (d:Array α) (s i:Nat) (R:Array α):Prop where
 sz:R.size=d.size
 perm:PermIn 0 d.size d R
 lo:∀j,j<i→Good lt d (2 * s * j) (2 * s * (j+1)) R
 hi:∀j,2 * i≤j→Good lt d (s * j) (s * (j+1)) R
theorem dbl0 (s i:Nat):s * (2 * i)=2 * s * i:=by rw [←Nat.mul_assoc,Nat.mul_comm s 2]
theorem dbl1 (s i:Nat):s * (2 * i+1)=2 * s * i+s:=by rw [Nat.mul_succ,dbl0]
theorem dbl2 (s i:Nat):s * (2 * i+1+1)=2 * s * i+2 * s:=by rw [Nat.mul_succ,dbl1];omega
theorem zbJ.start (h1:R.size=d.size) (h2:PermIn 0 d.size d R) (h3:∀j,Good lt d (s * j) (s * (j+1)) R):zbJ lt d s 0 R:=⟨h1,h2,fun _ h=>by omega,fun j _=>h3 j⟩
theorem zbJ.left (h:zbJ lt d s i R):Good lt d (2 * s * i) (2 * s * i+s) R:=by
 have:=h.hi (2 * i) (Nat.le_refl _);rwa [dbl0,dbl1] at this
theorem zbJ.right (h:zbJ lt d s i R):Good lt d (2 * s * i+s) (2 * s * i+2 * s) R:=by
 have:=h.hi (2 * i+1) (by omega);rwa [dbl1,dbl2] at this
theorem zbJ.step (h:zbJ lt d s i R) (hle:2 * s * i+s≤d.size) (hP:PermIn (2 * s * i) (min (2 * s * i+2 * s) d.size) R R') (hS:SortedIn lt (2 * s * i) (min (2 * s * i+2 * s) d.size) R'):zbJ lt d s (i+1) R':=by
 have hm:2 * s * (i+1)=2 * s * i+2 * s:=Nat.mul_succ (2 * s) i
 refine ⟨hP.1.trans h.sz,permIn_trans _ _ _ _ _ h.perm (permIn_mono R R' _ _ 0 d.size (by omega) (by omega) (by rw [h.sz];omega) hP),fun j hj=>?_,fun j hj=>?_⟩
 · by_cases hji:j<i
   · have h2 := Nat.mul_le_mul_left (2 * s) (show j + 1 ≤ i by omega)
     exact (h.lo j hji).same fun k h3 h4 h5=>hP.2.1 k (by omega)
   · obtain rfl : j = i := by omega
     rw [hm]
     exact h.left.join h.right (by omega) (by omega) h.sz hP hS
 · have h2 := Nat.mul_le_mul_left s (show 2 * i + 1 + 1 ≤ j by omega)
   rw [dbl2] at h2
   exact (h.hi j (by omega)).same fun k h3 h4 h5=>hP.2.1 k (by omega)
theorem zbJ.done (h:zbJ lt d s i R) (hn:d.size≤2 * s * i+s) (j:Nat):Good lt d (2 * s * j) (2 * s * (j+1)) R:=by
 by_cases hj:j<i
 · exact h.lo j hj
 · by_cases hji:j=i
   · subst hji
     rw [Nat.mul_succ (2 * s) j]
     exact h.left.wide hn (by omega)
   · have h2 := Nat.mul_le_mul_left (2 * s) (show i + 1 ≤ j by omega)
     rw [Nat.mul_succ] at h2
     exact Good.void (by omega)
theorem good_end (h:∀j,Good lt d (s * j) (s * (j+1)) R) (hs:d.size≤s):SortedIn lt 0 d.size R:=by
 have:=(h 0).srt
 rwa [Nat.mul_zero,Nat.zero_add,Nat.mul_one,show min s d.size=d.size from by omega] at this
theorem mrg_facts {A b:Nat} (h:zbJ lt d s i R) (hA:A=2 * s * i) (hag:∀p q,p<q→q<d.size→lt1 d[q]! d[p]! = lt d[q]! d[p]!) (hb:b=min (A+2 * s) d.size) (hm:A+s<b) :
   SortedIn lt A (A+s) R∧SortedIn lt (A+s) b R∧zdE lt1 lt R A (A+s) b:=by
 have hl:=h.left
 have hr:=h.right
 rw [←hA] at hl hr
 have h1:=hl.srt
 have h2:=hr.srt
 have h3:=hl.agree hag hr
 rw [show min (A+s) d.size=A+s from by omega] at h1
 rw [←hb] at h2 h3
 exact ⟨h1,h2,h3⟩
theorem mrg_step {A b:Nat} (h:zbJ lt d s i R) (hA:A=2 * s * i) (hb:b=min (A+2 * s) d.size) (hm:A+s<b) (hP:PermIn A b R R') (hS:SortedIn lt A b R'):zbJ lt d s (i+1) R':=by
 subst hA hb
 exact h.step (by omega) hP hS
theorem ins_step {A b:Nat} (h:zcP lt d s i R) (hA:A=s * i) (hb:b=min (A+s) d.size) (hm:A≤b) (hP:PermIn A b R R') (hS:SortedIn lt A b R'):zcP lt d s (i+1) R':=by
 subst hA hb
 exact h.step (by omega) hP hS
theorem ins_agree {A b:Nat} (h:zcP lt d s i R) (hA:A=s * i) (hag:∀p q,p<q→q<d.size→lt1 d[q]! d[p]! = lt d[q]! d[p]!) (hb:b≤d.size) (p q:Nat) (h1:A≤p) (h2:p<q) (h3:q<b):lt1 R[q]! R[p]! = lt R[q]! R[p]! := by
 rw [h.old p (by omega),h.old q (by omega)]
 exact hag p q h2 (by omega)
end Go.Proofs.YtkhcjoomijkfbaaGreatDoor
namespace Go.Proofs.YtkhcjoomijkfbaaGreatDoor
open Go.RowKit Go.Sort
theorem ins_anyQ {α:Type} [Inhabited α] (enc:α→Value) (hE:∀x,∃a n c,enc x=.slice a n c) (cf:α→α→Int) (D:α→Prop) (f:FuncId) (cb:Array Value) (g cap a b:Nat) (rest:List Value) (d:Array α) (w0 w:World)
   (hC:CmpQ Tryz.prog f cb enc cf D w0 g) (hS:SB enc w0 g 46 rest d w) (hD:∀i,i<d.size→D d[i]!) (hab:a≤b) (hb:b≤d.size) (hsz:d.size<4611686018427387904) :
   Calls Tryz.prog 238 #[.slice (some ⟨g,0,none⟩) d.size cap,.int .i64 a,.int .i64 b,.func (.func f) #[] cb] w fun e w'=>e=.returned (.tuple #[])∧SB enc w0 g 46 rest (Sort.insertionSort (ltOf cf) d a b) w':=by
 have eg:=hC.enters
 have HC:=Lib.hid hC
 have HS:=Lib.hid hS
 have HD:=Lib.hid hD
 clear hC hS hD
 go_enter Tryz.func238,Tryz.ntmps238
 go_wp2
 go_loopw [8] (fun vi wr => ∃ (i : Nat) (dk : Array α), vi = .int .i64 i ∧ a < i ∧ i ≤ b + 1 ∧ dk.size = d.size ∧ Hid (SB enc w0 g 46 rest dk wr) ∧ Hid (∀ i, i < dk.size → D dk[i]!) ∧
     Hid (insOuter (ltOf cf) a b i dk=insOuter (ltOf cf) a b (a+1) d)) (fun vi _=>b+1-(intOf vi).toNat)
 case atStart=>exact ⟨a+1,d,by go_num,by omega,by omega,rfl,HS,HD,rfl⟩
 case round =>
   obtain ⟨i,dk,rfl,hai,hib,hsk,HSk,HDk,HO⟩:=hrel
   clear HS
   by_cases hlt:i<b
   · go_wp2
     go_loopw [9] (fun vj wr2 => ∃ (j : Nat) (dj : Array α), vj = .int .i64 j ∧ a ≤ j ∧ j ≤ i ∧ dj.size = d.size ∧ Hid (SB enc w0 g 46 rest dj wr2) ∧ Hid (∀ i, i < dj.size → D dj[i]!) ∧
         Hid (insInner (ltOf cf) a j dj=insInner (ltOf cf) a i dk)) (fun vj _=>(intOf vj).toNat)
     case atStart=>exact ⟨i,dk,rfl,by omega,Nat.le_refl _,hsk,HSk,HDk,rfl⟩
     case round =>
       obtain ⟨j,dj,rfl,haj,hji,hsj,HSj,HDj,HI⟩:=hrel
       clear HSk HDk
       by_cases hja:a<j
       · have hc1 := HSj.out.cell j (by omega)
         have hc2:=HSj.out.cell (j-1) (by omega)
         have hf1:=HSj.out.free j
         have hf2:=HSj.out.free (j-1)
         have hcall:=fun q=>HC.out.calls (wr.drewN q) (HSj.out.drewN q).grown dj[j]! dj[j-1]! (HDj.out j (by omega)) (HDj.out (j-1) (by omega))
         obtain ⟨X,hX⟩:∃X,X=dj[j]! := ⟨_,rfl⟩
         obtain ⟨Y,hY⟩:∃Y,Y=dj[j-1]! := ⟨_,rfl⟩
         rw [←hX] at hc1 hcall
         rw [←hY] at hc2 hcall
         have HX:=Lib.hid hX
         have HY:=Lib.hid hY
         obtain ⟨x,xn,xc,hx⟩:=hE X
         obtain ⟨y,yn,yc,hy⟩:=hE Y
         rw [hx] at hc1 hcall
         rw [hy] at hc2 hcall
         have HCALL:=Lib.hid hcall
         have HEx:=Lib.hid hx
         have HEy:=Lib.hid hy
         clear hcall hx hy hX hY
         have hj1:(0:Int)≤(j:Int)-1:=by omega
         have hj2:((j:Int)-1).toNat=j-1:=by omega
         have hjd:j<d.size:=by omega
         have hjd1:(j:Int)<(d.size:Int):=by omega
         have out:ltOf cf X Y=false→∀q,∃i' dk',Value.int .i64 ((i:Int)+1)=.int .i64 (i':Nat)∧a<i'∧i'≤b+1∧dk'.size=d.size∧Hid (SB enc w0 g 46 rest dk' (wr.drewN q))∧Hid (∀i,i<dk'.size→D dk'[i]!)∧Hid (insOuter (ltOf cf) a b i' dk'=insOuter (ltOf cf) a b (a+1) d) :=
           fun hl q=>⟨i+1,dj,by go_num,by omega,by omega,hsj,HSj.out.drewN q,HDj,by rw [←HO.out,zeu _ _ _ _ _ hlt,←HI.out,zfV _ _ _ _ (.inr (by rw [←HX.out,←HY.out];exact hl))];exact Lib.hid rfl⟩
         have OUT:=Lib.hid out
         clear out
         by_cases hcf:cf X Y<0
         · have hl : ltOf cf X Y = true := by simpa [ltOf] using hcf
           have HL:=Lib.hid hl
           clear hl
           go_wp2_with fail
           go_quiet ((refine Calls.quiet_of (HCALL.out _)))
           go_wp2
           go_region
           all_goals go_wp2
           go_roundw
           case rel =>
             refine ⟨j-1,swp dj j (j-1),by congr 1;omega,by omega,by omega,by rw [size_swp];exact hsj,?_,?_,?_⟩
             · have hw := HSj.out.swp j (j - 1) (by omega) (by omega) (nq + 1)
               rw [←HX.out,←HY.out,HEx.out,HEy.out] at hw
               exact Lib.hid hw
             · exact Lib.hid (fun q hq => by
                 rw [size_swp] at hq
                 by_cases h1:q=j
                 · subst h1;rw [swp_left _ _ _ hq (by omega)];exact HDj.out _ (by omega)
                 · by_cases h2:q=j-1
                   · subst h2;rw [swp_right _ _ _ hq];exact HDj.out _ (by omega)
                   · rw [swp_other _ _ _ _ h1 h2];exact HDj.out _ hq)
             · exact Lib.hid (by rw [←HI.out,inner_go (ltOf cf) a j dj hja (by rw [←HX.out,←HY.out];exact HL.out)])
           case measure=>simp [intOf];omega
         · have hl : ltOf cf X Y = false := by simpa [ltOf] using hcf
           have HL:=Lib.hid hl
           clear hl
           go_wp2_with fail
           go_quiet ((refine Calls.quiet_of (HCALL.out _)))
           go_wp2
           go_roundw
           case rel=>exact OUT.out HL.out nq
           case measure=>simp [intOf];omega
       · have out:∀q,∃i' dk',Value.int .i64 ((i:Int)+1)=.int .i64 (i':Nat)∧a<i'∧i'≤b+1∧dk'.size=d.size∧Hid (SB enc w0 g 46 rest dk' (wr.drewN q))∧Hid (∀i,i<dk'.size→D dk'[i]!)∧Hid (insOuter (ltOf cf) a b i' dk'=insOuter (ltOf cf) a b (a+1) d) :=
           fun q=>⟨i+1,dj,by go_num,by omega,by omega,hsj,HSj.out.drewN q,HDj,by rw [←HO.out,zeu _ _ _ _ _ hlt,←HI.out,zfV _ _ _ _ (.inl (by omega))];exact Lib.hid rfl⟩
         have OUT:=Lib.hid out
         clear out
         have hja2:decide ((a:Int)<(j:Int))=false:=by simp;omega
         go_wp2
         go_quiet (fail)
         go_wp2
         go_roundw
         case rel=>exact OUT.out nq
         case measure=>simp [intOf];omega
   · go_wp2
     go_end0
     refine ⟨rfl,?_⟩
     have e:Sort.insertionSort (ltOf cf) d a b=dk:=by
       unfold Sort.insertionSort;rw [←HO.out,zcB _ _ _ _ _ hlt]
     rw [e]
     exact HSk.out
theorem stable_coreQ {α:Type} [Inhabited α] (enc:α→Value) (hE:∀x,∃a n c,enc x=.slice a n c) (cf:α→α→Int) (lt2:α→α→Bool) (hO:SWO lt2) (D:α→Prop) (f:FuncId) (cb:Array Value) (g cap n:Nat) (rest:List Value) (d:Array α) (w0 w:World)
   (hC:CmpQ Tryz.prog f cb enc cf D w0 g) (hS:SB enc w0 g 46 rest d w) (hD:∀i,i<d.size→D d[i]!) (hag:∀p q,p<q→q<d.size→ltOf cf d[q]! d[p]! = lt2 d[q]! d[p]!) (hdn:d.size=n) (hsz:n<1152921504606846976) :
   Calls Tryz.prog 222 #[.slice (some ⟨g,0,none⟩) n cap,.int .i64 n,.func (.func f) #[] cb] w fun e w'=>e=.returned (.tuple #[])∧∃R,SB enc w0 g 46 rest R w'∧PermIn 0 d.size d R∧SortedIn lt2 0 d.size R:=by
 have eg:=hC.enters
 have insert:∀(A B:Nat) (R:Array α) (wr:World),R.size=n→SB enc w0 g 46 rest R wr→PermIn 0 d.size d R→A≤B→B≤n →
     Calls Tryz.prog 238 #[.slice (some ⟨g,0,none⟩) n cap,.int .i64 A,.int .i64 B,.func (.func f) #[] cb] wr fun e w'=>e=.returned (.tuple #[])∧SB enc w0 g 46 rest (Sort.insertionSort (ltOf cf) R A B) w':=by
   intro A B R wr h1 h2 h3 h4 h5
   have:=ins_anyQ enc hE cf D f cb g cap A B rest R w0 wr hC h2 (zdn D (Nat.le_refl _) h3 hD) h4 (by omega) (by omega)
   rwa [h1] at this
 have merge:∀(A s m b i:Nat) (R:Array α) (wr:World),SB enc w0 g 46 rest R wr→zbJ lt2 d s i R→A=2 * s * i→m=A+s→0<s→b=min (A+2 * s) n→m<b →
     Calls Tryz.prog 239 #[.slice (some ⟨g,0,none⟩) n cap,.int .i64 A,.int .i64 ((A:Int)+(s:Int)),.int .i64 b,.func (.func f) #[] cb] wr fun e w'=>e=.returned (.tuple #[])∧∃R',SB enc w0 g 46 rest R' w'∧zbJ lt2 d s (i+1) R':=by
   intro A s m b i R wr h1 h2 h3 h4 h5 h6 h7
   obtain ⟨q1,q2,q3⟩:=mrg_facts (b:=b) h2 h3 hag (by rw [hdn];exact h6) (by omega)
   rw [←h4] at q1 q2 q3
   have hc:=zfB enc hE cf lt2 hO D f cb g cap rest n w0 hC (by omega) (b-A) A m b R wr (Nat.le_refl _) (h2.sz.trans hdn) h1 (zdn D (Nat.le_refl _) h2.perm hD) (by omega) h7 (by omega) q1 q2 q3
   rw [show (m:Int)=(A:Int)+(s:Int) from by omega] at hc
   exact hc.mono fun e w' ⟨e1,R',_,e3,e4,e5⟩=>⟨e1,R',e3,mrg_step h2 h3 (by rw [hdn];exact h6) (by omega) e4 e5⟩
 have HINS:=Lib.hid insert
 have HMRG:=Lib.hid merge
 have HAG:=Lib.hid hag
 have HO:=Lib.hid hO
 have HS:=Lib.hid hS
 have HDN:=Lib.hid hdn
 clear insert merge hag hO hS hC hD hdn
 go_enter Tryz.func222,Tryz.ntmps222
 go_wp2
 go_loopw [7,8] (fun va vb wr=>∃(i A B:Nat) (R:Array α),va=.int .i64 A∧vb=.int .i64 B∧A≤n∧A+20≤B∧B≤A+20∧Hid (A=20 * i)∧Hid (SB enc w0 g 46 rest R wr)∧Hid (zcP lt2 d 20 i R)) (fun va _ _=>n-(intOf va).toNat)
 case atStart=>exact ⟨0,0,20,d,rfl,rfl,Nat.zero_le _,by omega,by omega,Lib.hid rfl,HS,Lib.hid zcP.start⟩
 case round =>
   obtain ⟨i,A,B,R,rfl,rfl,hAn,hB1,hB2,HA,HR,HI⟩:=hrel
   clear HS
   have hRn:R.size=n:=HI.out.sz.trans HDN.out
   have HRN:=Lib.hid hRn
   clear hRn
   by_cases hlt:B≤n
   · have hins := HINS.out A B R wr HRN.out HR.out HI.out.perm (by omega) hlt
     have hst:=zfN (ltOf cf) lt2 HO.out A B R (by omega) (by rw [HRN.out];exact hlt) (ins_agree HI.out HA.out HAG.out (by rw [HDN.out];exact hlt))
     have HC1:=Lib.hid hins
     have HST:=Lib.hid hst
     clear hins hst
     go_wp2_with (go_at_call 238;refine HC1.out.mono ?_;rintro e w2 ⟨rfl,hS2⟩;have HS2:=Lib.hid hS2;clear hS2)
     go_roundw
     case rel=>exact ⟨i+1,B,B+20,_,rfl,by go_num,hlt,by omega,by omega,Lib.hid (by have:=HA.out;omega),HS2,Lib.hid (ins_step HI.out HA.out (by rw [HDN.out];omega) (by omega) HST.out.1 HST.out.2)⟩
     case measure=>simp [intOf];omega
   · have hins:=HINS.out A n R wr HRN.out HR.out HI.out.perm hAn (Nat.le_refl _)
     have hst:=zfN (ltOf cf) lt2 HO.out A n R hAn (by rw [HRN.out];exact Nat.le_refl _) (ins_agree HI.out HA.out HAG.out (by rw [HDN.out];exact Nat.le_refl _))
     have hall:=fun (R':Array α) (h1:PermIn A n R R') (h2:SortedIn lt2 A n R')=>ins_step HI.out HA.out (by rw [HDN.out];omega) hAn h1 h2
     have hnn:d.size≤20 * (i+1):=by have:=HA.out;have:=HDN.out;omega
     have HALL:=Lib.hid (hall _ hst.1 hst.2)
     have HC1:=Lib.hid hins
     have HNN:=Lib.hid hnn
     clear hins hst hall hnn
     go_wp2_with (go_at_call 238;refine HC1.out.mono ?_;rintro e w2 ⟨rfl,hS2⟩;have HS2:=Lib.hid hS2;clear hS2)
     go_loopw [6] (fun vs wr=>∃(s:Nat) (R:Array α),vs=.int .i64 s∧20≤s∧s≤2305843009213693952∧Hid (SB enc w0 g 46 rest R wr)∧Hid (R.size=d.size)∧Hid (PermIn 0 d.size d R)∧Hid (∀j,Good lt2 d (s * j) (s * (j+1)) R)) (fun vs _=>n-(intOf vs).toNat)
     case atStart=>exact ⟨20,_,rfl,by omega,by omega,HS2,Lib.hid HALL.out.sz,Lib.hid HALL.out.perm,Lib.hid (HALL.out.all HNN.out)⟩
     case round =>
       obtain ⟨s,R2,rfl,hs20,hsb,HR2,HZ2,HP2,HG2⟩:=hrel
       clear HS2 HALL HC1 HNN HR HI HA hAn hB1 hB2 hlt HRN
       by_cases hsn:s<n
       · go_wp2
         go_loopw [7,8] (fun va vb wr=>∃(i A B:Nat) (R:Array α),va=.int .i64 A∧vb=.int .i64 B∧A≤n∧A+2 * s≤B∧B≤A+2 * s∧Hid (A=2 * s * i)∧Hid (SB enc w0 g 46 rest R wr)∧Hid (zbJ lt2 d s i R)) (fun va _ _=>n-(intOf va).toNat)
         case atStart=>exact ⟨0,0,2 * s,R2,rfl,by go_num,Nat.zero_le _,by omega,by omega,Lib.hid (by simp),HR2,Lib.hid (zbJ.start HZ2.out HP2.out HG2.out)⟩
         case round =>
           obtain ⟨j,A2,B2,R3,rfl,rfl,hAn2,hB3,hB4,HA2,HR3,HM⟩:=hrel
           clear HR2 HZ2 HP2 HG2
           by_cases hlt2:B2≤n
           · have HC2 := Lib.hid (HMRG.out A2 s (A2 + s) B2 j R3 _ HR3.out HM.out HA2.out rfl (by omega) (by omega) (by omega))
             go_wp2_with (go_at_call 239;refine HC2.out.mono ?_;rintro e w3 ⟨rfl,R4,hS3,hM3⟩;have HS3:=Lib.hid hS3;have HM3:=Lib.hid hM3;clear hS3 hM3)
             go_roundw
             case rel=>exact ⟨j+1,B2,B2+2 * s,R4,rfl,by go_num,hlt2,by omega,by omega,Lib.hid (by rw [Nat.mul_succ,←HA2.out];omega),HS3,HM3⟩
             case measure=>simp [intOf];omega
           · by_cases hm:A2+s<n
             · have hmI : (A2 : Int) + (s : Int) < (n : Int) := by omega
               have HC2:=Lib.hid (HMRG.out A2 s (A2+s) n j R3 _ HR3.out HM.out HA2.out rfl (by omega) (by omega) hm)
               go_wp2_with (go_at_call 239;refine HC2.out.mono ?_;rintro e w3 ⟨rfl,R4,hS3,hM3⟩;have HS3:=Lib.hid hS3;have HM3:=Lib.hid hM3;clear hS3 hM3)
               go_roundw
               case rel=>exact ⟨2 * s,R4,by go_num,by omega,by omega,HS3,Lib.hid HM3.out.sz,Lib.hid HM3.out.perm,Lib.hid (HM3.out.done (by rw [Nat.mul_succ,←HA2.out,HDN.out];omega))⟩
               case measure=>simp [intOf];omega
             · have hmI : (n : Int) ≤ (A2 : Int) + (s : Int) := by omega
               go_wp2
               go_roundw
               case rel=>exact ⟨2 * s,R3,by go_num,by omega,by omega,HR3,Lib.hid HM.out.sz,Lib.hid HM.out.perm,Lib.hid (HM.out.done (by rw [←HA2.out,HDN.out];omega))⟩
               case measure=>simp [intOf];omega
       · go_wp2
         go_end0
         exact ⟨rfl,R2,HR2.out,HP2.out,good_end HG2.out (by rw [HDN.out];omega)⟩
theorem stable_anyQ {α:Type} [Inhabited α] (enc:α→Value) (hE:∀x,∃a n c,enc x=.slice a n c) (cf:α→α→Int) (lt2:α→α→Bool) (hO:SWO lt2) (D:α→Prop) (f:FuncId) (cb:Array Value) (g cap:Nat) (rest:List Value) (d:Array α) (w0 w:World)
   (hC:CmpQ Tryz.prog f cb enc cf D w0 g) (hS:SB enc w0 g 46 rest d w) (hD:∀i,i<d.size→D d[i]!) (hag:∀p q,p<q→q<d.size→ltOf cf d[q]! d[p]! = lt2 d[q]! d[p]!) (hsz:d.size<1152921504606846976) :
   Calls Tryz.prog 196 #[.slice (some ⟨g,0,none⟩) d.size cap,.func (.func f) #[] cb] w fun e w'=>e=.returned (.tuple #[])∧∃R,SB enc w0 g 46 rest R w'∧PermIn 0 d.size d R∧SortedIn lt2 0 d.size R:=by
 obtain ⟨n,hn⟩:∃n,n=d.size:=⟨_,rfl⟩
 have hcore:=stable_coreQ enc hE cf lt2 hO D f cb g cap n rest d w0 w hC hS hD hag hn.symm (by omega)
 rw [←hn] at hsz ⊢
 rw [←hn] at hcore
 have HC:=Lib.hid hcore
 clear hcore hC hS hD hag hn
 go_enter Tryz.func196,Tryz.ntmps196
 go_wp2_with (go_at_call 222;refine HC.out.mono ?_;rintro e w2 ⟨rfl,R,h1,h2,h3⟩)
 go_end0
 exact ⟨rfl,R,h1,h2,h3⟩
theorem stable_nilQ (fv : Value) (w : World) : Calls Tryz.prog 196 #[.slice none 0 0, fv] w fun e w' => e = .returned (.tuple #[]) ∧ w = w' := by
 go_enter Tryz.func196,Tryz.ntmps196
 go_wp2
 refine wp_loop_once ?_
 go_wp2
 refine wp_loop_once ?_
 go_wp2
 go_end0
 go_wp2
 refine wp_loop_once ?_
 go_wp2
 go_end0
 go_wp2
 go_end0
 exact ⟨rfl,rfl⟩
theorem cmpS_lt {p : List (PV × PV)} {i j : Nat} (h : i < j) : ltOf (fun i j => cmpS p[i]!.1.s p[j]!.1.s) j i = ltI p j i := by
 have hc : ∀ x y : List UInt8, decide (cmpS x y < 0) = sLt x y := fun x y => by
   unfold cmpS
   cases h1:sLt x y
   · cases h2:sLt y x<;>simp
   · simp
 show decide (cmpS p[j]!.1.s p[i]!.1.s<0)=ltI p j i
 rw [hc]
 unfold ltI
 have:decide (j<i)=false:=decide_eq_false (by omega)
 rw [this,Bool.and_false,Bool.or_false]
def Names (w:World) (b off m:Nat) (p:List (PV×PV)):Prop:=∀k,k<m→w.cell? ⟨b,off+2 * k * 4+2,none⟩=some (.string (mkB p[k]!.1.s))
theorem Names.of {w:World} {F:Nat→Prop} {b off cap m:Nat} {l:List PV} {cs:List Value} (hr:Row w 4 (some ⟨b,off,none⟩) (2 * m) cap cs) (h:IsVs w F l cs) (hm:l.length=2 * m):Names w b off m (twoV l):=by
 intro k hk
 obtain ⟨x,y,h1,h2,h3⟩:=twoV_at m l hm k hk
 obtain ⟨sl,-,-,-,h4,-⟩:=h.get (2 * k) x h1
 obtain ⟨b',off',e,hb,hc⟩:=hr.2.2.2.2 (by omega)
 cases e
 rw [h3,Nat.add_assoc]
 exact hc _ _ h4
theorem sort_parts {W:World} {B b off m:Nat} {v:Value} {p:List (PV×PV)} (hp:p.length=m) (hO:W.ownsRow B 46 1 v m ((List.range m).map (zce b off))) (hn:Names W b off m p) (hb:b<B) (hm:m≤200000) :
   Calls Tryz.prog 196 #[v, .func (.func 197) #[] #[]] W fun e w' => e = .returned (.tuple #[]) ∧
     ∃R:Array Nat,R.size=m∧(∀i,i<m→R[i]!<m)∧R.toList.map (fun i=>p[i]!)=zdp p∧w'.ownsRow B 46 1 v m (R.toList.map (zce b off))∧W.grownBy w' v.ownBlock:=by
 rcases hO.2 with ⟨rfl,h0⟩|⟨g,cap,cur,rfl,hBg,hg,hnc,hcm,hcs,htk⟩
 · subst h0
   have:p=[]:=List.eq_nil_of_length_eq_zero hp
   subst this
   exact (stable_nilQ _ W).mono fun e w' ⟨h1,h2⟩=>⟨h1,#[],rfl,fun i hi=>by omega,rfl,by rw [←h2];exact hO,by rw [←h2];exact zei W _⟩
 · have hS:SB (zce b off) W g 46 (cur.toList.drop m) (Array.range m) W:=by
     refine SB.start hg ?_
     rw [←Nat.mul_one m,htk]
     simp
   have hC : CmpQ Tryz.prog 197 #[] (zce b off) (fun i j => cmpS p[i]!.1.s p[j]!.1.s) (fun i => i < m) W g := by
     refine ⟨enters_of Tryz.func197 (by kernel_rfl) rfl,fun W' hgr x y hx hy=>?_⟩
     have hk : ∀ k, k < m → W'.cell? ⟨b, off + 2 * k * 4 + 2, none⟩ = some (.string (mkB p[k]!.1.s)) := fun k hk => by
       have hc:=hn k hk
       rw [World.cell?_of_block (w:=W) (a:=⟨b,off+2 * k * 4+2,none⟩) (hgr.block b (World.block_lt_of_cell? W _ hc) (fun e=>by cases e;omega))]
       exact hc
     exact cmpPair_any (hk x hx) (hk y hy) (by omega) (by omega)
   have hc := stable_anyQ (zce b off) (fun x => ⟨_, _, _, rfl⟩) (fun i j => cmpS p[i]!.1.s p[j]!.1.s) (ltI p) (zgA p) (fun i => i < m) 197 #[] g cap (cur.toList.drop m) (Array.range m) W W hC hS
     (fun i hi=>by simp at hi;rw [getElem!_pos _ i (by simpa using hi)];simpa using hi)
     (fun i j hij hj => by
       simp at hj
       rw [getElem!_pos _ j (by simpa using hj),getElem!_pos _ i (by simp;omega)]
       simp only [Array.getElem_range]
       exact cmpS_lt hij) (by simp;omega)
   rw [show (Array.range m).size=m by simp] at hc
   refine hc.mono fun e w' ⟨he,R,h1,h2,h3⟩=>⟨he,R,(zdg h2).1,(zdg h2).2,?_,?_,h1.grown⟩
   · subst hp
     exact sorted_is p R h2 h3
   · have hz:=(zdg h2).1
     refine ⟨by simp [hz],.inr ⟨g,cap,_,rfl,hBg,h1.blk,hnc,hcm,?_,?_⟩⟩
     · have : cur.toList.length = cap * 1 := by rw [← hcs]; simp
       simp at this ⊢;omega
     · show List.take (m * 1) _=_
       have:(R.toList.map (zce b off)).length=m:=by simp [hz]
       simp only [List.take_append,this]
       simp only [Nat.mul_one,Nat.sub_self,List.take_zero,List.append_nil]
       exact List.take_of_length_le (by omega)
end Go.Proofs.YtkhcjoomijkfbaaGreatDoor
namespace Go.Proofs.YtkhcjoomijkfbaaGreatDoor
open Go.RowKit Go.Shelf Go.Sort
attribute [local go_sem] Oper.semAt_some
theorem EPart:(Tryz.prog.info? 46).map (fun i=>(i.zero,i.size,i.bytes))=some (some (.slice none 0 0),1,24):=by kernel_rfl
def PairsEnd (w:World) (F:Nat→Prop) (R:Option (List PV)) (e:Ending) (w':World):Prop :=
 Below w.heap.size w w'∧match R with
   | none=>e=.returned (.tuple #[.slice none 0 0,.int .i64 16])
   | some m=>∃v cs',e=.returned (.tuple #[v,.int .i64 0])∧w'.ownsRow w.heap.size 48 4 v m.length cs'∧IsVs w' F m cs'
theorem put_part {W w1:World} {base B Bs Bn:Nat} {v v':Value} {k:Nat} {xs:List Value} {tmp:Obj} (hrow:W.ownsRow base 46 1 v k xs) (hgrow:(W.alloc tmp).grownBy w1 v.ownBlock)
   (h1:Bs<base) (h2:Bn<base) (h3:Bs≠B) (h4:Bn≠B) (hb:base≤W.heap.size):za4 (fun c=>c=Bs∨c=Bn) W (w1.setCell ⟨B,0,none⟩ v'):=by
 have hs:=hgrow.size
 rw [zas] at hs
 have key : ∀ c, c < base → c ≠ B → (w1.setCell ⟨B, 0, none⟩ v').heap[c]? = W.heap[c]? := fun c hc hcB => by
   rw [heap_setCell_other _ _ _ _ hcB,hgrow.block c (by rw [zas];omega) (fun e=>by have:=(hrow.lt c e.symm).1;omega)]
   exact Below.heap_alloc W tmp c (by omega)
 refine ⟨by simp [World.setCell];omega,fun c _ hc=>?_⟩
 rcases hc with rfl|rfl
 · exact key _ h1 h3
 · exact key _ h2 h4
theorem eq_mkB' (a b:List UInt8):((mkB a).toList==(mkB b).toList)=decide (a=b):=by
 rw [zaM,zaM];by_cases h:a=b<;>simp [h]
set_option maxRecDepth 100000 in
theorem pairs_any {w:World} {F:Nat→Prop} {l:List PV} {a:Option Addr} {cap:Nat} {cs:List Value} {m:Nat} (hr:Row w 4 a (2 * m) cap cs) (h:IsVs w F l cs) (hm:2 * m=l.length) (hl:m≤200000) :
   Calls Tryz.prog 163 #[.slice a (2 * m) cap] w (PairsEnd w F (zcO l)):=by
 have hro:Fence.wide.round=none:=rfl
 obtain ⟨i0,hi,hz0,hz1,hz2⟩:=info_parts EPart
 have hcap:=hr.2.1
 have hcm:=hr.2.2.1
 obtain ⟨b,off,hab,hbw⟩:∃b off,(0<m→a=some ⟨b,off,none⟩)∧b<w.heap.size+1:=by
   rcases Nat.eq_zero_or_pos m with h0|h0
   · exact ⟨0,0,fun h=>by omega,by omega⟩
   · obtain ⟨b, off, e, hb, _⟩ := hr.2.2.2.2 (by omega)
     exact ⟨b,off,fun _=>e,by omega⟩
 have HR:=Lib.hid hr
 have H:=Lib.hid h
 have HM:=Lib.hid hm
 have HAB:=Lib.hid hab
 clear hr h hm hab
 refine (callsIn_wide (n:=5)).1 ?_
 refine callsIn_of_wp_marks Tryz.func163 rfl trivial ?_ hro
 simp only [Tryz.ntmps163,List.size_toArray,List.length_cons,List.length_nil,Nat.reduceAdd,Nat.reduceSub,Array.replicate_succ,Array.replicate_zero,List.push_toArray,List.append_toArray,List.nil_append,List.cons_append]
 gi_wp2_with (refine ⟨trivial,?_⟩;gi_at_call 195;refine (chunk_in trivial _ _ _ _ _).mono ?_;rintro e w' ⟨rfl,rfl⟩)
 have bO:=Boxed.new w 267 (.slice none 0 0)
 have bS:=Boxed.new (w.alloc (.cells #[.slice none 0 0] 267)) 46 (.slice a (2 * m) cap)
 have bN:=Boxed.new ((w.alloc (.cells #[.slice none 0 0] 267)).alloc (.cells #[.slice a (2 * m) cap] 46)) 3 (.int .i64 2)
 simp only [World.size_alloc] at bS bN
 have hB0:=zfn w (.cells #[.slice none 0 0] 267) (.cells #[.slice a (2 * m) cap] 46) (.cells #[.int .i64 2] 3)
 have bO':=(bO.alloc (.cells #[.slice a (2 * m) cap] 46)).alloc (.cells #[.int .i64 2] 3)
 have bS':=bS.alloc (.cells #[.int .i64 2] 3)
 obtain ⟨W0,hW0⟩:∃W0:World,((w.alloc (.cells #[.slice none 0 0] 267)).alloc (.cells #[.slice a (2 * m) cap] 46)).alloc (.cells #[.int .i64 2] 3)=W0:=⟨_,rfl⟩
 have hsz:W0.heap.size=w.heap.size+3:=by rw [←hW0,zas,zas,zas]
 rw [hW0] at bO' bS' bN hB0 ⊢
 clear hW0 bO bS
 refine wpIn_rangeFunc_ownG hro (by omega) (gf := 221) (lb := #[.pointer (some ⟨w.heap.size + 1, 0, none⟩), .pointer (some ⟨w.heap.size + 1 + 1, 0, none⟩)]) rfl trivial (enters_of Tryz.func221 (by kernel_rfl) rfl)
   (chunk_stops 4 hro (by omega) (w.heap.size+1) (w.heap.size+1+1) b off m cap a HAB.out hcap hcm W0 (by omega) (by omega) bS'.cell bN.cell) staysK_t (staysK_b (by rintro c (rfl|rfl)<;>omega)) (Below.refl _ _) (fun _=>rfl)
   (fun pre W=>(∃v,Boxed W w.heap.size 267 v∧W.ownsRow W0.heap.size 46 1 v pre.length (pre.map (zce b off))∧True)∧Below w.heap.size w W∧W0.heap.size≤W.heap.size)
   (fun _ _ _=>False)
   (OwnFrom.and (Own.from (holdsRow_own W0.heap.size w.heap.size 267 46 1 (fun pre:List Nat=>pre.length) (fun pre:List Nat=>pre.map (zce b off)) (fun _ _=>True)) _) (OwnFrom.and (ownFrom_below (Nat.le_refl _) (by omega)) (fun s A B row hs hg _=>Nat.le_trans hs hg.size)))
   (fun _ _ _ _ _ hs _ _=>hs)
   ⟨⟨_,bO',World.ownsRow_nil _ _ _ _,trivial⟩,hB0,Nat.le_refl _⟩
   (fun x => { tmps := #[.slice a (2 * m) cap, undef, .slice none 0 0, .int .i64 0, .pointer (some ⟨w.heap.size, 0, none⟩), zce b off x, undef, .slice a (2 * m) cap, .func (.func 221) #[] #[.pointer (some ⟨w.heap.size + 1, 0, none⟩), .pointer (some ⟨w.heap.size + 1 + 1, 0, none⟩)], zce b off x,
     undef,undef,undef,undef,undef,undef,undef,undef,undef,undef,undef,undef,undef,undef,undef,undef,undef,undef,undef,undef,undef,undef,undef,undef,undef,undef,undef,undef,undef,undef],defers:=[] }) ?assign ?body ?done ?stop
 case assign =>
   intro l x W K hK
   gi_wp2
   exact hK
 case body =>
   rintro l pre x W ⟨⟨v,hv,hrow,-⟩,hB,hs⟩ hlt
   have hc:=hv.cell
   have hle:w.heap.size≤W0.heap.size:=by omega
   unfold zce
   gi_wp2_with (gi_at_builtin;refine wpListIn_append_own _ rfl _ _ 267 rfl W0.heap.size 46 i0 (.slice none 0 0) 1 24 Tryz.underlying267 hi hz0 hz1 hz2 rfl (by decide) _ _ _ rfl (hrow.alloc _) ⟨W.heap.size,0,none⟩ 1 1 [zce b off x] rfl rfl (cell_one_new _ _ _) (by simp [Value.oneCell',zce]) (by unfold maxLen;omega) (by omega) (by simp;omega) ?_;intro v' w1 hown' hgrow _;obtain ⟨g',cap',rfl⟩:=ownsRow_succ hown';obtain ⟨hv1,hv2,hr2,hk2,hb2⟩:=hv.appended (by decide) (zbX hrow hle) hB.size (Nat.le_refl _) (zbX hown' hle) hgrow;have hc1:=hv1.cell;have hf1:=hv1.frozen)
   refine ⟨hk2.from _,put_part hrow hgrow (by omega) (by omega) (by omega) (by omega) hs,⟨_,hv2,?_,trivial⟩,hB.trans hb2,?_⟩
   · rw [List.length_append,List.map_append]
     exact zby hown' fun c hc=>heap_setCell_other _ _ _ _ (by have:=(hown'.lt c hc).1;intro e;subst e;simp at this;omega)
   · have:=hgrow.size
     rw [zas] at this
     simp [World.setCell];omega
 case done =>
   rintro D ys W hD rfl ⟨⟨v,hv,hrow,-⟩,hB,hs⟩ hK
   rw [List.length_range] at hrow
   have hc:=hv.cell
   have hp:(twoV l).length=m:=twoV_len m l HM.out.symm
   have hnm:Names W b off m (twoV l):=fun k hk=>cell?_keep hB (Names.of (cap:=cap) (by have:=HR.out;rwa [HAB.out (by omega)] at this) H.out HM.out.symm k hk)
   have HNM:=Lib.hid hnm
   have HSP:=Lib.hid (sort_parts hp hrow hnm (show b<W0.heap.size by omega) hl)
   have hDo : v.ownBlock ≠ some D := fun e => by
     obtain ⟨cs,hc⟩:=zaT hrow e
     rw [hK] at hc;cases hc
   have hBo:v.ownBlock≠some w.heap.size:=fun e=>by have:=(hrow.lt _ e).1;omega
   have HV:=Lib.hid hv
   have HDO:=Lib.hid hDo
   have HBO:=Lib.hid hBo
   have HOW:=Lib.hid (fun b h=>(hrow.lt b h))
   have HWB:=Lib.hid hB
   have HDL:=Lib.hid (show D<W.heap.size from (Array.getElem?_eq_some_iff.1 hK).1)
   clear hp hrow hnm hDo hBo hi hz0 hz1 hz2 hbw bN bS' bO' hB0
   gi_wp2_with (refine ⟨trivial,?_⟩;gi_at_call 196;refine (callsIn_wide.2 HSP.out).mono ?_;rintro e w1 ⟨rfl,R,hR1,hR2,hR3,hO1,hg1⟩)
   refine wpIn_wide.2 ?_
   have HK1:=Lib.hid (show w1.heap[D]?=some (.deferred (some [])) from (hg1.block D HDL.out (fun e=>HDO.out e.symm)).trans hK)
   have hc1:w1.cell? ⟨w.heap.size,0,none⟩=some v:=(show Boxed w1 w.heap.size 267 v from (hg1.block _ (Boxed.lt HV.out) (fun e=>HBO.out e.symm)).trans HV.out).cell
   have HB1:=Lib.hid (HWB.out.grown hg1 HWB.out.size (fun k e=>by have:=(HOW.out k e).1;omega))
   have HN1 := Lib.hid (show Names w1 b off m (twoV l) from fun k hk => by
     have hc:=HNM.out k hk
     rw [World.cell?_of_block (w:=W) (a:=⟨b,off+2 * k * 4+2,none⟩) (hg1.block b (World.block_lt_of_cell? W _ hc) (fun e=>by have:=(HOW.out b e.symm).1;have:=World.block_lt_of_cell? w _ (Names.of (cap:=cap) (by have:=HR.out;rwa [HAB.out (by omega)] at this) H.out HM.out.symm k hk);simp at this;omega))]
     exact hc)
   have HO1:=Lib.hid hO1
   have HR1:=Lib.hid hR1
   have HR2:=Lib.hid hR2
   have HR3:=Lib.hid hR3
   obtain ⟨av,cv,rfl,hv1,hv2⟩:=zbi hO1
   clear hv hc hK hR1 hR2 hR3 hO1 hg1 hB hs
   go_wp2
   go_loopw [6] (fun v6 wr=>∃k:Nat,v6=.int .i64 k∧1≤k∧k≤210000∧(∃q,w1.drewN q=wr)∧Hid (k≤m∨k=1)∧Hid (∀i,i+1<k→(twoV l)[R[i]!]!.1.s≠(twoV l)[R[i+1]!]!.1.s)) (fun v6 _=>m-(intOf v6).toNat)
   case atStart=>exact ⟨1,rfl,Nat.le_refl _,by omega,⟨0,rfl⟩,.inr rfl,Lib.hid (fun i hi=>by omega)⟩
   case round =>
     obtain ⟨k,rfl,hk1,hk2,⟨q,rfl⟩,HKM,HNE⟩:=hrel
     by_cases hlt:k<m
     · obtain ⟨gb, go, rfl, hgb, hgc⟩ := (Row.of_own HO1.out).2.2.2.2.2 (by omega)
       have hRz:R.size=m:=HR1.out
       have hx1:w1.cell? ⟨gb,go+k,none⟩=some (zce b off R[k]!):=hgc k _ (by rw [List.getElem?_map,getElem!_pos R k (by omega)];simp [show k<R.size by omega])
       have hx2:w1.cell? ⟨gb,go+(k-1),none⟩=some (zce b off R[k-1]!):=hgc (k-1) _ (by rw [List.getElem?_map,getElem!_pos R (k-1) (by omega)];simp [show k-1<R.size by omega])
       have hn1:=HN1.out _ (HR2.out k hlt)
       have hn2:=HN1.out _ (HR2.out (k-1) (by omega))
       have hse:=eq_mkB' (twoV l)[R[k]!]!.1.s (twoV l)[R[k-1]!]!.1.s
       have hkk:k-1+1=k:=by omega
       have HKK:=Lib.hid hkk
       have HS1 := Lib.hid (show ∀ j, j + 1 < k + 1 → (twoV l)[R[k]!]!.1.s ≠ (twoV l)[R[k - 1]!]!.1.s → (twoV l)[R[j]!]!.1.s ≠ (twoV l)[R[j + 1]!]!.1.s from fun j hj hne => by
         by_cases e:j+1=k
         · have : j = k - 1 := by omega
           subst this
           rw [hkk];exact Ne.symm hne
         · exact HNE.out j (by omega))
       have HS2 := Lib.hid (show (twoV l)[R[k]!]!.1.s = (twoV l)[R[k - 1]!]!.1.s → zcO l = none from fun e => by
         unfold zcO
         rw [if_pos]
         rw [←HR3.out]
         refine (zeW _).2 ⟨k-1,by simp;omega,?_⟩
         have g : ∀ j, j < m → (R.toList.map fun i => (twoV l)[i]!)[j]! = (twoV l)[R[j]!]! := fun j hj => by
           rw [getElem!_pos _ j (by simp;omega),getElem!_pos R j (by omega)];simp
         rw [g (k-1) (by omega),hkk,g k hlt];exact e.symm)
       unfold zce at hx1 hx2
       generalize (twoV l)[R[k]!]!.1.s=s1 at *
       generalize (twoV l)[R[k-1]!]!.1.s=s2 at *
       generalize R[k]! = q1 at *
       generalize R[k-1]! = q2 at *
       have i1:(0:Int)≤(k:Int)-1:=by omega
       have i2:((k:Int)-1).toNat=k-1:=by omega
       have i3:IntKind.i64.wrap ((k:Int)-1)=(k:Int)-1:=IntWalk.i64_in _ (by omega)
       have i4:(k:Int)<(m:Int):=by omega
       have i5:(k:Int)-1<(m:Int):=by omega
       clear hgc hkk hRz
       by_cases hs:s1=s2
       · rw [decide_eq_true hs] at hse
         have hnone:=HS2.out hs
         have HNONE:=Lib.hid hnone
         clear hnone hs HS1 HS2
         go_wp2
         go_quiet (fail)
         go_wp2
         refine ⟨by simp,.inl ⟨_,_,rfl,run_takeDeferred (show (w1.drewN (q+nq)).heap[D]?=_ from HK1.out),?_⟩⟩
         refine ⟨_,results_tmp2 rfl _ _ _,?_⟩
         rw [HNONE.out]
         exact ⟨(zag (zag HB1.out q) nq).trans (belowK_b (w:=w) (Nat.le_refl _) _ D _ _ (by omega) (show ((w1.drewN q).drewN nq).heap[D]?=_ from HK1.out) rfl rfl),rfl⟩
       · rw [decide_eq_false hs] at hse
         have HS3:=Lib.hid (fun j hj=>HS1.out j hj hs)
         clear hs HS1 HS2 HNE
         go_wp2
         go_quiet (fail)
         go_wp2
         go_roundw
         case rel=>exact ⟨k+1,by go_num,by omega,by omega,⟨q+nq,rfl⟩,.inl (by omega),HS3⟩
         case measure=>simp [intOf];omega
     · have hRz:R.toList.length=m:=HR1.out
       have hrow : Row w 4 (some ⟨b, off, none⟩) (2 * m) cap cs := ⟨HR.out.1, hcap, hcm, fun h => (by cases h), fun hn => by
         have h:=HR.out.2.2.2.2 hn
         rwa [HAB.out (by omega)] at h⟩
       have hcc := concat_any (w := w1.drewN q) (a := av) (cap := cv) (b := b) (off := off) (n := 2 * m) (c := cap) (qs := R.toList) (cs := cs) (by rw [hRz]; exact (Row.of_own HO1.out).2.mono (zag (Below.refl _ _) q))
         ((hrow.mono HB1.out).mono (zag (Below.refl _ _) q)) H.out.one1 (fun k hk => by
           obtain ⟨i,hi,rfl⟩:=List.getElem_of_mem hk
           have:=HR2.out i (by omega)
           rw [getElem!_pos R i (by rw [hRz] at hi;have:=HR1.out;omega)] at this
           simp only [Array.getElem_toList];omega) (by omega)
       rw [hRz] at hcc
       have HCC:=Lib.hid hcc
       have HP:=Lib.hid (show zcO l=some (zaQ (zdp (twoV l))) by
         unfold zcO
         rw [if_neg]
         rw [←HR3.out,zeW]
         rintro ⟨i,h1,h2⟩
         have h3:i+1<m:=by simpa [HR1.out] using h1
         have g : ∀ j, j < m → (R.toList.map fun i => (twoV l)[i]!)[j]! = (twoV l)[R[j]!]! := fun j hj => by
           rw [getElem!_pos _ j (by simp [HR1.out];omega),getElem!_pos R j (by rw [HR1.out];omega)];simp
         rw [g i (by omega),g (i+1) h3] at h2
         refine HNE.out i ?_ h2
         rcases HKM.out with h|h<;>omega)
       have hkd:decide (k<m)=false:=decide_eq_false hlt
       clear hcc hrow hRz hlt
       go_wp2
       refine wpIn_wide.2 ?_
       go_wp2_with (go_at_call 199;refine HCC.out.mono ?_;rintro e w2 ⟨v2,rfl,hO2,hb2⟩)
       have hK2:w2.heap[D]?=some (.deferred (some [])):=(hb2.block D (zaj HK1.out)).trans HK1.out
       refine ⟨by simp,.inl ⟨_,_,rfl,run_takeDeferred hK2,?_⟩⟩
       refine ⟨_,results_tmp2 rfl _ _ _,?_⟩
       have hbf:RowKit.Below w.heap.size w (w2.putObj D (.deferred none)):=((zag HB1.out q).trans (hb2.mono (zag HB1.out q).size)).trans (belowK_b (w:=w) (Nat.le_refl _) _ D _ _ (by omega) hK2 rfl rfl)
       rw [HP.out]
       refine ⟨hbf,v2,R.toList.flatMap (zep cs),rfl,?_,?_⟩
       · rw [flatV_len,←HR3.out,List.length_map,show R.toList.length=m from HR1.out]
         exact ownsRow_putObj (zbX hO2 (zag HB1.out q).size) _ hK2 rfl
       · rw [←HR3.out]
         exact parts_all HM.out.symm (H.out.below hbf) R.toList fun k hk => by
           obtain ⟨i,hi,rfl⟩:=List.getElem_of_mem hk
           have:=HR2.out i (by have:=HR1.out;simp at hi;omega)
           rw [getElem!_pos R i (by simpa using hi)] at this
           simpa using this
 case stop =>
   rintro D c pre W _ _ h _
   exact h.elim
end Go.Proofs.YtkhcjoomijkfbaaGreatDoor
namespace Go.Proofs.YtkhcjoomijkfbaaGreatDoor
open Go.RowKit
section
variable {w0 w w' : World} {F F' G : Nat → Prop} {p : Nat} {a : Option Addr} {cap : Nat} {bs : List UInt8} {last : Bool} {st : List Lv} {at_ : Int} {gs : List Nat} {osl : Value}
theorem zaS {w:World} {r b:Nat} (h:b≠r) (y0 y1 y2 y3:Value):((((w.setCell ⟨r,0,none⟩ y0).setCell ⟨r,1,none⟩ y1).setCell ⟨r,2,none⟩ y2).setCell ⟨r,3,none⟩ y3).heap[b]?=w.heap[b]?:=zaO h _ _ _ _
theorem zaN (w:World) (r:Nat) (y0 y1 y2 y3:Value):((((w.setCell ⟨r,0,none⟩ y0).setCell ⟨r,1,none⟩ y1).setCell ⟨r,2,none⟩ y2).setCell ⟨r,3,none⟩ y3).heap.size=w.heap.size:=by simp [World.setCell]
theorem Nxt.fin4 {W1 W2 : World} {r : Nat} (h : zav w0 w F G p a cap bs last st at_ gs osl) (hb : Below w.heap.size w W1) {st2 : List Lv} {at2 : Int} (N : Nxt w0 W1 F (fun b => G b ∨ b = r) p a cap bs last st2 at2 F' W2) (hr : w.heap.size ≤ r) (y0 y1 y2 y3 : Value) :
   Nxt w0 w F G p a cap bs last st2 at2 F' ((((W2.setCell ⟨r,0,none⟩ y0).setCell ⟨r,1,none⟩ y1).setCell ⟨r,2,none⟩ y2).setCell ⟨r,3,none⟩ y3):=by
 obtain ⟨gs2,osl2,hs⟩:=N.stk
 have hGl:∀b,G b→b<w.heap.size:=fun b hb=>(h.gb b hb).2
 have hFl:∀b,F b→b<w.heap.size:=fun b hb=>h.Flt hb
 have h1:=hb.size
 have h2:=N.sg.1
 refine ⟨⟨gs2,osl2,(hs.set4 (.inr rfl) _ _ _ _).give fun b hb=>.inl hb⟩,⟨by rw [zaN];omega,fun b hb1 hG=>?_⟩,⟨by rw [zaN];omega,fun b hb1 hf=>?_⟩,N.ff⟩
 · rw [zaS (by have:=hGl b hG;omega),N.sg.2 b (by omega) (.inl hG),hb.block b hb1]
 · rw [zaS (by have:=hFl b hf;omega),N.sf.2 b (by omega) hf,hb.block b hb1]
theorem IsV.fin4 {W2 : World} {r : Nat} {st2 : List Lv} {at2 : Int} {v : PV} {sl : Value} (h : IsV W2 F' v sl) (N : Stk w0 W2 F' (fun b => G b ∨ b = r) p a cap bs last st2 at2) (y0 y1 y2 y3 : Value) :
   IsV ((((W2.setCell ⟨r,0,none⟩ y0).setCell ⟨r,1,none⟩ y1).setCell ⟨r,2,none⟩ y2).setCell ⟨r,3,none⟩ y3) F' v sl:=by
 obtain ⟨gs2,osl2,hs⟩:=N
 exact IsV.keep ⟨by rw [zaN];exact Nat.le_refl _,fun b _ hf=>zaS (fun e=>(hs.fb b hf).2.1 (.inr e)) _ _ _ _⟩ (fun _ h=>h) v h
theorem Nxt.drew {W:World} (N:Nxt w0 w F G p a cap bs last st at_ F' W):Nxt w0 w F G p a cap bs last st at_ F' W.drew:=by
 obtain ⟨gs2,osl2,hs⟩:=N.stk
 exact ⟨⟨gs2,osl2,hs.drewN 1⟩,N.sg,N.sf,N.ff⟩
theorem Nxt.weak {W:World} {F1:Nat→Prop} (N:Nxt w0 w F1 G p a cap bs last st at_ F' W) (hF:∀b,F b→F1 b):Nxt w0 w F G p a cap bs last st at_ F' W :=
 ⟨N.stk,N.sg,⟨N.sf.1,fun b hb hf=>N.sf.2 b hb (hF b hf)⟩,fun b hb=>N.ff b (hF b hb)⟩
theorem IsV.of_owns {W:World} {base:Nat} {v:PV} {sl:Value} {cs:List Value} (hO:W.ownsRow base 48 4 sl v.l.length cs) (h:IsVs W F v.l cs) (hF:∀b,sl.ownBlock=some b→F b):IsV W F v sl:=by
 obtain ⟨a,c,rfl,hr,-⟩:=Row.of_owns hO
 refine IsV.mk hr (fun hn x hx=>?_) h
 subst hx
 rcases hO.2 with ⟨e,-⟩|⟨g,cap,cur,e,-⟩
 · cases e
 · cases e;exact hF g rfl
theorem zav.popA {v:Lv} {g:Nat} {t:List Nat} {ao:Option Addr} {oc:Nat} {sl:Value} (h:zav w0 w F G p a cap bs last (v::st) at_ (g::t) (.slice ao (st.length+1) oc)) (hg:w.heap[g]?=some (.cells #[.bool v.dict,sl] 168 (0,0))) :
   ∃F',Nxt w0 w F G p a cap bs last st at_ F' (w.setCell ⟨p,3,none⟩ (.slice ao st.length oc))∧IsV (w.setCell ⟨p,3,none⟩ (.slice ao st.length oc)) F' (.mk 6 0 [] v.l) sl:=by
 obtain ⟨F',sl',hF,⟨g',t',cs,h1,h2,h3,h4,h5⟩,N⟩:=h.pop rfl
 simp only [List.cons.injEq] at h1
 obtain ⟨rfl,rfl⟩:=h1
 rw [hg] at h2
 obtain rfl:sl=sl':=by simpa using h2
 refine ⟨F',N,IsV.of_owns (v:=.mk 6 0 [] v.l) (base:=w0.heap.size) (cs:=cs) (zby h3 fun b hb=>?_) (IsVs.keep ⟨by simp [World.setCell],fun b _ hf=>?_⟩ (fun _ h=>h) _ h4) h5⟩
 · exact heap_setCell_other _ _ _ _ (by obtain ⟨ds,hc⟩:=zaT h3 hb;exact zbj hc h.blk (by decide))
 · obtain ⟨gs2,osl2,hs⟩:=N.stk
   exact heap_setCell_other _ _ _ _ (hs.notF hf)
theorem IsV.drew {W:World} {v:PV} {sl:Value} (h:IsV W F v sl):IsV W.drew F v sl:=IsV.below h (zag (Below.refl _ _) 1)
theorem zav.popD {v:Lv} {ao:Option Addr} {oc:Nat} {v':PV} {sl:Value} (h:zav w0 w F G p a cap bs last (v::st) at_ gs (.slice ao (st.length+1) oc)) (hv:IsV w F v' sl) :
   ∃F',Nxt w0 w F G p a cap bs last st at_ F' (w.setCell ⟨p,3,none⟩ (.slice ao st.length oc))∧IsV (w.setCell ⟨p,3,none⟩ (.slice ao st.length oc)) F' v' sl:=by
 obtain ⟨F',sl',hF,-,N⟩:=h.pop rfl
 exact ⟨F',N,IsV.keep N.sf hF _ hv⟩
theorem zav.lastV {v:Lv} {g:Nat} {t:List Nat} {sl:Value} (h:zav w0 w F G p a cap bs last (v::st) at_ (g::t) osl) (hg:w.heap[g]?=some (.cells #[.bool v.dict,sl] 168 (0,0))) :
   ∃cs,w.ownsRow w0.heap.size 48 4 sl v.l.length cs∧IsVs w F v.l cs:=by
 obtain ⟨g',t',sl',cs,h1,h2,h3,h4,h5,h6,-⟩:=h.lvs
 simp only [List.cons.injEq] at h1
 obtain ⟨rfl,rfl⟩:=h1
 rw [hg] at h4
 obtain rfl:sl=sl':=by simpa using h4
 exact ⟨cs,h5,h6⟩
theorem zav.gain {W3:World} {m:List PV} {v3:Value} {cs:List Value} (h:zav w0 w F G p a cap bs last st at_ gs osl) (hb:Below w.heap.size w W3) (hO:W3.ownsRow w.heap.size 48 4 v3 m.length cs) (hV:IsVs W3 F m cs) :
   zav w0 W3 (fun b=>F b∨v3.ownBlock=some b) G p a cap bs last st at_ gs osl∧IsV W3 (fun b=>F b∨v3.ownBlock=some b) (.mk 7 0 [] m) v3:=by
 refine ⟨h.frame' (zaZ hb) (fun b hb=>.inl hb) (fun b hb=>.inl hb) (fun b hb'=>?_),IsV.of_owns (v:=.mk 7 0 [] m) hO (hV.weaken fun b hb=>.inl hb) fun b hb=>.inr hb⟩
 rcases hb' with h1|h1
 · exact .inl h1
 · refine .inr ⟨(hO.lt b h1).1, fun hG => ?_, zaT hO h1⟩
   have h2:=(h.gb b hG).2
   have h3:=(hO.lt b h1).1
   omega
def EndEnd (w0 w:World) (F G:Nat→Prop) (p:Nat) (a:Option Addr) (cap:Nat) (bs:List UInt8) (last:Bool) (at_:Int) (R:PV×List Lv×Int) (e:Ending) (w':World):Prop :=
 ∃F' sl,e=.returned (.tuple #[pvA R.1 sl,.int .i64 R.2.2])∧IsV w' F' R.1 sl∧Nxt w0 w F G p a cap bs last R.2.1 at_ F' w'
theorem end_any (h:zav w0 w F G p a cap bs last st at_ gs osl) (d:Bool) (hlen:∀v∈st,v.l.length≤400000):Calls Tryz.prog 132 #[.pointer (some ⟨p,0,none⟩),.bool d] w (EndEnd w0 w F G p a cap bs last at_ (zbG st d)):=by
 obtain ⟨R,hR⟩:∃R,R=zbG st d:=⟨_,rfl⟩
 rw [←hR]
 have HR:=Lib.hid hR
 have HS:=Lib.hid h
 obtain ⟨r,hr⟩:∃r,r=w.heap.size:=⟨_,rfl⟩
 have HRR:=Lib.hid hr
 have hrl:r<(w.alloc (.cells #[.int .i64 0,.int .i64 0,.string ⟨#[]⟩,.slice none 0 0] 48)).heap.size:=by rw [zas];omega
 have h1:=h.res (G':=fun b=>G b∨b=r) (zam w (.cells #[.int .i64 0,.int .i64 0,.string ⟨#[]⟩,.slice none 0 0] 48)) (fun b hb=>hb.imp id fun e=>by rw [e];exact ⟨Nat.le_of_eq hr.symm,hrl⟩)
 have hr4:=zac (w:=w) (b:=r) (.cells #[.int .i64 0,.int .i64 0,.string ⟨#[]⟩,.slice none 0 0] 48) hr
 have HW:=Lib.hid (zam w (.cells #[.int .i64 0,.int .i64 0,.string ⟨#[]⟩,.slice none 0 0] 48))
 have hpr:p≠r:=by have:=h.lt;omega
 clear h hR hrl
 go_enter Tryz.func132,Tryz.ntmps132
 go_wp2_with fail
 rw [←hr]
 generalize w.alloc _=W1 at *
 have HTOP:=Lib.hid (zgF h1)
 have HS1:=Lib.hid h1
 have HR4:=Lib.hid hr4
 clear hr h1 hr4
 refine HTOP.out.mono ?_
 rintro e w1 ⟨rfl,q,rfl⟩
 have HS2:=Lib.hid (HS1.out.drewN q)
 have HW2:=Lib.hid (zag HW.out q)
 have HR2:=Lib.hid (show (W1.drewN q).heap[r]?=_ from HR4.out)
 clear HS1 HW HR4 HTOP
 generalize W1.drewN q=W2 at *
 have hbad:R=(PV.none,st,11)→∀y0 y1 y2 y3:Value,(y0=.int .i64 0∧y1=.int .i64 0∧y2=.string ⟨#[]⟩∧y3=.slice none 0 0)→EndEnd w0 w F G p a cap bs last at_ R (.returned (.tuple #[.agg #[y0,y1,y2,y3],.int .i64 11])) ((((W2.setCell ⟨r,0,none⟩ y0).setCell ⟨r,1,none⟩ y1).setCell ⟨r,2,none⟩ y2).setCell ⟨r,3,none⟩ y3):=by
   rintro e y0 y1 y2 y3 ⟨rfl,rfl,rfl,rfl⟩
   rw [e]
   exact ⟨F,.slice none 0 0,rfl,IsV.leaf _ _ _ rfl,Nxt.fin4 HS.out HW2.out (Nxt.refl HS2.out (Below.refl _ _)) (Nat.le_of_eq HRR.out.symm) _ _ _ _⟩
 have HBAD:=Lib.hid hbad
 obtain ⟨⟨q0,q1,q2,q3⟩,n0,n1,n2,n3⟩:=zae HR2.out
 clear hbad
 rcases HS2.out.top with ⟨rfl,rfl⟩|⟨v,st',g,t',sa,sc,rfl,rfl,h1,h2,h3⟩
 · unfold topP
   go_wp2
   refine bodyPost_ret (zaa rfl _ _ r 48 _ (0,0) _ rfl (by exact set4 HR2.out _ _ _ _) Tryz.underlying48 rfl (by exact zap) _ rfl) rfl ?_
   exact HBAD.out HR.out _ _ _ _ ⟨rfl,rfl,rfl,rfl⟩
 · obtain ⟨k0, k1⟩ : W2.cell? ⟨g, 0, none⟩ = some (.bool v.dict) ∧ W2.cell? ⟨g, 1, none⟩ = some (.slice sa v.l.length sc) := ⟨by rw [cell_of_row W2 g 0 _ _ _ h3]; rfl, by rw [cell_of_row W2 g 1 _ _ _ h3]; rfl⟩
   have HWT:=Lib.hid (ze2 h3 (by omega))
   have hR:=HR.out
   unfold zbG at hR
   simp only at hR
   have HG:=Lib.hid h3
   unfold topP
   have HWV:=Lib.hid (show zcQ v=(v.dict&&v.l.length % 2==0) from rfl)
   have HLE:=Lib.hid (hlen v List.mem_cons_self)
   have hgp:g≠p:=fun e=>by subst e;have:=HS2.out.blk;rw [h3] at this;simp at this
   by_cases hdd:v.dict=d
   case neg =>
     have HB2:=Lib.hid (HBAD.out (hR.trans (if_pos (.inl hdd))))
     have e1:(v.dict==d)=false:=by rw [beq_eq_false_iff_ne];exact hdd
     have e2:(v.dict != d)=true:=by simp only [bne,e1,Bool.not_false]
     generalize v.dict=vd at *
     clear hR hdd h1 h2 h3 hlen HBAD
     go_wp2
     refine bodyPost_ret (zaa rfl _ _ r 48 _ (0,0) _ rfl (by exact set4 HR2.out _ _ _ _) Tryz.underlying48 rfl (by exact zap) _ rfl) rfl ?_
     exact HB2.out _ _ _ _ ⟨rfl,rfl,rfl,rfl⟩
   subst hdd
   obtain ⟨ao,oc,rfl,ho1,ho2⟩:=zbi HS2.out.own
   obtain ⟨⟨c0,c1,c2,c3⟩,f0,f1,f2,f3⟩:=HS2.out.cells
   simp only [List.length_cons] at c3 ho1
   have hdp:st'.length≤63:=by have:=HS2.out.deep;simp at this;omega
   have HPG:=Lib.hid hgp
   obtain ⟨vd,hvd⟩:∃vd,vd=v.dict:=⟨_,rfl⟩
   rw [←hvd] at k0 HWT HWV hR
   rw [←hvd] at HG
   rw [←hvd]
   have HVD:=Lib.hid hvd
   clear hvd h3 hlen
   cases vd with
   | false =>
     have HR5:=Lib.hid ((hR.trans (if_neg (by rintro (h|⟨h,-⟩);exact h rfl;cases h))).trans (if_pos rfl))
     have i1:(0:Int)≤(st'.length:Int)+1-1:=by omega
     have i2:((st'.length:Int)+1-1).toNat=st'.length:=by omega
     have i3:IntKind.i64.wrap ((st'.length:Int)+1-1)=(st'.length:Int):=by rw [IntWalk.i64_in _ (by omega)];omega
     have i4:(st'.length:Int)≤(oc:Int):=by omega
     have i5:(0:Int)≤(st'.length:Int):=by omega
     have i6:(st'.length:Int).toNat=st'.length:=by omega
     clear hR HBAD HWT
     obtain ⟨F',hN,hV⟩:=HS2.out.popA (by rw [←HVD.out];exact HG.out)
     have hpg:p≠g:=Ne.symm hgp
     have HRX:=Lib.hid (show (W2.setCell ⟨p,3,none⟩ (.slice ao st'.length oc)).heap[r]?=_ from (heap_setCell_other W2 ⟨p,3,none⟩ r _ (Ne.symm hpr)).trans HR2.out)
     have HND:=Lib.hid hN
     have HVD2:=Lib.hid hV
     clear hN hV
     go_wp2
     go_region
     all_goals
       go_wp2
       refine bodyPost_ret (zaa rfl _ _ r 48 _ (0,0) _ rfl (by exact set4 HRX.out _ _ _ _) Tryz.underlying48 rfl (by exact zap) _ rfl) rfl ?_
       rw [HR5.out]
       exact ⟨F',_,rfl,(IsV.fin4 HVD2.out HND.out.stk _ _ _ _).drew,(Nxt.fin4 HS.out HW2.out HND.out (Nat.le_of_eq HRR.out.symm) _ _ _ _).drew⟩
   | true =>
     cases hev:(v.l.length % 2==0)
     · rw [hev,Bool.and_false] at HWT HWV
       have HB2:=Lib.hid (HBAD.out (hR.trans (if_pos (.inr ⟨rfl,HWV.out⟩))))
       clear hR HBAD h1 h2 hev
       go_wp2_with (go_at_call 162;refine HWT.out.mono ?_;rintro e w' ⟨rfl,rfl⟩)
       refine bodyPost_ret (zaa rfl _ _ r 48 _ (0,0) _ rfl (by exact set4 HR2.out _ _ _ _) Tryz.underlying48 rfl (by exact zap) _ rfl) rfl ?_
       exact HB2.out _ _ _ _ ⟨rfl,rfl,rfl,rfl⟩
     · rw [hev,Bool.and_true] at HWT HWV
       have hR6:=(hR.trans (if_neg (by rintro (h|⟨-,h⟩);exact h rfl;rw [HWV.out] at h;cases h))).trans (if_neg (by decide))
       have HR6:=Lib.hid hR6
       obtain ⟨m,hm⟩:∃m,2 * m=v.l.length:=⟨v.l.length / 2,by simp at hev;omega⟩
       obtain ⟨cs,hO,hVs⟩:=HS2.out.lastV (by rw [←HVD.out];exact HG.out)
       have HP:=Lib.hid (pairs_any (m:=m) (by rw [hm];exact (Row.of_own hO).2) hVs hm (by have:=HLE.out;omega))
       rw [←hm] at k1
       have i1:(0:Int)≤(st'.length:Int)+1-1:=by omega
       have i2:((st'.length:Int)+1-1).toNat=st'.length:=by omega
       have i3:IntKind.i64.wrap ((st'.length:Int)+1-1)=(st'.length:Int):=by rw [IntWalk.i64_in _ (by omega)];omega
       have i4:(st'.length:Int)≤(oc:Int):=by omega
       have i5:(0:Int)≤(st'.length:Int):=by omega
       have i6:(st'.length:Int).toNat=st'.length:=by omega
       have HRP:=Lib.hid (show r≠p from Ne.symm hpr)
       clear hR HBAD h1 h2 hev hm hO hVs
       cases hpv:zcO v.l with
       | none =>
         rw [hpv] at hR6 HP
         have HR7:=Lib.hid hR6
         clear hR6 hpv HR6
         go_wp2_with (first
           | (go_at_call 162;refine HWT.out.mono ?_;rintro e w' ⟨rfl,rfl⟩)
           | (go_at_call 163;refine HP.out.mono ?_;rintro e w3 ⟨hb3,rfl⟩;have HB3:=Lib.hid hb3;have HR23:=Lib.hid (zab hb3 HR2.out);clear hb3 q0 q1 q2 q3 n0 n1 n2 n3 k0 k1 c0 c1 c2 c3 f0 f1 f2 f3;obtain ⟨⟨q0,q1,q2,q3⟩,n0,n1,n2,n3⟩:=zae HR23.out))
         refine bodyPost_ret (zaa rfl _ _ r 48 _ (0,0) _ rfl (by exact set4 HR23.out _ _ _ _) Tryz.underlying48 rfl (by exact zap) _ rfl) rfl ?_
         rw [HR7.out]
         exact ⟨F,.slice none 0 0,rfl,IsV.leaf _ _ _ rfl,Nxt.fin4 HS.out HW2.out (Nxt.refl HS2.out HB3.out) (Nat.le_of_eq HRR.out.symm) _ _ _ _⟩
       | some m2 =>
         rw [hpv] at hR6 HP
         have HR7:=Lib.hid hR6
         clear hR6 hpv HR6
         go_wp2_with (first
           | (go_at_call 162;refine HWT.out.mono ?_;rintro e w' ⟨rfl,rfl⟩)
           | (go_at_call 163;refine HP.out.mono ?_;rintro e w3 ⟨hb3,v3,cs3,rfl,hO3,hV3⟩;obtain ⟨a3,cap3,rfl,-,-⟩:=zbi hO3;obtain ⟨hS3,hD3⟩:=HS2.out.gain hb3 hO3 hV3;obtain ⟨F',hN4,hV4⟩:=hS3.popD hD3;have HB3:=Lib.hid hb3;have HND:=Lib.hid hN4;have HVD2:=Lib.hid hV4;have HRX:=Lib.hid (show (w3.setCell ⟨p,3,none⟩ (.slice ao st'.length oc)).heap[r]?=_ from (heap_setCell_other w3 ⟨p,3,none⟩ r _ (Ne.symm hpr)).trans (zab hb3 HR2.out));have HS3:=Lib.hid hS3;have HR23:=Lib.hid (zab hb3 HR2.out);clear hb3 hO3 hV3 hS3 hD3 hN4 hV4 q0 q1 q2 q3 n0 n1 n2 n3 k0 k1 c0 c1 c2 c3 f0 f1 f2 f3;obtain ⟨⟨q0,q1,q2,q3⟩,n0,n1,n2,n3⟩:=zae HR23.out;obtain ⟨⟨c0,c1,c2,c3⟩,f0,f1,f2,f3⟩:=HS3.out.cells;simp only [List.length_cons] at c3))
         go_region
         all_goals
           go_wp2
           refine bodyPost_ret (zaa rfl _ _ r 48 _ (0,0) _ rfl (by exact set4 HRX.out _ _ _ _) Tryz.underlying48 rfl (by exact zap) _ rfl) rfl ?_
           rw [HR7.out]
           exact ⟨F',_,rfl,(IsV.fin4 HVD2.out HND.out.stk _ _ _ _).drew,(Nxt.fin4 HS.out (HW2.out.trans (HB3.out.mono HW2.out.size)) (HND.out.weak fun b hb=>.inl hb) (Nat.le_of_eq HRR.out.symm) _ _ _ _).drew⟩
end
end Go.Proofs.YtkhcjoomijkfbaaGreatDoor
namespace Go.Proofs.YtkhcjoomijkfbaaGreatDoor
open Go.RowKit
section
variable {w0 w w' : World} {F F' G : Nat → Prop} {p : Nat} {a : Option Addr} {cap : Nat} {bs : List UInt8} {last : Bool} {st : List Lv} {at_ : Int} {gs : List Nat} {osl : Value}
def PStep (w0 w:World) (F G:Nat→Prop) (p:Nat) (a:Option Addr) (cap:Nat) (bs:List UInt8) (last:Bool) (R:Option PV×List Lv×Int×Int) (e:Ending) (w':World):Prop :=
 ∃F' sa sn sc V,e=.returned (.tuple #[pvA V (.slice sa sn sc),.bool R.1.isSome,.int .i64 R.2.2.2])∧(∀X,R.1=some X→V=X∧IsV w' F' V (.slice sa sn sc))∧Nxt w0 w F G p a cap bs last R.2.1 R.2.2.1 F' w'
theorem zcD {S:Nat→Prop} {w w':World} (h:za4 S w w') {b o:Nat} {v:Value} (hc:w.cell? ⟨b,o,none⟩=some v) (hS:S b):w'.cell? ⟨b,o,none⟩=some v:=by
 rw [World.cell?_of_block (w:=w) (a:=⟨b,o,none⟩) (h.2 b (World.block_lt_of_cell? w _ hc) hS)];exact hc
theorem zb7 {S:Nat→Prop} {w w':World} (h:za4 S w w') {b:Nat} {o:Obj} (hc:w.heap[b]?=some o) (hS:S b):w'.heap[b]?=some o:=by
 rw [h.2 b (zaj hc) hS];exact hc
def G3 (G:Nat→Prop) (r:Nat):Nat→Prop:=fun b=>G b∨b=r∨b=r+1∨b=r+2
theorem Nxt.fin3 {W1 W2:World} {r:Nat} (h:zav w0 w F G p a cap bs last st at_ gs osl) (hb:Below w.heap.size w W1) {st2:List Lv} {at2:Int} (N:Nxt w0 W1 F (G3 G r) p a cap bs last st2 at2 F' W2) (hr:w.heap.size≤r) {k:Nat} (hk:k=r+1) (y0 y1 y2 y3:Value) :
   Nxt w0 w F G p a cap bs last st2 at2 F' ((((W2.setCell ⟨k,0,none⟩ y0).setCell ⟨k,1,none⟩ y1).setCell ⟨k,2,none⟩ y2).setCell ⟨k,3,none⟩ y3):=by
 subst hk
 obtain ⟨gs2,osl2,hs⟩:=N.stk
 have hGl:∀b,G b→b<w.heap.size:=fun b hb=>(h.gb b hb).2
 have hFl:∀b,F b→b<w.heap.size:=fun b hb=>h.Flt hb
 have h1:=hb.size
 have h2:=N.sg.1
 refine ⟨⟨gs2,osl2,(hs.set4 (.inr (.inr (.inl rfl))) _ _ _ _).give fun b hb=>.inl hb⟩,⟨by rw [zaN];omega,fun b hb1 hG=>?_⟩,⟨by rw [zaN];omega,fun b hb1 hf=>?_⟩,N.ff⟩
 · rw [zaS (by have:=hGl b hG;omega),N.sg.2 b (by omega) (.inl hG),hb.block b hb1]
 · rw [zaS (by have:=hFl b hf;omega),N.sf.2 b (by omega) hf,hb.block b hb1]
theorem Nxt.fin34 {W1 W2:World} {r:Nat} (h:zav w0 w F G p a cap bs last st at_ gs osl) (hb:Below w.heap.size w W1) {st2:List Lv} {at2:Int} (N:Nxt w0 W1 F (G3 G r) p a cap bs last st2 at2 F' W2) (hr:w.heap.size≤r) (y0 y1 y2 y3 z0 z1 z2 z3:Value) :
   Nxt w0 w F G p a cap bs last st2 at2 F' ((((((((W2.setCell ⟨r+1+1,0,none⟩ z0).setCell ⟨r+1+1,1,none⟩ z1).setCell ⟨r+1+1,2,none⟩ z2).setCell ⟨r+1+1,3,none⟩ z3).setCell ⟨r+1,0,none⟩ y0).setCell ⟨r+1,1,none⟩ y1).setCell ⟨r+1,2,none⟩ y2).setCell ⟨r+1,3,none⟩ y3):=by
 obtain ⟨gs2,osl2,hs⟩:=N.stk
 have hGl:∀b,G b→b<w.heap.size:=fun b hb=>(h.gb b hb).2
 have hFl:∀b,F b→b<w.heap.size:=fun b hb=>h.Flt hb
 have h1:=hb.size
 have h2:=N.sg.1
 refine ⟨⟨gs2,osl2,((hs.set4 (r:=r+1+1) (.inr (.inr (.inr rfl))) _ _ _ _).set4 (.inr (.inr (.inl rfl))) _ _ _ _).give fun b hb=>.inl hb⟩,⟨by rw [zaN,zaN];omega,fun b hb1 hG=>?_⟩,⟨by rw [zaN,zaN];omega,fun b hb1 hf=>?_⟩,N.ff⟩
 · rw [zaS (by have:=hGl b hG;omega),zaS (by have:=hGl b hG;omega),N.sg.2 b (by omega) (.inl hG),hb.block b hb1]
 · rw [zaS (by have:=hFl b hf;omega),zaS (by have:=hFl b hf;omega),N.sf.2 b (by omega) hf,hb.block b hb1]
theorem IsV.fin34 {W2:World} {r:Nat} {st2:List Lv} {at2:Int} {v:PV} {sl:Value} (h:IsV W2 F' v sl) (N:Stk w0 W2 F' (G3 G r) p a cap bs last st2 at2) (y0 y1 y2 y3 z0 z1 z2 z3:Value) :
   IsV ((((((((W2.setCell ⟨r+1+1,0,none⟩ z0).setCell ⟨r+1+1,1,none⟩ z1).setCell ⟨r+1+1,2,none⟩ z2).setCell ⟨r+1+1,3,none⟩ z3).setCell ⟨r+1,0,none⟩ y0).setCell ⟨r+1,1,none⟩ y1).setCell ⟨r+1,2,none⟩ y2).setCell ⟨r+1,3,none⟩ y3) F' v sl:=by
 obtain ⟨gs2,osl2,hs⟩:=N
 refine IsV.keep ⟨by rw [zaN,zaN];exact Nat.le_refl _,fun b _ hf=>?_⟩ (fun _ h=>h) v h
 have hn:=(hs.fb b hf).2.1
 rw [zaS (fun e=>hn (.inr (.inr (.inl e)))),zaS (fun e=>hn (.inr (.inr (.inr e))))]
theorem single_leaf (bs:List UInt8) (last:Bool) (st:List Lv) (at_:Int) (x:Tk):(zaK bs last st at_ x).1.l=[]:=by
 unfold zaK
 split
 · rfl
 · split
   · split
     · rfl
     · rename_i v hv
       unfold zdb at hv
       split at hv
       · cases hv;rfl
       · split at hv
         · cases hv;rfl
         · split at hv
           · cases hv;rfl
           · cases hv
   · split
     · unfold refV
       simp only
       split
       · rfl
       · split
         · rfl
         · split
           · rfl
           · rfl
     · rfl
theorem zah {P:Program} {fn:Func} {p u z:Tmp} {ty:TypeId} (h:fn.results=#[.cell p ty,.tmp u,.tmp z]) (tmps:Array Value) (w:World) (g:Nat) (t:TypeId) (cs:Array Value) (fr:Nat×Nat) (d:TypeDesc)
   (hp:tmps.getD p undef=.pointer (some ⟨g,0,none⟩)) (hg:w.heap[g]?=some (.cells cs t fr))
   (hu:P.underlying ty=some d) (hd:(match d with | .struct _ | .array _ _=>true|_=>false)=true) (hi:(P.info? ty).map (·.size)=some cs.size) (v v2:Value) (hv:tmps.getD u undef=v) (hv2:tmps.getD z undef=v2) :
   (results fn tmps).run P w=.ok (.tuple #[.agg cs,v,v2]) w:=by
 simp only [Array.getD_eq_getD_getElem?] at hp hv hv2
 simp [results,h,hp,hv,hv2,asAddr,Result.andThen,run_loadVar_row w g t ty cs fr d hg hu hd hi]
def S5 (w:World) (r:Nat) (kd:Int):Prop:=w.cell? ⟨r,0,none⟩=some (.int .i64 kd)∧w.cell? ⟨r+2,0,none⟩=some (.int .i64 0)∧w.cell? ⟨r+2,1,none⟩=some (.int .i64 0)∧w.cell? ⟨r+2,2,none⟩=some (.string ⟨#[]⟩)∧w.cell? ⟨r+2,3,none⟩=some (.slice none 0 0)
theorem S5.drew {w:World} {r:Nat} {kd:Int} (h:S5 w r kd):S5 w.drew r kd:=h
theorem S5.stays {w w':World} {r:Nat} {kd:Int} (h:S5 w r kd) (hs:za4 (G3 G r) w w'):S5 w' r kd:=by
 exact ⟨zcD hs h.1 (.inr (.inl rfl)),zcD hs h.2.1 (.inr (.inr (.inr rfl))),zcD hs h.2.2.1 (.inr (.inr (.inr rfl))),zcD hs h.2.2.2.1 (.inr (.inr (.inr rfl))),zcD hs h.2.2.2.2 (.inr (.inr (.inr rfl)))⟩
theorem S5.set4 {w:World} {r:Nat} {kd:Int} (h:S5 w r kd) (y0 y1 y2 y3:Value):S5 ((((w.setCell ⟨r+1,0,none⟩ y0).setCell ⟨r+1,1,none⟩ y1).setCell ⟨r+1,2,none⟩ y2).setCell ⟨r+1,3,none⟩ y3) r kd:=by
 have g : ∀ b o v, b ≠ r + 1 → w.cell? ⟨b, o, none⟩ = some v → ((((w.setCell ⟨r + 1, 0, none⟩ y0).setCell ⟨r + 1, 1, none⟩ y1).setCell ⟨r + 1, 2, none⟩ y2).setCell ⟨r + 1, 3, none⟩ y3).cell? ⟨b, o, none⟩ = some v := fun b o v hb hc => by
   rw [World.cell?_of_block (w:=w) (a:=⟨b,o,none⟩) (zaS hb _ _ _ _)];exact hc
 exact ⟨g _ _ _ (by omega) h.1,g _ _ _ (by omega) h.2.1,g _ _ _ (by omega) h.2.2.1,g _ _ _ (by omega) h.2.2.2.1,g _ _ _ (by omega) h.2.2.2.2⟩
theorem step_any (h:zav w0 w F G p a cap bs last st at_ gs osl) (x:Tk) (f t:Int) (hlen:∀v∈st,v.l.length≤400000) :
   Calls Tryz.prog 96 #[.pointer (some ⟨p,0,none⟩),.agg (tokN x f t)] w (PStep w0 w F G p a cap bs last (za5 bs last st at_ x)):=by
 obtain ⟨R,hR⟩:∃R,R=za5 bs last st at_ x:=⟨_,rfl⟩
 rw [←hR]
 have HS:=Lib.hid h
 obtain ⟨r,hr⟩:∃r,r=w.heap.size:=⟨_,rfl⟩
 have HRR:=Lib.hid hr
 have HB1:=Lib.hid (zfn w (.cells (tokN x f t) 112) (.cells #[.int .i64 0,.int .i64 0,.string ⟨#[]⟩,.slice none 0 0] 48) (.cells #[.int .i64 0,.int .i64 0,.string ⟨#[]⟩,.slice none 0 0] 48))
 have h1 := h.res (G' := G3 G r) HB1.out (fun b hb => by
   rw [zas,zas,zas]
   rcases hb with hb|hb|hb|hb
   · exact .inl hb
   · exact .inr (by omega)
   · exact .inr (by omega)
   · exact .inr (by omega))
 have k0:=zao (.cells #[.int .i64 0,.int .i64 0,.string ⟨#[]⟩,.slice none 0 0] 48) (zao (.cells #[.int .i64 0,.int .i64 0,.string ⟨#[]⟩,.slice none 0 0] 48) (zac (w:=w) (b:=r) (.cells (tokN x f t) 112) hr))
 have k1:=zao (.cells #[.int .i64 0,.int .i64 0,.string ⟨#[]⟩,.slice none 0 0] 48) (zac (w:=w.alloc (.cells (tokN x f t) 112)) (b:=r+1) (.cells #[.int .i64 0,.int .i64 0,.string ⟨#[]⟩,.slice none 0 0] 48) (by rw [zas,hr]))
 have k2:=zac (w:=(w.alloc (.cells (tokN x f t) 112)).alloc (.cells #[.int .i64 0,.int .i64 0,.string ⟨#[]⟩,.slice none 0 0] 48)) (b:=r+2) (.cells #[.int .i64 0,.int .i64 0,.string ⟨#[]⟩,.slice none 0 0] 48) (by rw [zas,zas,hr])
 have HSG:=Lib.hid (fun (W:World) (h:zav w0 W F (G3 G r) p a cap bs last st at_ gs osl)=>single_any h x f t)
 have hkind:∃q0 q1 q2 q3 q4 q5 q6 q7,tokN x f t=#[q0,q1,q2,q3,q4,q5,q6,q7]∧q0=.int .i64 x.kind:=⟨_,_,_,_,_,_,_,_,rfl,rfl⟩
 obtain ⟨q0,q1,q2,q3,q4,q5,q6,q7,htk,rfl⟩:=hkind
 rw [htk] at HB1 h1 k0 k1 k2 HSG ⊢
 have HH1:=Lib.hid h1
 have K0:=Lib.hid k0
 have K1:=Lib.hid k1
 have K2:=Lib.hid k2
 unfold za5 at hR
 have HR:=Lib.hid hR
 have HLEN:=Lib.hid hlen
 have hpw:=h.lt
 have hpr:p≠r:=by omega
 have hpr1:p≠r+1:=by omega
 have hpr2:p≠r+2:=by omega
 have hw0:w.heap.size≤r:=by omega
 have HW0:=Lib.hid hw0
 clear h1 k0 k1 k2 h hlen htk hR hpw hw0
 go_enter Tryz.func96,Tryz.ntmps96
 go_upto_region 3 with fail
 rw [←hr]
 generalize ((w.alloc _).alloc _).alloc _=W1 at *
 generalize x.kind=kd at *
 clear hr
 by_cases hk0:kd=0
 · subst hk0
   have hR2:=Lib.hid (HR.out.trans (if_pos rfl))
   obtain ⟨⟨c0,-⟩,-⟩:=zaf K0.out
   obtain ⟨⟨a0,a1,a2,a3⟩,b0,b1,b2,b3⟩:=zae K1.out
   obtain ⟨⟨d0,d1,d2,d3⟩,e0,e1,e2,e3⟩:=zae K2.out
   go_wp2
   refine bodyPost_ret (zah rfl _ _ (r+1) 48 _ (0,0) _ rfl (by exact set4 K1.out _ _ _ _) Tryz.underlying48 rfl (by exact zap) _ _ rfl rfl) rfl ?_
   rw [hR2.out]
   exact ⟨F,none,0,0,PV.none,rfl,fun X hX=>(by cases hX),Nxt.fin3 HS.out HB1.out (Nxt.refl HH1.out (Below.refl _ _)) HW0.out rfl _ _ _ _⟩
 have hR1:=HR.out.trans (if_neg hk0)
 have e0:(kd==0)=false:=by rw [beq_eq_false_iff_ne];exact hk0
 by_cases hk2:kd=2∨kd=4
 · have hR2:=hR1.trans (if_pos hk2)
   obtain ⟨dd,hdd⟩:∃dd,dd=(kd==4):=⟨_,rfl⟩
   rw [←hdd] at hR2
   have HR2:=Lib.hid hR2
   have HBG:=Lib.hid (begin_any (show zav w0 W1.drew F (G3 G r) p a cap bs last st at_ gs osl from HH1.out.drewN 1) dd)
   have HK0:=Lib.hid (show W1.drew.heap[r+1]?=_ from K1.out)
   clear hR1 hR2 HSG HR
   obtain ⟨⟨c0,-⟩,-⟩:=zaf K0.out
   obtain ⟨⟨d0,d1,d2,d3⟩,-⟩:=zae K2.out
   have HC0:Hid (S5 W1 r kd):=Lib.hid ⟨c0,d0,d1,d2,d3⟩
   have hgo:∀wN,Nxt w0 W1.drew F (G3 G r) p a cap bs last (zcb st dd).1 at_ F wN→∀W,W=((((wN.setCell ⟨r+1,0,none⟩ (.int .i64 0)).setCell ⟨r+1,1,none⟩ (.int .i64 0)).setCell ⟨r+1,2,none⟩ (.string ⟨#[]⟩)).setCell ⟨r+1,3,none⟩ (.slice none 0 0)) →
       PStep w0 w F G p a cap bs last R (.returned (.tuple #[.agg #[.int .i64 0,.int .i64 0,.string ⟨#[]⟩,.slice none 0 0],.bool false,.int .i64 (zcb st dd).2])) W:=fun wN N W hW=>by
     rw [HR2.out,hW]
     exact ⟨F,none,0,0,PV.none,rfl,fun X hX=>(by cases hX),Nxt.fin3 HS.out HB1.out.drew N HW0.out rfl _ _ _ _⟩
   have HGO:=Lib.hid hgo
   have hrr:r+1≠r:=by omega
   clear hgo
   have e4:(kd==4)=dd:=hdd.symm
   have hcase:(kd==2)=true∨((kd==2)=false∧dd=true):=by
     rcases hk2 with rfl|rfl
     · exact .inl rfl
     · exact .inr ⟨rfl,hdd⟩
   clear hdd hk2 hk0
   rcases hcase with e2|⟨e2,rfl⟩
   all_goals
     go_wp2
     go_region_held3 (fun w' => w'.cell? ⟨r, 0, none⟩ = some (.int .i64 kd) ∧ w'.cell? ⟨r + 2, 0, none⟩ = some (.int .i64 0) ∧ w'.cell? ⟨r + 2, 1, none⟩ = some (.int .i64 0) ∧ w'.cell? ⟨r + 2, 2, none⟩ = some (.string ⟨#[]⟩) ∧ w'.cell? ⟨r + 2, 3, none⟩ = some (.slice none 0 0))
       ((show S5 _ r kd;(first
         | (with_reducible exact HC0.out.drew)
         | (with_reducible exact HC0.out)
         | (with_reducible exact Hid.out (by assumption))
         | (with_reducible exact S5.set4 (Hid.out (by assumption)) _ _ _ _))))
       ((go_at_call 131;(with_reducible refine HBG.out.mono ?_);rintro e wN ⟨rfl,hN⟩;have HSN:=Lib.hid (HC0.out.drew.stays hN.sg);have HN:=Lib.hid hN;have HK1:=Lib.hid (zb7 hN.sg HK0.out (.inr (.inr (.inl rfl))));obtain ⟨⟨a0,a1,a2,a3⟩,b0,b1,b2,b3⟩:=zae HK1.out))
     all_goals
       go_wp2
       refine bodyPost_ret (zah rfl _ _ (r+1) 48 _ (0,0) _ rfl (by exact set4 HK1.out _ _ _ _) Tryz.underlying48 rfl (by exact zap) _ _ rfl rfl) rfl ?_
       exact HGO.out _ HN.out _ rfl
 have e2:(kd==2)=false:=by rw [beq_eq_false_iff_ne];intro e;exact hk2 (.inl e)
 have e4:(kd==4)=false:=by rw [beq_eq_false_iff_ne];intro e;exact hk2 (.inr e)
 have hR2:=hR1.trans (if_neg hk2)
 obtain ⟨⟨c0,c1,c2,c3,c4,c5,c6,c7⟩,-⟩:=zaf K0.out
 have hr12:r+1≠r+2:=by omega
 have hr21:r+2≠r+1:=by omega
 have HFL := Lib.hid (fun b (hb : F b) => (show b < W1.heap.size ∧ b ≠ r + 2 by
   have h1:=HS.out.Flt hb
   have h2:=HB1.out.size
   have h3:=HW0.out
   omega))
 by_cases hk3:kd=3∨kd=5
 · have hR3:=hR2.trans (if_pos hk3)
   obtain ⟨dd,hdd⟩:∃dd,dd=(kd==5):=⟨_,rfl⟩
   rw [←hdd] at hR3
   have HR3:=Lib.hid hR3
   have HEN:=Lib.hid (end_any HH1.out dd HLEN.out)
   have e5:(kd==5)=dd:=hdd.symm
   have hcase:(kd==3)=true∨((kd==3)=false∧dd=true):=by
     rcases hk3 with rfl|rfl
     · exact .inl rfl
     · exact .inr ⟨rfl,hdd⟩
   clear hR1 hR2 hR3 HSG HR hk0 hk2 hk3 hdd c1 c2 c3 c4 c5 c6 c7
   rcases hcase with e3|⟨e3,rfl⟩
   all_goals
     go_wp2_with fail
     refine HEN.out.mono ?_
     rintro e wN ⟨F',sl,rfl,hV,hN⟩
     obtain ⟨sa,sc,rfl,-,-,-⟩:=hV.len
     have HN:=Lib.hid hN
     have HV:=Lib.hid hV
     have HK1:=Lib.hid (zb7 hN.sg K1.out (.inr (.inr (.inl rfl))))
     have HK2:=Lib.hid (zb7 hN.sg K2.out (.inr (.inr (.inr rfl))))
     obtain ⟨⟨a0,a1,a2,a3⟩,b0,b1,b2,b3⟩:=zae HK1.out
     obtain ⟨⟨d0,d1,d2,d3⟩,g0,g1,g2,g3⟩:=zae HK2.out
     clear hN hV c0
     generalize zbG st _=Q at *
     obtain ⟨V,st2,er⟩:=Q
     simp only at HR3 HV HN a0
     unfold pvA
     by_cases he:er=0
     · subst he
       have HR4:=Lib.hid (HR3.out.trans (if_pos rfl))
       go_wp2
       refine bodyPost_ret (zah rfl _ _ (r+1) 48 _ (0,0) _ rfl (by exact set4 ((zaS hr12 _ _ _ _).trans HK1.out) _ _ _ _) Tryz.underlying48 rfl (by exact zap) _ _ rfl rfl) rfl ?_
       rw [HR4.out]
       exact ⟨F',_,_,_,V,rfl,fun X hX=>⟨Option.some.inj hX,IsV.fin34 HV.out HN.out.stk _ _ _ _ _ _ _ _⟩,Nxt.fin34 HS.out HB1.out HN.out HW0.out _ _ _ _ _ _ _ _⟩
     · have f1 : (er == 0) = false := by rw [beq_eq_false_iff_ne]; exact he
       have HR4:=Lib.hid (HR3.out.trans (if_neg he))
       clear he
       go_wp2
       refine bodyPost_ret (zah rfl _ _ (r+1) 48 _ (0,0) _ rfl (by exact set4 ((zaS hr12 _ _ _ _).trans HK1.out) _ _ _ _) Tryz.underlying48 rfl (by exact zap) _ _ rfl rfl) rfl ?_
       rw [HR4.out]
       exact ⟨F',_,_,_,V,rfl,fun X hX=>(by cases hX),Nxt.fin34 HS.out HB1.out HN.out HW0.out _ _ _ _ _ _ _ _⟩
 have hR3:=hR2.trans (if_neg hk3)
 have e3:(kd==3)=false:=by rw [beq_eq_false_iff_ne];intro e;exact hk3 (.inl e)
 have e5:(kd==5)=false:=by rw [beq_eq_false_iff_ne];intro e;exact hk3 (.inr e)
 have HR3:=Lib.hid hR3
 have HSX:=Lib.hid (HSG.out _ HH1.out)
 have HLF:=Lib.hid (single_leaf bs last st at_ x)
 clear hR1 hR2 hR3 HSG HR hk0 hk2 hk3
 go_wp2_with fail
 refine HSX.out.mono ?_
 rintro e wN ⟨he,hs,hkp⟩
 have hN:Nxt w0 W1 F (G3 G r) p a cap bs last st (zaK bs last st at_ x).2.1 F wN:=⟨⟨_,_,hs⟩,⟨hkp.size,fun b hb hG=>hkp.block b hb (fun e=>HH1.out.gp (e▸hG))⟩,⟨hkp.size,fun b hb hf=>hkp.block b hb (HH1.out.notF hf)⟩,fun _ h=>h⟩
 have HN:=Lib.hid hN
 have HK1:=Lib.hid (zb7 hN.sg K1.out (.inr (.inr (.inl rfl))))
 have HK2:=Lib.hid (zb7 hN.sg K2.out (.inr (.inr (.inr rfl))))
 obtain ⟨⟨a0,a1,a2,a3⟩,b0,b1,b2,b3⟩:=zae HK1.out
 obtain ⟨⟨d0,d1,d2,d3⟩,g0,g1,g2,g3⟩:=zae HK2.out
 obtain ⟨ao,oc,rfl,ho1,ho2⟩:=zbi hs.own
 obtain ⟨⟨p0,p1,p2,p3⟩,-⟩:=hs.cells
 clear hN hs hkp c0 c1 c2 c3 c4 c5 c6 c7 HSX
 generalize zaK bs last st at_ x=Q at *
 obtain ⟨V,at2,er⟩:=Q
 simp only at HR3 HN HLF he p1
 unfold pvA at he
 subst he
 by_cases he:er=0
 case neg =>
   have f1:(er==0)=false:=by rw [beq_eq_false_iff_ne];exact he
   have HR4:=Lib.hid (HR3.out.trans (if_pos he))
   clear he
   go_wp2
   refine bodyPost_ret (zah rfl _ _ (r+1) 48 _ (0,0) _ rfl (by exact set4 ((zaS hr12 _ _ _ _).trans HK1.out) _ _ _ _) Tryz.underlying48 rfl (by exact zap) _ _ rfl rfl) rfl ?_
   rw [HR4.out]
   exact ⟨F,_,_,_,V,rfl,fun X hX=>(by cases hX),Nxt.fin34 HS.out HB1.out HN.out HW0.out _ _ _ _ _ _ _ _⟩
 subst he
 by_cases h64:64≤st.length
 · have hd:decide (64≤st.length)=true:=decide_eq_true h64
   have hd2:decide ((64:Int)≤(st.length:Int))=true:=decide_eq_true (by omega)
   have HR4:=Lib.hid ((HR3.out.trans (if_neg (by simp))).trans (if_pos h64))
   clear h64
   go_wp2
   refine bodyPost_ret (zah rfl _ _ (r+1) 48 _ (0,0) _ rfl (by exact set4 ((zaS hr12 _ _ _ _).trans HK1.out) _ _ _ _) Tryz.underlying48 rfl (by exact zap) _ _ rfl rfl) rfl ?_
   rw [HR4.out]
   exact ⟨F,_,_,_,V,rfl,fun X hX=>(by cases hX),Nxt.fin34 HS.out HB1.out HN.out HW0.out _ _ _ _ _ _ _ _⟩
 · have hd:decide (64≤st.length)=false:=decide_eq_false h64
   have hd2:decide ((64:Int)≤(st.length:Int))=false:=decide_eq_false (by omega)
   have HR4:=Lib.hid ((HR3.out.trans (if_neg (by simp))).trans (if_neg h64))
   clear h64
   go_wp2
   refine bodyPost_ret (zah rfl _ _ (r+1) 48 _ (0,0) _ rfl (by exact set4 ((zaS hr12 _ _ _ _).trans HK1.out) _ _ _ _) Tryz.underlying48 rfl (by exact zap) _ _ rfl rfl) rfl ?_
   rw [HR4.out]
   exact ⟨F,_,_,_,V,rfl,fun X hX=>⟨Option.some.inj hX,IsV.fin34 (IsV.leaf _ _ _ HLF.out) HN.out.stk _ _ _ _ _ _ _ _⟩,Nxt.fin34 HS.out HB1.out HN.out HW0.out _ _ _ _ _ _ _ _⟩
end
end Go.Proofs.YtkhcjoomijkfbaaGreatDoor
namespace Go.Proofs.YtkhcjoomijkfbaaGreatDoor
open Go.RowKit
def zb1 (w:World) (R:PV×Int×Int) (e:Ending) (w':World):Prop :=
 ∃sl,e=.returned (.tuple #[pvA R.1 sl,.int .i64 R.2.1,.int .i64 R.2.2])∧IsV w' (fun b=>w.heap.size≤b) R.1 sl∧Below w.heap.size w w'
structure DvM (w W:World) (B:Nat) (tc:Array Value):Prop where
 b0:W.heap[B]?=some (.cells tc 91 (0,0))
 b1:W.heap[B+1]?=some (.cells #[.int .i64 0,.int .i64 0,.string ⟨#[]⟩,.slice none 0 0] 48 (0,0))
 b2:W.heap[B+1+1]?=some (.cells #[.int .i64 0,.int .i64 0,.string ⟨#[]⟩,.slice none 0 0] 48 (0,0))
 bel:Below w.heap.size w W
 hB:B=w.heap.size
theorem DvM.keep {w W W':World} {B:Nat} {tc:Array Value} (h:DvM w W B tc) (hb:Below W.heap.size W W'):DvM w W' B tc :=
 ⟨zab hb h.b0,zab hb h.b1,zab hb h.b2,h.bel.trans (hb.mono h.bel.size),h.hB⟩
theorem DvM.fin {w W:World} {B:Nat} {tc:Array Value} (h:DvM w W B tc) (y0 y1 y2 y3:Value) :
   Below w.heap.size w ((((W.setCell ⟨B+1,0,none⟩ y0).setCell ⟨B+1,1,none⟩ y1).setCell ⟨B+1,2,none⟩ y2).setCell ⟨B+1,3,none⟩ y3):=zad h.bel (by have:=h.hB;omega) _ _ _ _
theorem DvM.start (w:World) (x:Array Value) {B:Nat} (hB:B=w.heap.size):DvM w (((w.alloc (.cells x 91)).alloc (.cells #[.int .i64 0,.int .i64 0,.string ⟨#[]⟩,.slice none 0 0] 48)).alloc (.cells #[.int .i64 0,.int .i64 0,.string ⟨#[]⟩,.slice none 0 0] 48)) B x :=
 ⟨zao _ (zao _ (zac _ hB)),zao _ (zac _ (by rw [zas,hB])),zac _ (by rw [zas,zas,hB]),zfn _ _ _ _,hB⟩
theorem zaD {w W:World} {R:PV×Int×Int} (hl:R.1.l=[]) (hb:Below w.heap.size w W):zb1 w R (.returned (.tuple #[pvA R.1 (.slice none 0 0),.int .i64 R.2.1,.int .i64 R.2.2])) W:=⟨_,rfl,IsV.leaf _ _ _ hl,hb⟩
theorem zfw {w:World} {a:Option Addr} {cap:Nat} {bs:List UInt8} (hr:Row w 1 a bs.length cap (bs.map u8C)) (hn:bs.length≤400000) (last:Bool) (x:Tk) (f tt D:Int) (hk:x.kind≠0∧x.kind≠2∧x.kind≠3∧x.kind≠4∧x.kind≠5) :
   Calls Tryz.prog 67 #[.slice a bs.length cap,.agg (tokN x f tt),.bool last,.int .i64 D] w (zb1 w (if (zbF bs last x tt).2.2≠0 then (PV.none,0,(zbF bs last x tt).2.2) else if 64≤D then (PV.none,0,15) else zbF bs last x tt)):=by
 have HRF:=Lib.hid (fun (W:World) (h:Below w.heap.size w W)=>rref_any (hr.mono h) hn tt last x.vn)
 have HWH:=Lib.hid (fun W=>zfm x f tt W)
 obtain ⟨R,hR⟩:∃R,R=(if (zbF bs last x tt).2.2≠0 then (PV.none,0,(zbF bs last x tt).2.2) else if 64≤D then (PV.none,0,15) else zbF bs last x tt):=⟨_,rfl⟩
 rw [←hR]
 obtain ⟨S,hS⟩:∃S,S=zbF bs last x tt:=⟨_,rfl⟩
 rw [←hS] at hR
 unfold zbF at hS
 generalize refD bs last tt x.vn=rd at *
 have hwx:zaC x=(x.kind==1&&x.vk==2):=rfl
 obtain ⟨wh,hwh⟩:∃wh,wh=zaC x:=⟨_,rfl⟩
 rw [←hwh] at HWH hS
 rw [←hwh] at hwx
 have HWX:=Lib.hid hwx
 clear hwh hwx
 obtain ⟨xk,xvk,xvn,xvs,xs⟩:=x
 obtain ⟨hk0,hk2,hk3,hk4,hk5⟩:=hk
 simp only at hk0 hk2 hk3 hk4 hk5 hS HWX HRF
 unfold tokN at HWH ⊢
 simp only [tkV] at HWH hS ⊢
 have HR:=Lib.hid hR
 have HS:=Lib.hid hS
 have e0:(xk==0)=false:=by rw [beq_eq_false_iff_ne];exact hk0
 have e2:(xk==2)=false:=by rw [beq_eq_false_iff_ne];exact hk2
 have e3:(xk==3)=false:=by rw [beq_eq_false_iff_ne];exact hk3
 have e4:(xk==4)=false:=by rw [beq_eq_false_iff_ne];exact hk4
 have e5:(xk==5)=false:=by rw [beq_eq_false_iff_ne];exact hk5
 have w1:=zbI xs [116,114,117,101]
 have w2:=zbI xs [102,97,108,115,101]
 have w3:=zbI xs [110,117,108,108]
 have HW1:=Lib.hid w1
 have HW2:=Lib.hid w2
 have HW3:=Lib.hid w3
 clear hR hS hr hn hk0 hk2 hk3 hk4 hk5 w1 w2 w3
 generalize mkB xs=xb at *
 generalize bs.length=L at *
 go_enter Tryz.func67,Tryz.ntmps67
 obtain ⟨B,hB⟩:∃B,B=w.heap.size:=⟨_,rfl⟩
 have HM:=Lib.hid (DvM.start w #[.int .i64 xk,.int .i64 f,.int .i64 tt,.int .i64 xvk,.int .i64 xvn,.string (mkB xvs),.slice none 0 0,.string xb] hB)
 go_upto_region 2 with fail
 rw [←hB]
 clear hB
 generalize ((w.alloc _).alloc _).alloc _=W1 at *
 obtain ⟨⟨k0,k1,k2,k3,k4,k5,k6,k7⟩,-⟩:=zaf HM.out.b0
 obtain ⟨V,hV⟩:∃V,V=W1.heap.size:=⟨_,rfl⟩
 have HV0:=Lib.hid (zac (w:=W1) (b:=V) (.cells #[.int .i64 xvk,.int .i64 xvn,.string (mkB xvs),.slice none 0 0] 48) hV)
 have HB0:=Lib.hid (zam W1 (.cells #[.int .i64 xvk,.int .i64 xvn,.string (mkB xvs),.slice none 0 0] 48))
 have HVV:=Lib.hid (Nat.le_of_eq hV.symm)
 go_upto_region 13 with fail
 rw [←hV]
 clear hV
 clear k0 k1 k2 k3 k4 k5 k6 k7
 generalize W1.alloc _=W2 at *
 obtain ⟨⟨k0,k1,k2,k3,k4,k5,k6,k7⟩,-⟩:=zaf (HM.out.keep HB0.out).b0
 obtain ⟨⟨v0,v1,v2,v3⟩,vf0,vf1,vf2,vf3⟩:=zae HV0.out
 obtain ⟨⟨n0,n1,n2,n3⟩,-⟩:=zae (HM.out.keep HB0.out).b2
 obtain ⟨⟨r0,r1,r2,r3⟩,rf0,rf1,rf2,rf3⟩:=zae (HM.out.keep HB0.out).b1
 by_cases hw:xk=6
 · subst hw
   have hwh:=HWX.out
   simp only [show ((6:Int)==1)=false from rfl,Bool.false_and] at hwh
   subst hwh
   have hS:=HS.out
   rw [if_pos rfl] at hS
   have hq0:=HW1.out
   by_cases g0:xs=[116,114,117,101]
   · have HSV := Lib.hid (show S = (PV.mk 1 1 [] [], tt, 0) by rw [hS]; unfold zdb; rw [if_pos g0]; all_goals (try rfl))
     rw [decide_eq_true g0] at hq0
     clear hS g0 HRF HW1 HW2 HW3
     have HV3:=Lib.hid (set4 HV0.out (.int .i64 1) (.int .i64 1) (.string ⟨#[]⟩) (.slice none 0 0))
     have HB3:=Lib.hid (zad HB0.out HVV.out (.int .i64 1) (.int .i64 1) (.string ⟨#[]⟩) (.slice none 0 0))
     go_upto_region 23 with fail
     clear k0 k1 k2 k3 k4 k5 k6 k7 v0 v1 v2 v3 vf0 vf1 vf2 vf3 n0 n1 n2 n3 r0 r1 r2 r3 rf0 rf1 rf2 rf3
     generalize (((World.setCell _ _ _).setCell _ _).setCell _ _).setCell _ _=W3 at *
     obtain ⟨⟨k0,k1,k2,k3,k4,k5,k6,k7⟩,-⟩:=zaf (HM.out.keep HB3.out).b0
     obtain ⟨⟨v0,v1,v2,v3⟩,vf0,vf1,vf2,vf3⟩:=zae HV3.out
     obtain ⟨⟨n0,n1,n2,n3⟩,-⟩:=zae (HM.out.keep HB3.out).b2
     obtain ⟨⟨r0,r1,r2,r3⟩,rf0,rf1,rf2,rf3⟩:=zae (HM.out.keep HB3.out).b1
     go_wp2_with fail
     refine (HWH.out _).mono ?_
     rintro e w4 ⟨rfl,hb⟩
     have HB4:=Lib.hid (HB3.out.trans (hb.mono HB3.out.size))
     have HV4:=Lib.hid (zab hb HV3.out)
     clear hb
     clear k0 k1 k2 k3 k4 k5 k6 k7 v0 v1 v2 v3 vf0 vf1 vf2 vf3 n0 n1 n2 n3 r0 r1 r2 r3 rf0 rf1 rf2 rf3
     obtain ⟨⟨k0,k1,k2,k3,k4,k5,k6,k7⟩,-⟩:=zaf (HM.out.keep HB4.out).b0
     obtain ⟨⟨v0,v1,v2,v3⟩,vf0,vf1,vf2,vf3⟩:=zae HV4.out
     obtain ⟨⟨n0,n1,n2,n3⟩,-⟩:=zae (HM.out.keep HB4.out).b2
     obtain ⟨⟨r0,r1,r2,r3⟩,rf0,rf1,rf2,rf3⟩:=zae (HM.out.keep HB4.out).b1
     have hR:=HR.out
     by_cases hd:64≤D
     · have d1:decide (64≤D)=true:=decide_eq_true hd
       rw [if_neg (by rw [HSV.out];simp),if_pos hd] at hR
       subst hR
       clear HR hd HS HSV
       go_wp2
       refine bodyPost_ret (zah rfl _ _ (B+1) 48 _ (0,0) _ rfl (by exact set4 (HM.out.keep HB4.out).b1 _ _ _ _) Tryz.underlying48 rfl (by exact zap) _ _ rfl rfl) rfl ?_
       exact zaD (R:=(PV.none,0,15)) rfl ((HM.out.keep HB4.out).fin _ _ _ _)
     · have d1:decide (64≤D)=false:=decide_eq_false hd
       rw [if_neg (by rw [HSV.out];simp),if_neg hd,HSV.out] at hR
       subst hR
       clear HR hd HS HSV
       go_wp2
       refine bodyPost_ret (zah rfl _ _ (B+1) 48 _ (0,0) _ rfl (by exact set4 (HM.out.keep HB4.out).b1 _ _ _ _) Tryz.underlying48 rfl (by exact zap) _ _ rfl rfl) rfl ?_
       exact zaD (R:=(PV.mk 1 1 [] [],tt,0)) rfl ((HM.out.keep HB4.out).fin _ _ _ _)
   rw [decide_eq_false g0] at hq0
   have hq1:=HW2.out
   by_cases g1:xs=[102,97,108,115,101]
   · have HSV := Lib.hid (show S = (PV.mk 1 0 [] [], tt, 0) by rw [hS]; unfold zdb; rw [if_neg g0]; rw [if_pos g1]; all_goals (try rfl))
     rw [decide_eq_true g1] at hq1
     clear hS g1 g0 HRF HW1 HW2 HW3
     have HV3:=Lib.hid (set4 HV0.out (.int .i64 1) (.int .i64 0) (.string ⟨#[]⟩) (.slice none 0 0))
     have HB3:=Lib.hid (zad HB0.out HVV.out (.int .i64 1) (.int .i64 0) (.string ⟨#[]⟩) (.slice none 0 0))
     go_upto_region 23 with fail
     clear k0 k1 k2 k3 k4 k5 k6 k7 v0 v1 v2 v3 vf0 vf1 vf2 vf3 n0 n1 n2 n3 r0 r1 r2 r3 rf0 rf1 rf2 rf3
     generalize (((World.setCell _ _ _).setCell _ _).setCell _ _).setCell _ _=W3 at *
     obtain ⟨⟨k0,k1,k2,k3,k4,k5,k6,k7⟩,-⟩:=zaf (HM.out.keep HB3.out).b0
     obtain ⟨⟨v0,v1,v2,v3⟩,vf0,vf1,vf2,vf3⟩:=zae HV3.out
     obtain ⟨⟨n0,n1,n2,n3⟩,-⟩:=zae (HM.out.keep HB3.out).b2
     obtain ⟨⟨r0,r1,r2,r3⟩,rf0,rf1,rf2,rf3⟩:=zae (HM.out.keep HB3.out).b1
     go_wp2_with fail
     refine (HWH.out _).mono ?_
     rintro e w4 ⟨rfl,hb⟩
     have HB4:=Lib.hid (HB3.out.trans (hb.mono HB3.out.size))
     have HV4:=Lib.hid (zab hb HV3.out)
     clear hb
     clear k0 k1 k2 k3 k4 k5 k6 k7 v0 v1 v2 v3 vf0 vf1 vf2 vf3 n0 n1 n2 n3 r0 r1 r2 r3 rf0 rf1 rf2 rf3
     obtain ⟨⟨k0,k1,k2,k3,k4,k5,k6,k7⟩,-⟩:=zaf (HM.out.keep HB4.out).b0
     obtain ⟨⟨v0,v1,v2,v3⟩,vf0,vf1,vf2,vf3⟩:=zae HV4.out
     obtain ⟨⟨n0,n1,n2,n3⟩,-⟩:=zae (HM.out.keep HB4.out).b2
     obtain ⟨⟨r0,r1,r2,r3⟩,rf0,rf1,rf2,rf3⟩:=zae (HM.out.keep HB4.out).b1
     have hR:=HR.out
     by_cases hd:64≤D
     · have d1:decide (64≤D)=true:=decide_eq_true hd
       rw [if_neg (by rw [HSV.out];simp),if_pos hd] at hR
       subst hR
       clear HR hd HS HSV
       go_wp2
       refine bodyPost_ret (zah rfl _ _ (B+1) 48 _ (0,0) _ rfl (by exact set4 (HM.out.keep HB4.out).b1 _ _ _ _) Tryz.underlying48 rfl (by exact zap) _ _ rfl rfl) rfl ?_
       exact zaD (R:=(PV.none,0,15)) rfl ((HM.out.keep HB4.out).fin _ _ _ _)
     · have d1:decide (64≤D)=false:=decide_eq_false hd
       rw [if_neg (by rw [HSV.out];simp),if_neg hd,HSV.out] at hR
       subst hR
       clear HR hd HS HSV
       go_wp2
       refine bodyPost_ret (zah rfl _ _ (B+1) 48 _ (0,0) _ rfl (by exact set4 (HM.out.keep HB4.out).b1 _ _ _ _) Tryz.underlying48 rfl (by exact zap) _ _ rfl rfl) rfl ?_
       exact zaD (R:=(PV.mk 1 0 [] [],tt,0)) rfl ((HM.out.keep HB4.out).fin _ _ _ _)
   rw [decide_eq_false g1] at hq1
   have hq2:=HW3.out
   by_cases g2:xs=[110,117,108,108]
   · have HSV := Lib.hid (show S = (PV.mk 0 0 [] [], tt, 0) by rw [hS]; unfold zdb; rw [if_neg g0]; rw [if_neg g1]; rw [if_pos g2]; all_goals (try rfl))
     rw [decide_eq_true g2] at hq2
     clear hS g2 g0 g1 HRF HW1 HW2 HW3
     have HV3:=Lib.hid (set4 HV0.out (.int .i64 0) (.int .i64 0) (.string ⟨#[]⟩) (.slice none 0 0))
     have HB3:=Lib.hid (zad HB0.out HVV.out (.int .i64 0) (.int .i64 0) (.string ⟨#[]⟩) (.slice none 0 0))
     go_upto_region 23 with fail
     clear k0 k1 k2 k3 k4 k5 k6 k7 v0 v1 v2 v3 vf0 vf1 vf2 vf3 n0 n1 n2 n3 r0 r1 r2 r3 rf0 rf1 rf2 rf3
     generalize (((World.setCell _ _ _).setCell _ _).setCell _ _).setCell _ _=W3 at *
     obtain ⟨⟨k0,k1,k2,k3,k4,k5,k6,k7⟩,-⟩:=zaf (HM.out.keep HB3.out).b0
     obtain ⟨⟨v0,v1,v2,v3⟩,vf0,vf1,vf2,vf3⟩:=zae HV3.out
     obtain ⟨⟨n0,n1,n2,n3⟩,-⟩:=zae (HM.out.keep HB3.out).b2
     obtain ⟨⟨r0,r1,r2,r3⟩,rf0,rf1,rf2,rf3⟩:=zae (HM.out.keep HB3.out).b1
     go_wp2_with fail
     refine (HWH.out _).mono ?_
     rintro e w4 ⟨rfl,hb⟩
     have HB4:=Lib.hid (HB3.out.trans (hb.mono HB3.out.size))
     have HV4:=Lib.hid (zab hb HV3.out)
     clear hb
     clear k0 k1 k2 k3 k4 k5 k6 k7 v0 v1 v2 v3 vf0 vf1 vf2 vf3 n0 n1 n2 n3 r0 r1 r2 r3 rf0 rf1 rf2 rf3
     obtain ⟨⟨k0,k1,k2,k3,k4,k5,k6,k7⟩,-⟩:=zaf (HM.out.keep HB4.out).b0
     obtain ⟨⟨v0,v1,v2,v3⟩,vf0,vf1,vf2,vf3⟩:=zae HV4.out
     obtain ⟨⟨n0,n1,n2,n3⟩,-⟩:=zae (HM.out.keep HB4.out).b2
     obtain ⟨⟨r0,r1,r2,r3⟩,rf0,rf1,rf2,rf3⟩:=zae (HM.out.keep HB4.out).b1
     have hR:=HR.out
     by_cases hd:64≤D
     · have d1:decide (64≤D)=true:=decide_eq_true hd
       rw [if_neg (by rw [HSV.out];simp),if_pos hd] at hR
       subst hR
       clear HR hd HS HSV
       go_wp2
       refine bodyPost_ret (zah rfl _ _ (B+1) 48 _ (0,0) _ rfl (by exact set4 (HM.out.keep HB4.out).b1 _ _ _ _) Tryz.underlying48 rfl (by exact zap) _ _ rfl rfl) rfl ?_
       exact zaD (R:=(PV.none,0,15)) rfl ((HM.out.keep HB4.out).fin _ _ _ _)
     · have d1:decide (64≤D)=false:=decide_eq_false hd
       rw [if_neg (by rw [HSV.out];simp),if_neg hd,HSV.out] at hR
       subst hR
       clear HR hd HS HSV
       go_wp2
       refine bodyPost_ret (zah rfl _ _ (B+1) 48 _ (0,0) _ rfl (by exact set4 (HM.out.keep HB4.out).b1 _ _ _ _) Tryz.underlying48 rfl (by exact zap) _ _ rfl rfl) rfl ?_
       exact zaD (R:=(PV.mk 0 0 [] [],tt,0)) rfl ((HM.out.keep HB4.out).fin _ _ _ _)
   rw [decide_eq_false g2] at hq2
   have HSV:=Lib.hid (show S=(PV.none,0,11) by rw [hS];unfold zdb;rw [if_neg g0,if_neg g1,if_neg g2])
   have hR:=HR.out
   rw [HSV.out,if_pos (by decide)] at hR
   subst hR
   clear hS g0 g1 g2 HRF HW1 HW2 HW3 HR HS HSV
   go_wp2
   refine bodyPost_ret (zah rfl _ _ (B+1) 48 _ (0,0) _ rfl (by exact set4 (HM.out.keep HB0.out).b1 _ _ _ _) Tryz.underlying48 rfl (by exact zap) _ _ rfl rfl) rfl ?_
   exact zaD (R:=(PV.none,0,11)) rfl ((HM.out.keep HB0.out).fin _ _ _ _)
 have e6:(xk==6)=false:=by rw [beq_eq_false_iff_ne];exact hw
 have hS:=HS.out
 rw [if_neg hw] at hS
 clear hw HW1 HW2 HW3
 cases wh with
 | false =>
   have HSV:=Lib.hid (show S=(PV.mk xvk xvn xvs [],tt,0) by rw [hS];rfl)
   clear hS HRF
   go_wp2_with fail
   refine (HWH.out _).mono ?_
   rintro e w4 ⟨rfl,hb⟩
   have HB4:=Lib.hid (HB0.out.trans (hb.mono HB0.out.size))
   have HV4:=Lib.hid (zab hb HV0.out)
   clear hb
   clear k0 k1 k2 k3 k4 k5 k6 k7 v0 v1 v2 v3 vf0 vf1 vf2 vf3 n0 n1 n2 n3 r0 r1 r2 r3 rf0 rf1 rf2 rf3
   obtain ⟨⟨k0,k1,k2,k3,k4,k5,k6,k7⟩,-⟩:=zaf (HM.out.keep HB4.out).b0
   obtain ⟨⟨v0,v1,v2,v3⟩,vf0,vf1,vf2,vf3⟩:=zae HV4.out
   obtain ⟨⟨n0,n1,n2,n3⟩,-⟩:=zae (HM.out.keep HB4.out).b2
   obtain ⟨⟨r0,r1,r2,r3⟩,rf0,rf1,rf2,rf3⟩:=zae (HM.out.keep HB4.out).b1
   have hR:=HR.out
   by_cases hd:64≤D
   · have d1:decide (64≤D)=true:=decide_eq_true hd
     rw [if_neg (by rw [HSV.out];simp),if_pos hd] at hR
     subst hR
     clear HR hd HS HSV
     go_wp2
     refine bodyPost_ret (zah rfl _ _ (B+1) 48 _ (0,0) _ rfl (by exact set4 (HM.out.keep HB4.out).b1 _ _ _ _) Tryz.underlying48 rfl (by exact zap) _ _ rfl rfl) rfl ?_
     exact zaD (R:=(PV.none,0,15)) rfl ((HM.out.keep HB4.out).fin _ _ _ _)
   · have d1:decide (64≤D)=false:=decide_eq_false hd
     rw [if_neg (by rw [HSV.out];simp),if_neg hd,HSV.out] at hR
     subst hR
     clear HR hd HS HSV
     go_wp2
     refine bodyPost_ret (zah rfl _ _ (B+1) 48 _ (0,0) _ rfl (by exact set4 (HM.out.keep HB4.out).b1 _ _ _ _) Tryz.underlying48 rfl (by exact zap) _ _ rfl rfl) rfl ?_
     exact zaD (R:=(PV.mk xvk xvn xvs [],tt,0)) rfl ((HM.out.keep HB4.out).fin _ _ _ _)
 | true =>
   rw [if_pos rfl] at hS
   have HS1:=Lib.hid hS
   clear hS
   go_wp2_with fail
   refine (HWH.out _).mono ?_
   rintro e w4 ⟨rfl,hb⟩
   have HB4:=Lib.hid (HB0.out.trans (hb.mono HB0.out.size))
   have HV4:=Lib.hid (zab hb HV0.out)
   clear hb
   clear k0 k1 k2 k3 k4 k5 k6 k7 v0 v1 v2 v3 vf0 vf1 vf2 vf3 n0 n1 n2 n3 r0 r1 r2 r3 rf0 rf1 rf2 rf3
   obtain ⟨⟨k0,k1,k2,k3,k4,k5,k6,k7⟩,-⟩:=zaf (HM.out.keep HB4.out).b0
   obtain ⟨⟨v0,v1,v2,v3⟩,vf0,vf1,vf2,vf3⟩:=zae HV4.out
   obtain ⟨⟨n0,n1,n2,n3⟩,-⟩:=zae (HM.out.keep HB4.out).b2
   obtain ⟨⟨r0,r1,r2,r3⟩,rf0,rf1,rf2,rf3⟩:=zae (HM.out.keep HB4.out).b1
   obtain ⟨ri,rt,re⟩:=rd
   simp only at HS1 HRF
   go_wp2_with fail
   refine (HRF.out _ (HM.out.keep HB4.out).bel).mono ?_
   rintro e w5 ⟨rfl,hb⟩
   have HB5:=Lib.hid (HB4.out.trans (hb.mono HB4.out.size))
   have HV5:=Lib.hid (zab hb HV4.out)
   clear hb HRF
   clear k0 k1 k2 k3 k4 k5 k6 k7 v0 v1 v2 v3 vf0 vf1 vf2 vf3 n0 n1 n2 n3 r0 r1 r2 r3 rf0 rf1 rf2 rf3
   obtain ⟨⟨k0,k1,k2,k3,k4,k5,k6,k7⟩,-⟩:=zaf (HM.out.keep HB5.out).b0
   obtain ⟨⟨v0,v1,v2,v3⟩,vf0,vf1,vf2,vf3⟩:=zae HV5.out
   obtain ⟨⟨n0,n1,n2,n3⟩,-⟩:=zae (HM.out.keep HB5.out).b2
   obtain ⟨⟨r0,r1,r2,r3⟩,rf0,rf1,rf2,rf3⟩:=zae (HM.out.keep HB5.out).b1
   have hS:=HS1.out
   by_cases hre:re=0
   case neg =>
     have e1:(re==0)=false:=by rw [beq_eq_false_iff_ne];exact hre
     have e1n:(re != 0)=true:=by simp only [bne,e1,Bool.not_false]
     rw [if_pos hre] at hS
     have hR:=HR.out
     rw [hS,if_pos hre] at hR
     subst hR
     clear hS HS1 HS HR hre
     go_wp2
     refine bodyPost_ret (zah rfl _ _ (B+1) 48 _ (0,0) _ rfl (by exact set4 (HM.out.keep HB5.out).b1 _ _ _ _) Tryz.underlying48 rfl (by exact zap) _ _ rfl rfl) rfl ?_
     exact zaD (R:=(PV.none,0,re)) rfl ((HM.out.keep HB5.out).fin _ _ _ _)
   subst hre
   rw [if_neg (by simp)] at hS
   cases ri with
   | false =>
     have HSV:=Lib.hid (show S=(PV.mk xvk xvn xvs [],tt,0) by rw [hS];rfl)
     clear hS HS1
     have hR:=HR.out
     by_cases hd:64≤D
     · have d1:decide (64≤D)=true:=decide_eq_true hd
       rw [if_neg (by rw [HSV.out];simp),if_pos hd] at hR
       subst hR
       clear HR hd HS HSV
       go_wp2
       refine bodyPost_ret (zah rfl _ _ (B+1) 48 _ (0,0) _ rfl (by exact set4 (HM.out.keep HB5.out).b1 _ _ _ _) Tryz.underlying48 rfl (by exact zap) _ _ rfl rfl) rfl ?_
       exact zaD (R:=(PV.none,0,15)) rfl ((HM.out.keep HB5.out).fin _ _ _ _)
     · have d1:decide (64≤D)=false:=decide_eq_false hd
       rw [if_neg (by rw [HSV.out];simp),if_neg hd,HSV.out] at hR
       subst hR
       clear HR hd HS HSV
       go_wp2
       refine bodyPost_ret (zah rfl _ _ (B+1) 48 _ (0,0) _ rfl (by exact set4 (HM.out.keep HB5.out).b1 _ _ _ _) Tryz.underlying48 rfl (by exact zap) _ _ rfl rfl) rfl ?_
       exact zaD (R:=(PV.mk xvk xvn xvs [],tt,0)) rfl ((HM.out.keep HB5.out).fin _ _ _ _)
   | true =>
     have HSV:=Lib.hid (show S=(PV.mk 8 xvn [] [],rt,0) by rw [hS];rfl)
     clear hS HS1
     have HV6:=Lib.hid (set4 HV5.out (.int .i64 8) (.int .i64 xvn) (.string ⟨#[]⟩) (.slice none 0 0))
     have HB6:=Lib.hid (zad HB5.out HVV.out (.int .i64 8) (.int .i64 xvn) (.string ⟨#[]⟩) (.slice none 0 0))
     go_upto_region 30 with fail
     clear k0 k1 k2 k3 k4 k5 k6 k7 v0 v1 v2 v3 vf0 vf1 vf2 vf3 n0 n1 n2 n3 r0 r1 r2 r3 rf0 rf1 rf2 rf3
     generalize (((World.setCell _ _ _).setCell _ _).setCell _ _).setCell _ _=W6 at *
     obtain ⟨⟨k0,k1,k2,k3,k4,k5,k6,k7⟩,-⟩:=zaf (HM.out.keep HB6.out).b0
     obtain ⟨⟨v0,v1,v2,v3⟩,vf0,vf1,vf2,vf3⟩:=zae HV6.out
     obtain ⟨⟨n0,n1,n2,n3⟩,-⟩:=zae (HM.out.keep HB6.out).b2
     obtain ⟨⟨r0,r1,r2,r3⟩,rf0,rf1,rf2,rf3⟩:=zae (HM.out.keep HB6.out).b1
     have hR:=HR.out
     by_cases hd:64≤D
     · have d1:decide (64≤D)=true:=decide_eq_true hd
       rw [if_neg (by rw [HSV.out];simp),if_pos hd] at hR
       subst hR
       clear HR hd HS HSV
       go_wp2
       refine bodyPost_ret (zah rfl _ _ (B+1) 48 _ (0,0) _ rfl (by exact set4 (HM.out.keep HB6.out).b1 _ _ _ _) Tryz.underlying48 rfl (by exact zap) _ _ rfl rfl) rfl ?_
       exact zaD (R:=(PV.none,0,15)) rfl ((HM.out.keep HB6.out).fin _ _ _ _)
     · have d1:decide (64≤D)=false:=decide_eq_false hd
       rw [if_neg (by rw [HSV.out];simp),if_neg hd,HSV.out] at hR
       subst hR
       clear HR hd HS HSV
       go_wp2
       refine bodyPost_ret (zah rfl _ _ (B+1) 48 _ (0,0) _ rfl (by exact set4 (HM.out.keep HB6.out).b1 _ _ _ _) Tryz.underlying48 rfl (by exact zap) _ _ rfl rfl) rfl ?_
       exact zaD (R:=(PV.mk 8 xvn [] [],rt,0)) rfl ((HM.out.keep HB6.out).fin _ _ _ _)
end Go.Proofs.YtkhcjoomijkfbaaGreatDoor
