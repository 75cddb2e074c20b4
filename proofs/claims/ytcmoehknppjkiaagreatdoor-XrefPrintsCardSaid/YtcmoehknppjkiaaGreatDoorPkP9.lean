/-
  Our texts Sr2 to Sw4, in one.
-/
import Derived.Test.YtcmoehknppjkiaaGreatDoorPkP8
import Derived.Shelf.Abstract
import Derived.Lib.Builder
import Derived.Lib.UnsafeStr
import Derived.Lib.ByteType
import Derived.Lib.AppendStr
import Derived.BigQuiet
import Derived.Deep.RegionHeld3
import Derived.Deep.Cut
set_option maxRecDepth 8000
set_option maxHeartbeats 8000000
namespace Go.Proofs.YtcmoehknppjkiaaGreatDoor
open Go.RowKit
set_option linter.unusedSimpArgs false
set_option linter.unusedVariables false
theorem rown_k0 {n:Int} {s:List UInt8} {l:List PV} {a1:Option Addr} {cap1:Nat} {w:World} (_m1:(l.length:Int)<=9223372036854775807) :
  Calls Tryz.prog 99 #[.agg #[.int .i64 0,.int .i64 n,.string (mkB s),.slice a1 l.length cap1]] w fun e w'=>e=.returned (.int .i64 (if n=0/\s=[]/\l=[] then 0 else 2))/\Below w.heap.size w w':=by
 obtain ⟨R,hR⟩:∃R,R=(if n=0/\s=[]/\l=[] then 0 else 2:Int):=⟨_,rfl⟩
 rw [<-hR]
 have HR:=yb hR
 have HB:=yb (zae w (.cells #[.int .i64 0,.int .i64 n,.string (mkB s),.slice a1 l.length cap1] 25))
 clear hR
 by_cases hs0:s=[]
 ·have es0:(mkB s).toList=[]:=by rw [zag];exact hs0
  have es0b:((mkB s).toList==[])=true:=by rw [beq_iff_eq];exact es0
  have es0c:((mkB s).toList != [])=false:=by simp only [bne,es0b,Bool.not_true]
  by_cases hm0:l=[]
  ·have em0:(l.length==0)=true:=by rw [hm0];rfl
   have em0':((l.length:Int)==0)=true:=by rw [hm0];rfl
   by_cases hn0:n=0
   ·have en0:(n==0)=true:=by rw [beq_iff_eq];exact hn0
    have en0':(n != 0)=false:=by simp only [bne,en0,Bool.not_true]
    have hr:=HR.out
    obtain rfl:R=0:=by rw [hr];simp [hs0,hm0,hn0]
    clear HR hr hs0 hm0 hn0
    generalize l.length=m at *
    generalize mkB s=S at *
    go_enter Tryz.func99,Tryz.ntmps99
    go_wp2
    go_ret
    exact ⟨rfl,HB.out⟩
   ·have en0:(n==0)=false:=by rw [yf];exact hn0
    have en0':(n != 0)=true:=by simp only [bne,en0,yj]
    have hr:=HR.out
    obtain rfl:R=2:=by rw [hr];simp [hs0,hm0,hn0]
    clear HR hr hs0 hm0 hn0
    generalize l.length=m at *
    generalize mkB s=S at *
    go_enter Tryz.func99,Tryz.ntmps99
    go_wp2
    go_ret
    exact ⟨rfl,HB.out⟩
  ·have em0:(l.length==0)=false:=by rw [yf];exact fun e=>hm0 (List.eq_nil_of_length_eq_zero e)
   have em0':((l.length:Int)==0)=false:=by rw [yf];exact fun e=>hm0 (List.eq_nil_of_length_eq_zero (by omega))
   have hr:=HR.out
   obtain rfl:R=2:=by rw [hr];simp [hs0,hm0]
   clear HR hr hs0 hm0
   generalize l.length=m at *
   generalize mkB s=S at *
   go_enter Tryz.func99,Tryz.ntmps99
   go_wp2
   go_ret
   exact ⟨rfl,HB.out⟩
 ·have es0b:((mkB s).toList==[])=false:=by rw [yf,zag];exact hs0
  have es0c:((mkB s).toList != [])=true:=by simp only [bne,es0b,yj]
  have hr:=HR.out
  obtain rfl:R=2:=by rw [hr];simp [hs0]
  clear HR hr hs0
  generalize l.length=m at *
  generalize mkB s=S at *
  go_enter Tryz.func99,Tryz.ntmps99
  go_wp2
  go_ret
  exact ⟨rfl,HB.out⟩
theorem rown_k1 {n:Int} {s:List UInt8} {l:List PV} {a1:Option Addr} {cap1:Nat} {w:World} (_m1:(l.length:Int)<=9223372036854775807) :
  Calls Tryz.prog 99 #[.agg #[.int .i64 1,.int .i64 n,.string (mkB s),.slice a1 l.length cap1]] w fun e w'=>e=.returned (.int .i64 (if (n=0\/n=1)/\s=[]/\l=[] then 0 else 2))/\Below w.heap.size w w':=by
 obtain ⟨R,hR⟩:∃R,R=(if (n=0\/n=1)/\s=[]/\l=[] then 0 else 2:Int):=⟨_,rfl⟩
 rw [<-hR]
 have HR:=yb hR
 have HB:=yb (zae w (.cells #[.int .i64 1,.int .i64 n,.string (mkB s),.slice a1 l.length cap1] 25))
 clear hR
 by_cases hs0:s=[]
 ·have es0:(mkB s).toList=[]:=by rw [zag];exact hs0
  have es0b:((mkB s).toList==[])=true:=by rw [beq_iff_eq];exact es0
  have es0c:((mkB s).toList != [])=false:=by simp only [bne,es0b,Bool.not_true]
  by_cases hm0:l=[]
  ·have em0:(l.length==0)=true:=by rw [hm0];rfl
   have em0':((l.length:Int)==0)=true:=by rw [hm0];rfl
   by_cases hn0:n=0
   ·have en0:(n==0)=true:=by rw [beq_iff_eq];exact hn0
    have en0':(n != 0)=false:=by simp only [bne,en0,Bool.not_true]
    have hr:=HR.out
    obtain rfl:R=0:=by rw [hr];simp [hs0,hm0,hn0]
    clear HR hr hs0 hm0 hn0
    generalize l.length=m at *
    generalize mkB s=S at *
    go_enter Tryz.func99,Tryz.ntmps99
    go_wp2
    go_ret
    exact ⟨rfl,HB.out⟩
   ·have en0:(n==0)=false:=by rw [yf];exact hn0
    have en0':(n != 0)=true:=by simp only [bne,en0,yj]
    by_cases hn1:n=1
    ·have en1:(n==1)=true:=by rw [beq_iff_eq];exact hn1
     have hr:=HR.out
     obtain rfl:R=0:=by rw [hr];simp [hs0,hm0,hn1]
     clear HR hr hs0 hm0 hn0 hn1
     generalize l.length=m at *
     generalize mkB s=S at *
     go_enter Tryz.func99,Tryz.ntmps99
     go_wp2
     go_ret
     exact ⟨rfl,HB.out⟩
    ·have en1:(n==1)=false:=by rw [yf];exact hn1
     have hr:=HR.out
     obtain rfl:R=2:=by rw [hr];simp [hs0,hm0,hn0,hn1]
     clear HR hr hs0 hm0 hn0 hn1
     generalize l.length=m at *
     generalize mkB s=S at *
     go_enter Tryz.func99,Tryz.ntmps99
     go_wp2
     go_ret
     exact ⟨rfl,HB.out⟩
  ·have em0:(l.length==0)=false:=by rw [yf];exact fun e=>hm0 (List.eq_nil_of_length_eq_zero e)
   have em0':((l.length:Int)==0)=false:=by rw [yf];exact fun e=>hm0 (List.eq_nil_of_length_eq_zero (by omega))
   have hr:=HR.out
   obtain rfl:R=2:=by rw [hr];simp [hs0,hm0]
   clear HR hr hs0 hm0
   generalize l.length=m at *
   generalize mkB s=S at *
   go_enter Tryz.func99,Tryz.ntmps99
   go_wp2
   go_ret
   exact ⟨rfl,HB.out⟩
 ·have es0b:((mkB s).toList==[])=false:=by rw [yf,zag];exact hs0
  have es0c:((mkB s).toList != [])=true:=by simp only [bne,es0b,yj]
  have hr:=HR.out
  obtain rfl:R=2:=by rw [hr];simp [hs0]
  clear HR hr hs0
  generalize l.length=m at *
  generalize mkB s=S at *
  go_enter Tryz.func99,Tryz.ntmps99
  go_wp2
  go_ret
  exact ⟨rfl,HB.out⟩
theorem rown_k4 {n:Int} {s:List UInt8} {l:List PV} {a1:Option Addr} {cap1:Nat} {w:World} (_m1:(l.length:Int)<=9223372036854775807) :
  Calls Tryz.prog 99 #[.agg #[.int .i64 4,.int .i64 n,.string (mkB s),.slice a1 l.length cap1]] w fun e w'=>e=.returned (.int .i64 (if n=0/\l=[] then 0 else 2))/\Below w.heap.size w w':=by
 obtain ⟨R,hR⟩:∃R,R=(if n=0/\l=[] then 0 else 2:Int):=⟨_,rfl⟩
 rw [<-hR]
 have HR:=yb hR
 have HB:=yb (zae w (.cells #[.int .i64 4,.int .i64 n,.string (mkB s),.slice a1 l.length cap1] 25))
 clear hR
 by_cases hs0:s=[]
 ·have es0:(mkB s).toList=[]:=by rw [zag];exact hs0
  have es0b:((mkB s).toList==[])=true:=by rw [beq_iff_eq];exact es0
  have es0c:((mkB s).toList != [])=false:=by simp only [bne,es0b,Bool.not_true]
  by_cases hm0:l=[]
  ·have em0:(l.length==0)=true:=by rw [hm0];rfl
   have em0':((l.length:Int)==0)=true:=by rw [hm0];rfl
   by_cases hn0:n=0
   ·have en0:(n==0)=true:=by rw [beq_iff_eq];exact hn0
    have en0':(n != 0)=false:=by simp only [bne,en0,Bool.not_true]
    have hr:=HR.out
    obtain rfl:R=0:=by rw [hr];simp [hs0,hm0,hn0]
    clear HR hr hs0 hm0 hn0
    generalize l.length=m at *
    generalize mkB s=S at *
    go_enter Tryz.func99,Tryz.ntmps99
    go_wp2
    go_ret
    exact ⟨rfl,HB.out⟩
   ·have en0:(n==0)=false:=by rw [yf];exact hn0
    have en0':(n != 0)=true:=by simp only [bne,en0,yj]
    have hr:=HR.out
    obtain rfl:R=2:=by rw [hr];simp [hs0,hm0,hn0]
    clear HR hr hs0 hm0 hn0
    generalize l.length=m at *
    generalize mkB s=S at *
    go_enter Tryz.func99,Tryz.ntmps99
    go_wp2
    go_ret
    exact ⟨rfl,HB.out⟩
  ·have em0:(l.length==0)=false:=by rw [yf];exact fun e=>hm0 (List.eq_nil_of_length_eq_zero e)
   have em0':((l.length:Int)==0)=false:=by rw [yf];exact fun e=>hm0 (List.eq_nil_of_length_eq_zero (by omega))
   by_cases hn0:n=0
   ·have en0:(n==0)=true:=by rw [beq_iff_eq];exact hn0
    have en0':(n != 0)=false:=by simp only [bne,en0,Bool.not_true]
    have hr:=HR.out
    obtain rfl:R=2:=by rw [hr];simp [hs0,hm0,hn0]
    clear HR hr hs0 hm0 hn0
    generalize l.length=m at *
    generalize mkB s=S at *
    go_enter Tryz.func99,Tryz.ntmps99
    go_wp2
    go_ret
    exact ⟨rfl,HB.out⟩
   ·have en0:(n==0)=false:=by rw [yf];exact hn0
    have en0':(n != 0)=true:=by simp only [bne,en0,yj]
    have hr:=HR.out
    obtain rfl:R=2:=by rw [hr];simp [hs0,hm0,hn0]
    clear HR hr hs0 hm0 hn0
    generalize l.length=m at *
    generalize mkB s=S at *
    go_enter Tryz.func99,Tryz.ntmps99
    go_wp2
    go_ret
    exact ⟨rfl,HB.out⟩
 ·have es0b:((mkB s).toList==[])=false:=by rw [yf,zag];exact hs0
  have es0c:((mkB s).toList != [])=true:=by simp only [bne,es0b,yj]
  by_cases hn0:n=0
  ·have en0:(n==0)=true:=by rw [beq_iff_eq];exact hn0
   have en0':(n != 0)=false:=by simp only [bne,en0,Bool.not_true]
   by_cases hm0:l=[]
   ·have em0:(l.length==0)=true:=by rw [hm0];rfl
    have em0':((l.length:Int)==0)=true:=by rw [hm0];rfl
    have hr:=HR.out
    obtain rfl:R=0:=by rw [hr];simp [hs0,hn0,hm0]
    clear HR hr hs0 hn0 hm0
    generalize l.length=m at *
    generalize mkB s=S at *
    go_enter Tryz.func99,Tryz.ntmps99
    go_wp2
    go_ret
    exact ⟨rfl,HB.out⟩
   ·have em0:(l.length==0)=false:=by rw [yf];exact fun e=>hm0 (List.eq_nil_of_length_eq_zero e)
    have em0':((l.length:Int)==0)=false:=by rw [yf];exact fun e=>hm0 (List.eq_nil_of_length_eq_zero (by omega))
    have hr:=HR.out
    obtain rfl:R=2:=by rw [hr];simp [hs0,hn0,hm0]
    clear HR hr hs0 hn0 hm0
    generalize l.length=m at *
    generalize mkB s=S at *
    go_enter Tryz.func99,Tryz.ntmps99
    go_wp2
    go_ret
    exact ⟨rfl,HB.out⟩
  ·have en0:(n==0)=false:=by rw [yf];exact hn0
   have en0':(n != 0)=true:=by simp only [bne,en0,yj]
   have hr:=HR.out
   obtain rfl:R=2:=by rw [hr];simp [hs0,hn0]
   clear HR hr hs0 hn0
   generalize l.length=m at *
   generalize mkB s=S at *
   go_enter Tryz.func99,Tryz.ntmps99
   go_wp2
   go_ret
   exact ⟨rfl,HB.out⟩
theorem rown_k6 {n:Int} {s:List UInt8} {l:List PV} {a1:Option Addr} {cap1:Nat} {w:World} (_m1:(l.length:Int)<=9223372036854775807) :
  Calls Tryz.prog 99 #[.agg #[.int .i64 6,.int .i64 n,.string (mkB s),.slice a1 l.length cap1]] w fun e w'=>e=.returned (.int .i64 (if n=0/\s=[] then 0 else 2))/\Below w.heap.size w w':=by
 obtain ⟨R,hR⟩:∃R,R=(if n=0/\s=[] then 0 else 2:Int):=⟨_,rfl⟩
 rw [<-hR]
 have HR:=yb hR
 have HB:=yb (zae w (.cells #[.int .i64 6,.int .i64 n,.string (mkB s),.slice a1 l.length cap1] 25))
 clear hR
 by_cases hs0:s=[]
 ·have es0:(mkB s).toList=[]:=by rw [zag];exact hs0
  have es0b:((mkB s).toList==[])=true:=by rw [beq_iff_eq];exact es0
  have es0c:((mkB s).toList != [])=false:=by simp only [bne,es0b,Bool.not_true]
  by_cases hm0:l=[]
  ·have em0:(l.length==0)=true:=by rw [hm0];rfl
   have em0':((l.length:Int)==0)=true:=by rw [hm0];rfl
   by_cases hn0:n=0
   ·have en0:(n==0)=true:=by rw [beq_iff_eq];exact hn0
    have en0':(n != 0)=false:=by simp only [bne,en0,Bool.not_true]
    have hr:=HR.out
    obtain rfl:R=0:=by rw [hr];simp [hs0,hm0,hn0]
    clear HR hr hs0 hm0 hn0
    generalize l.length=m at *
    generalize mkB s=S at *
    go_enter Tryz.func99,Tryz.ntmps99
    go_wp2
    go_ret
    exact ⟨rfl,HB.out⟩
   ·have en0:(n==0)=false:=by rw [yf];exact hn0
    have en0':(n != 0)=true:=by simp only [bne,en0,yj]
    have hr:=HR.out
    obtain rfl:R=2:=by rw [hr];simp [hs0,hm0,hn0]
    clear HR hr hs0 hm0 hn0
    generalize l.length=m at *
    generalize mkB s=S at *
    go_enter Tryz.func99,Tryz.ntmps99
    go_wp2
    go_ret
    exact ⟨rfl,HB.out⟩
  ·have em0:(l.length==0)=false:=by rw [yf];exact fun e=>hm0 (List.eq_nil_of_length_eq_zero e)
   have em0':((l.length:Int)==0)=false:=by rw [yf];exact fun e=>hm0 (List.eq_nil_of_length_eq_zero (by omega))
   by_cases hn0:n=0
   ·have en0:(n==0)=true:=by rw [beq_iff_eq];exact hn0
    have en0':(n != 0)=false:=by simp only [bne,en0,Bool.not_true]
    have hr:=HR.out
    obtain rfl:R=0:=by rw [hr];simp [hs0,hm0,hn0]
    clear HR hr hs0 hm0 hn0
    generalize l.length=m at *
    generalize mkB s=S at *
    go_enter Tryz.func99,Tryz.ntmps99
    go_wp2
    go_ret
    exact ⟨rfl,HB.out⟩
   ·have en0:(n==0)=false:=by rw [yf];exact hn0
    have en0':(n != 0)=true:=by simp only [bne,en0,yj]
    have hr:=HR.out
    obtain rfl:R=2:=by rw [hr];simp [hs0,hm0,hn0]
    clear HR hr hs0 hm0 hn0
    generalize l.length=m at *
    generalize mkB s=S at *
    go_enter Tryz.func99,Tryz.ntmps99
    go_wp2
    go_ret
    exact ⟨rfl,HB.out⟩
 ·have es0b:((mkB s).toList==[])=false:=by rw [yf,zag];exact hs0
  have es0c:((mkB s).toList != [])=true:=by simp only [bne,es0b,yj]
  by_cases hn0:n=0
  ·have en0:(n==0)=true:=by rw [beq_iff_eq];exact hn0
   have en0':(n != 0)=false:=by simp only [bne,en0,Bool.not_true]
   have hr:=HR.out
   obtain rfl:R=2:=by rw [hr];simp [hs0,hn0]
   clear HR hr hs0 hn0
   generalize l.length=m at *
   generalize mkB s=S at *
   go_enter Tryz.func99,Tryz.ntmps99
   go_wp2
   go_ret
   exact ⟨rfl,HB.out⟩
  ·have en0:(n==0)=false:=by rw [yf];exact hn0
   have en0':(n != 0)=true:=by simp only [bne,en0,yj]
   have hr:=HR.out
   obtain rfl:R=2:=by rw [hr];simp [hs0,hn0]
   clear HR hr hs0 hn0
   generalize l.length=m at *
   generalize mkB s=S at *
   go_enter Tryz.func99,Tryz.ntmps99
   go_wp2
   go_ret
   exact ⟨rfl,HB.out⟩
theorem rown_k8 {n:Int} {s:List UInt8} {l:List PV} {a1:Option Addr} {cap1:Nat} {w:World} (_m1:(l.length:Int)<=9223372036854775807) :
  Calls Tryz.prog 99 #[.agg #[.int .i64 8,.int .i64 n,.string (mkB s),.slice a1 l.length cap1]] w fun e w'=>e=.returned (.int .i64 (if 1<=n/\n<=4096/\s=[]/\l=[] then 0 else 2))/\Below w.heap.size w w':=by
 obtain ⟨R,hR⟩:∃R,R=(if 1<=n/\n<=4096/\s=[]/\l=[] then 0 else 2:Int):=⟨_,rfl⟩
 rw [<-hR]
 have HR:=yb hR
 have HB:=yb (zae w (.cells #[.int .i64 8,.int .i64 n,.string (mkB s),.slice a1 l.length cap1] 25))
 clear hR
 by_cases hs0:s=[]
 ·have es0:(mkB s).toList=[]:=by rw [zag];exact hs0
  have es0b:((mkB s).toList==[])=true:=by rw [beq_iff_eq];exact es0
  have es0c:((mkB s).toList != [])=false:=by simp only [bne,es0b,Bool.not_true]
  by_cases hm0:l=[]
  ·have em0:(l.length==0)=true:=by rw [hm0];rfl
   have em0':((l.length:Int)==0)=true:=by rw [hm0];rfl
   by_cases hg1:1<=n
   ·have eg1:decide (1<=n)=true:=yd hg1
    by_cases hle:n<=4096
    ·have ele:decide (n<=4096)=true:=yd hle
     have hr:=HR.out
     obtain rfl:R=0:=by rw [hr];simp [hs0,hm0,hg1,hle]
     clear HR hr hs0 hm0 hg1 hle
     generalize l.length=m at *
     generalize mkB s=S at *
     go_enter Tryz.func99,Tryz.ntmps99
     go_wp2
     go_ret
     exact ⟨rfl,HB.out⟩
    ·have ele:decide (n<=4096)=false:=ye hle
     have hr:=HR.out
     obtain rfl:R=2:=by rw [hr];simp [hs0,hm0,hg1,hle]
     clear HR hr hs0 hm0 hg1 hle
     generalize l.length=m at *
     generalize mkB s=S at *
     go_enter Tryz.func99,Tryz.ntmps99
     go_wp2
     go_ret
     exact ⟨rfl,HB.out⟩
   ·have eg1:decide (1<=n)=false:=ye hg1
    have hr:=HR.out
    obtain rfl:R=2:=by rw [hr];simp [hs0,hm0,hg1]
    clear HR hr hs0 hm0 hg1
    generalize l.length=m at *
    generalize mkB s=S at *
    go_enter Tryz.func99,Tryz.ntmps99
    go_wp2
    go_ret
    exact ⟨rfl,HB.out⟩
  ·have em0:(l.length==0)=false:=by rw [yf];exact fun e=>hm0 (List.eq_nil_of_length_eq_zero e)
   have em0':((l.length:Int)==0)=false:=by rw [yf];exact fun e=>hm0 (List.eq_nil_of_length_eq_zero (by omega))
   have hr:=HR.out
   obtain rfl:R=2:=by rw [hr];simp [hs0,hm0]
   clear HR hr hs0 hm0
   generalize l.length=m at *
   generalize mkB s=S at *
   go_enter Tryz.func99,Tryz.ntmps99
   go_wp2
   go_ret
   exact ⟨rfl,HB.out⟩
 ·have es0b:((mkB s).toList==[])=false:=by rw [yf,zag];exact hs0
  have es0c:((mkB s).toList != [])=true:=by simp only [bne,es0b,yj]
  have hr:=HR.out
  obtain rfl:R=2:=by rw [hr];simp [hs0]
  clear HR hr hs0
  generalize l.length=m at *
  generalize mkB s=S at *
  go_enter Tryz.func99,Tryz.ntmps99
  go_wp2
  go_ret
  exact ⟨rfl,HB.out⟩
theorem rown_k2 {n:Int} {s:List UInt8} {l:List PV} {a1:Option Addr} {cap1:Nat} {w:World} (_m1:(l.length:Int)<=9223372036854775807) :
  Calls Tryz.prog 99 #[.agg #[.int .i64 2,.int .i64 n,.string (mkB s),.slice a1 l.length cap1]] w fun e w'=>e=.returned (.int .i64 (zaD 2 n (za7 (mkB s) l.length)))/\Below w.heap.size w w':=by
 obtain ⟨R,hR⟩:∃R,R=(zaD 2 n (za7 (mkB s) l.length):Int):=⟨_,rfl⟩
 rw [<-hR]
 have HR:=yb hR
 have HB:=yb (zae w (.cells #[.int .i64 2,.int .i64 n,.string (mkB s),.slice a1 l.length cap1] 25))
 clear hR
 have HP:=yb (fun W=>zdD 2 n (mkB s) a1 l.length cap1 W _m1)
 rw [<-HR.out] at HP
 clear HR
 by_cases hs0:s=[]
 ·have es0:(mkB s).toList=[]:=by rw [zag];exact hs0
  have es0b:((mkB s).toList==[])=true:=by rw [beq_iff_eq];exact es0
  have es0c:((mkB s).toList != [])=false:=by simp only [bne,es0b,Bool.not_true]
  by_cases hm0:l=[]
  ·have em0:(l.length==0)=true:=by rw [hm0];rfl
   have em0':((l.length:Int)==0)=true:=by rw [hm0];rfl
   clear hs0 hm0
   generalize l.length=m at *
   generalize mkB s=S at *
   go_enter Tryz.func99,Tryz.ntmps99
   go_wp2_with (go_at_call 79;refine (HP.out _).mono ?_;rintro e w1 ⟨rfl,hb1⟩)
   go_ret
   exact ⟨rfl,HB.out.trans (hb1.mono HB.out.size)⟩
  ·have em0:(l.length==0)=false:=by rw [yf];exact fun e=>hm0 (List.eq_nil_of_length_eq_zero e)
   have em0':((l.length:Int)==0)=false:=by rw [yf];exact fun e=>hm0 (List.eq_nil_of_length_eq_zero (by omega))
   clear hs0 hm0
   generalize l.length=m at *
   generalize mkB s=S at *
   go_enter Tryz.func99,Tryz.ntmps99
   go_wp2_with (go_at_call 79;refine (HP.out _).mono ?_;rintro e w1 ⟨rfl,hb1⟩)
   go_ret
   exact ⟨rfl,HB.out.trans (hb1.mono HB.out.size)⟩
 ·have es0b:((mkB s).toList==[])=false:=by rw [yf,zag];exact hs0
  have es0c:((mkB s).toList != [])=true:=by simp only [bne,es0b,yj]
  clear hs0
  generalize l.length=m at *
  generalize mkB s=S at *
  go_enter Tryz.func99,Tryz.ntmps99
  go_wp2_with (go_at_call 79;refine (HP.out _).mono ?_;rintro e w1 ⟨rfl,hb1⟩)
  go_ret
  exact ⟨rfl,HB.out.trans (hb1.mono HB.out.size)⟩
theorem rown_k3 {n:Int} {s:List UInt8} {l:List PV} {a1:Option Addr} {cap1:Nat} {w:World} (_m1:(l.length:Int)<=9223372036854775807) :
  Calls Tryz.prog 99 #[.agg #[.int .i64 3,.int .i64 n,.string (mkB s),.slice a1 l.length cap1]] w fun e w'=>e=.returned (.int .i64 (zaD 3 n (za7 (mkB s) l.length)))/\Below w.heap.size w w':=by
 obtain ⟨R,hR⟩:∃R,R=(zaD 3 n (za7 (mkB s) l.length):Int):=⟨_,rfl⟩
 rw [<-hR]
 have HR:=yb hR
 have HB:=yb (zae w (.cells #[.int .i64 3,.int .i64 n,.string (mkB s),.slice a1 l.length cap1] 25))
 clear hR
 have HP:=yb (fun W=>zdD 3 n (mkB s) a1 l.length cap1 W _m1)
 rw [<-HR.out] at HP
 clear HR
 by_cases hs0:s=[]
 ·have es0:(mkB s).toList=[]:=by rw [zag];exact hs0
  have es0b:((mkB s).toList==[])=true:=by rw [beq_iff_eq];exact es0
  have es0c:((mkB s).toList != [])=false:=by simp only [bne,es0b,Bool.not_true]
  by_cases hm0:l=[]
  ·have em0:(l.length==0)=true:=by rw [hm0];rfl
   have em0':((l.length:Int)==0)=true:=by rw [hm0];rfl
   clear hs0 hm0
   generalize l.length=m at *
   generalize mkB s=S at *
   go_enter Tryz.func99,Tryz.ntmps99
   go_wp2_with (go_at_call 79;refine (HP.out _).mono ?_;rintro e w1 ⟨rfl,hb1⟩)
   go_ret
   exact ⟨rfl,HB.out.trans (hb1.mono HB.out.size)⟩
  ·have em0:(l.length==0)=false:=by rw [yf];exact fun e=>hm0 (List.eq_nil_of_length_eq_zero e)
   have em0':((l.length:Int)==0)=false:=by rw [yf];exact fun e=>hm0 (List.eq_nil_of_length_eq_zero (by omega))
   clear hs0 hm0
   generalize l.length=m at *
   generalize mkB s=S at *
   go_enter Tryz.func99,Tryz.ntmps99
   go_wp2_with (go_at_call 79;refine (HP.out _).mono ?_;rintro e w1 ⟨rfl,hb1⟩)
   go_ret
   exact ⟨rfl,HB.out.trans (hb1.mono HB.out.size)⟩
 ·have es0b:((mkB s).toList==[])=false:=by rw [yf,zag];exact hs0
  have es0c:((mkB s).toList != [])=true:=by simp only [bne,es0b,yj]
  clear hs0
  generalize l.length=m at *
  generalize mkB s=S at *
  go_enter Tryz.func99,Tryz.ntmps99
  go_wp2_with (go_at_call 79;refine (HP.out _).mono ?_;rintro e w1 ⟨rfl,hb1⟩)
  go_ret
  exact ⟨rfl,HB.out.trans (hb1.mono HB.out.size)⟩
theorem rown_k5 {n:Int} {s:List UInt8} {l:List PV} {a1:Option Addr} {cap1:Nat} {w:World} (hsl:s.length<=288230376151711744) (_m1:(l.length:Int)<=9223372036854775807) :
  Calls Tryz.prog 99 #[.agg #[.int .i64 5,.int .i64 n,.string (mkB s),.slice a1 l.length cap1]] w fun e w'=>e=.returned (.int .i64 (if 127<s.length\/(0:UInt8)∈s then 17 else if n=0/\l=[] then 0 else 2))/\Below w.heap.size w w':=by
 obtain ⟨R,hR⟩:∃R,R=(if 127<s.length\/(0:UInt8)∈s then 17 else if n=0/\l=[] then 0 else 2:Int):=⟨_,rfl⟩
 rw [<-hR]
 have HR:=yb hR
 have HB:=yb (zae w (.cells #[.int .i64 5,.int .i64 n,.string (mkB s),.slice a1 l.length cap1] 25))
 clear hR
 have HT:=yb (fun W=>rtext11 s W (by omega))
 have hq:R=if zdN s=false then 17 else if n=0/\l=[] then 0 else 2:=by
  rw [HR.out,nameC_is]
 have HX1:=yb (zab (w:=w) (.cells #[.int .i64 5,.int .i64 n,.string (mkB s),.slice a1 l.length cap1] 25) rfl)
 clear HR
 generalize zdN s=nc at *
 have HR:=yb hq
 clear hq hsl
 cases nc
 ·by_cases hs0:s=[]
  ·have es0:(mkB s).toList=[]:=by rw [zag];exact hs0
   have es0b:((mkB s).toList==[])=true:=by rw [beq_iff_eq];exact es0
   have es0c:((mkB s).toList != [])=false:=by simp only [bne,es0b,Bool.not_true]
   by_cases hm0:l=[]
   ·have em0:(l.length==0)=true:=by rw [hm0];rfl
    have em0':((l.length:Int)==0)=true:=by rw [hm0];rfl
    have hr:=HR.out
    obtain rfl:R=17:=by rw [hr];simp [hs0,hm0]
    clear HR hr hs0 hm0
    generalize l.length=m at *
    generalize mkB s=S at *
    go_enter Tryz.func99,Tryz.ntmps99
    go_wp2_with (go_at_call 81;refine (HT.out _).mono ?_;rintro e w1 ⟨rfl,rfl⟩)
    go_ret
    exact ⟨rfl,HB.out⟩
   ·have em0:(l.length==0)=false:=by rw [yf];exact fun e=>hm0 (List.eq_nil_of_length_eq_zero e)
    have em0':((l.length:Int)==0)=false:=by rw [yf];exact fun e=>hm0 (List.eq_nil_of_length_eq_zero (by omega))
    have hr:=HR.out
    obtain rfl:R=17:=by rw [hr];simp [hs0,hm0]
    clear HR hr hs0 hm0
    generalize l.length=m at *
    generalize mkB s=S at *
    go_enter Tryz.func99,Tryz.ntmps99
    go_wp2_with (go_at_call 81;refine (HT.out _).mono ?_;rintro e w1 ⟨rfl,rfl⟩)
    go_ret
    exact ⟨rfl,HB.out⟩
  ·have es0b:((mkB s).toList==[])=false:=by rw [yf,zag];exact hs0
   have es0c:((mkB s).toList != [])=true:=by simp only [bne,es0b,yj]
   have hr:=HR.out
   obtain rfl:R=17:=by rw [hr];simp [hs0]
   clear HR hr hs0
   generalize l.length=m at *
   generalize mkB s=S at *
   go_enter Tryz.func99,Tryz.ntmps99
   go_wp2_with (go_at_call 81;refine (HT.out _).mono ?_;rintro e w1 ⟨rfl,rfl⟩)
   go_ret
   exact ⟨rfl,HB.out⟩
 ·by_cases hs0:s=[]
  ·have es0:(mkB s).toList=[]:=by rw [zag];exact hs0
   have es0b:((mkB s).toList==[])=true:=by rw [beq_iff_eq];exact es0
   have es0c:((mkB s).toList != [])=false:=by simp only [bne,es0b,Bool.not_true]
   by_cases hm0:l=[]
   ·have em0:(l.length==0)=true:=by rw [hm0];rfl
    have em0':((l.length:Int)==0)=true:=by rw [hm0];rfl
    by_cases hn0:n=0
    ·have en0:(n==0)=true:=by rw [beq_iff_eq];exact hn0
     have en0':(n != 0)=false:=by simp only [bne,en0,Bool.not_true]
     have hr:=HR.out
     obtain rfl:R=0:=by rw [hr];simp [hs0,hm0,hn0]
     clear HR hr hs0 hm0 hn0
     generalize l.length=m at *
     generalize mkB s=S at *
     go_enter Tryz.func99,Tryz.ntmps99
     go_wp2_with (go_at_call 81;refine (HT.out _).mono ?_;rintro e w1 ⟨rfl,rfl⟩)
     go_ret
     exact ⟨rfl,HB.out⟩
    ·have en0:(n==0)=false:=by rw [yf];exact hn0
     have en0':(n != 0)=true:=by simp only [bne,en0,yj]
     have hr:=HR.out
     obtain rfl:R=2:=by rw [hr];simp [hs0,hm0,hn0]
     clear HR hr hs0 hm0 hn0
     generalize l.length=m at *
     generalize mkB s=S at *
     go_enter Tryz.func99,Tryz.ntmps99
     go_wp2_with (go_at_call 81;refine (HT.out _).mono ?_;rintro e w1 ⟨rfl,rfl⟩)
     go_ret
     exact ⟨rfl,HB.out⟩
   ·have em0:(l.length==0)=false:=by rw [yf];exact fun e=>hm0 (List.eq_nil_of_length_eq_zero e)
    have em0':((l.length:Int)==0)=false:=by rw [yf];exact fun e=>hm0 (List.eq_nil_of_length_eq_zero (by omega))
    by_cases hn0:n=0
    ·have en0:(n==0)=true:=by rw [beq_iff_eq];exact hn0
     have en0':(n != 0)=false:=by simp only [bne,en0,Bool.not_true]
     have hr:=HR.out
     obtain rfl:R=2:=by rw [hr];simp [hs0,hm0,hn0]
     clear HR hr hs0 hm0 hn0
     generalize l.length=m at *
     generalize mkB s=S at *
     go_enter Tryz.func99,Tryz.ntmps99
     go_wp2_with (go_at_call 81;refine (HT.out _).mono ?_;rintro e w1 ⟨rfl,rfl⟩)
     go_ret
     exact ⟨rfl,HB.out⟩
    ·have en0:(n==0)=false:=by rw [yf];exact hn0
     have en0':(n != 0)=true:=by simp only [bne,en0,yj]
     have hr:=HR.out
     obtain rfl:R=2:=by rw [hr];simp [hs0,hm0,hn0]
     clear HR hr hs0 hm0 hn0
     generalize l.length=m at *
     generalize mkB s=S at *
     go_enter Tryz.func99,Tryz.ntmps99
     go_wp2_with (go_at_call 81;refine (HT.out _).mono ?_;rintro e w1 ⟨rfl,rfl⟩)
     go_ret
     exact ⟨rfl,HB.out⟩
  ·have es0b:((mkB s).toList==[])=false:=by rw [yf,zag];exact hs0
   have es0c:((mkB s).toList != [])=true:=by simp only [bne,es0b,yj]
   by_cases hn0:n=0
   ·have en0:(n==0)=true:=by rw [beq_iff_eq];exact hn0
    have en0':(n != 0)=false:=by simp only [bne,en0,Bool.not_true]
    by_cases hm0:l=[]
    ·have em0:(l.length==0)=true:=by rw [hm0];rfl
     have em0':((l.length:Int)==0)=true:=by rw [hm0];rfl
     have hr:=HR.out
     obtain rfl:R=0:=by rw [hr];simp [hs0,hn0,hm0]
     clear HR hr hs0 hn0 hm0
     generalize l.length=m at *
     generalize mkB s=S at *
     go_enter Tryz.func99,Tryz.ntmps99
     go_wp2_with (go_at_call 81;refine (HT.out _).mono ?_;rintro e w1 ⟨rfl,rfl⟩)
     go_ret
     exact ⟨rfl,HB.out⟩
    ·have em0:(l.length==0)=false:=by rw [yf];exact fun e=>hm0 (List.eq_nil_of_length_eq_zero e)
     have em0':((l.length:Int)==0)=false:=by rw [yf];exact fun e=>hm0 (List.eq_nil_of_length_eq_zero (by omega))
     have hr:=HR.out
     obtain rfl:R=2:=by rw [hr];simp [hs0,hn0,hm0]
     clear HR hr hs0 hn0 hm0
     generalize l.length=m at *
     generalize mkB s=S at *
     go_enter Tryz.func99,Tryz.ntmps99
     go_wp2_with (go_at_call 81;refine (HT.out _).mono ?_;rintro e w1 ⟨rfl,rfl⟩)
     go_ret
     exact ⟨rfl,HB.out⟩
   ·have en0:(n==0)=false:=by rw [yf];exact hn0
    have en0':(n != 0)=true:=by simp only [bne,en0,yj]
    have hr:=HR.out
    obtain rfl:R=2:=by rw [hr];simp [hs0,hn0]
    clear HR hr hs0 hn0
    generalize l.length=m at *
    generalize mkB s=S at *
    go_enter Tryz.func99,Tryz.ntmps99
    go_wp2_with (go_at_call 81;refine (HT.out _).mono ?_;rintro e w1 ⟨rfl,rfl⟩)
    go_ret
    exact ⟨rfl,HB.out⟩
theorem rown_k7 {n:Int} {s:List UInt8} {l:List PV} {a1:Option Addr} {cap1:Nat} {w:World} (hv:IsV w anyF (.mk 7 n s l) (.slice a1 l.length cap1)) :
  Calls Tryz.prog 99 #[.agg #[.int .i64 7,.int .i64 n,.string (mkB s),.slice a1 l.length cap1]] w fun e w'=>e=.returned (.int .i64 (if n=0/\s=[] then zcN l else 2))/\Below w.heap.size w w':=by
 have HB:=yb (zae w (.cells #[.int .i64 7,.int .i64 n,.string (mkB s),.slice a1 l.length cap1] 25))
 have HD:=yb (fun (W:World) (h:Below w.heap.size w W)=>rdictA (hv.below h))
 clear hv
 simp only [pvA,PV.kind,PV.n,PV.s,PV.l] at HD
 generalize (if n=0/\s=[] then zcN l else 2:Int)=R at *
 by_cases hs0:s=[]
 ·have es0:(mkB s).toList=[]:=by rw [zag];exact hs0
  have es0b:((mkB s).toList==[])=true:=by rw [beq_iff_eq];exact es0
  have es0c:((mkB s).toList != [])=false:=by simp only [bne,es0b,Bool.not_true]
  by_cases hm0:l=[]
  ·have em0:(l.length==0)=true:=by rw [hm0];rfl
   have em0':((l.length:Int)==0)=true:=by rw [hm0];rfl
   clear hs0 hm0
   generalize l.length=m at *
   generalize mkB s=S at *
   go_enter Tryz.func99,Tryz.ntmps99
   go_wp2_with (go_at_call 133;refine (HD.out _ HB.out).mono ?_;rintro e w1 ⟨rfl,hb1⟩)
   go_ret
   exact ⟨rfl,HB.out.trans (hb1.mono HB.out.size)⟩
  ·have em0:(l.length==0)=false:=by rw [yf];exact fun e=>hm0 (List.eq_nil_of_length_eq_zero e)
   have em0':((l.length:Int)==0)=false:=by rw [yf];exact fun e=>hm0 (List.eq_nil_of_length_eq_zero (by omega))
   clear hs0 hm0
   generalize l.length=m at *
   generalize mkB s=S at *
   go_enter Tryz.func99,Tryz.ntmps99
   go_wp2_with (go_at_call 133;refine (HD.out _ HB.out).mono ?_;rintro e w1 ⟨rfl,hb1⟩)
   go_ret
   exact ⟨rfl,HB.out.trans (hb1.mono HB.out.size)⟩
 ·have es0b:((mkB s).toList==[])=false:=by rw [yf,zag];exact hs0
  have es0c:((mkB s).toList != [])=true:=by simp only [bne,es0b,yj]
  clear hs0
  generalize l.length=m at *
  generalize mkB s=S at *
  go_enter Tryz.func99,Tryz.ntmps99
  go_wp2_with (go_at_call 133;refine (HD.out _ HB.out).mono ?_;rintro e w1 ⟨rfl,hb1⟩)
  go_ret
  exact ⟨rfl,HB.out.trans (hb1.mono HB.out.size)⟩
theorem rown_kx {k n:Int} {s:List UInt8} {l:List PV} {a1:Option Addr} {cap1:Nat} {w:World} (_m1:(l.length:Int)<=9223372036854775807) (hk:k≠0/\k≠1/\k≠2/\k≠3/\k≠4/\k≠5/\k≠6/\k≠7/\k≠8) :
  Calls Tryz.prog 99 #[.agg #[.int .i64 k,.int .i64 n,.string (mkB s),.slice a1 l.length cap1]] w fun e w'=>e=.returned (.int .i64 2)/\Below w.heap.size w w':=by
 obtain ⟨h0,h1,h2,h3,h4,h5,h6,h7,h8⟩:=hk
 have e0:(k==0)=false:=by rw [yf];exact h0
 have e1:(k==1)=false:=by rw [yf];exact h1
 have e2:(k==2)=false:=by rw [yf];exact h2
 have e3:(k==3)=false:=by rw [yf];exact h3
 have e4:(k==4)=false:=by rw [yf];exact h4
 have e5:(k==5)=false:=by rw [yf];exact h5
 have e6:(k==6)=false:=by rw [yf];exact h6
 have e7:(k==7)=false:=by rw [yf];exact h7
 have e8:(k==8)=false:=by rw [yf];exact h8
 have HB:=yb (zae w (.cells #[.int .i64 k,.int .i64 n,.string (mkB s),.slice a1 l.length cap1] 25))
 clear h0 h1 h2 h3 h4 h5 h6 h7 h8
 by_cases hs0:s=[]
 ·have es0:(mkB s).toList=[]:=by rw [zag];exact hs0
  have es0b:((mkB s).toList==[])=true:=by rw [beq_iff_eq];exact es0
  have es0c:((mkB s).toList != [])=false:=by simp only [bne,es0b,Bool.not_true]
  by_cases hm0:l=[]
  ·have em0:(l.length==0)=true:=by rw [hm0];rfl
   have em0':((l.length:Int)==0)=true:=by rw [hm0];rfl
   clear hs0 hm0
   generalize l.length=m at *
   generalize mkB s=S at *
   go_enter Tryz.func99,Tryz.ntmps99
   go_wp2
   go_ret
   exact ⟨rfl,HB.out⟩
  ·have em0:(l.length==0)=false:=by rw [yf];exact fun e=>hm0 (List.eq_nil_of_length_eq_zero e)
   have em0':((l.length:Int)==0)=false:=by rw [yf];exact fun e=>hm0 (List.eq_nil_of_length_eq_zero (by omega))
   clear hs0 hm0
   generalize l.length=m at *
   generalize mkB s=S at *
   go_enter Tryz.func99,Tryz.ntmps99
   go_wp2
   go_ret
   exact ⟨rfl,HB.out⟩
 ·have es0b:((mkB s).toList==[])=false:=by rw [yf,zag];exact hs0
  have es0c:((mkB s).toList != [])=true:=by simp only [bne,es0b,yj]
  clear hs0
  generalize l.length=m at *
  generalize mkB s=S at *
  go_enter Tryz.func99,Tryz.ntmps99
  go_wp2
  go_ret
  exact ⟨rfl,HB.out⟩
theorem rown_any {v:PV} {sl:Value} {w:World} (hv:IsV w anyF v sl) (hsl:v.s.length<=288230376151711744) :
  Calls Tryz.prog 99 #[pvA v sl] w fun e w'=>e=.returned (.int .i64 (ownC v))/\Below w.heap.size w w':=by
 obtain ⟨a1,cap1,e1,g1,g2,-⟩:=hv.len
 subst e1
 have m1:(v.l.length:Int)<=9223372036854775807:=by unfold maxLen at g2;omega
 obtain ⟨k,n,s,l⟩:=v
 simp only [pvA,PV.kind,PV.n,PV.s,PV.l] at m1 g1 hv hsl |-
 simp only [ownC]
 by_cases h0:k=0
 ·subst h0;rw [yg rfl];exact rown_k0 m1
 rw [yh h0]
 by_cases h1:k=1
 ·subst h1;rw [yg rfl];exact rown_k1 m1
 rw [yh h1]
 by_cases h2:k=2
 ·subst h2;rw [yg (.inl rfl),<-zef];exact rown_k2 m1
 by_cases h3:k=3
 ·subst h3;rw [yg (.inr rfl),<-zef];exact rown_k3 m1
 rw [yh (by omega)]
 by_cases h4:k=4
 ·subst h4;rw [yg rfl];exact rown_k4 m1
 rw [yh h4]
 by_cases h5:k=5
 ·subst h5;rw [yg rfl];exact rown_k5 hsl m1
 rw [yh h5]
 by_cases h6:k=6
 ·subst h6;rw [yg rfl];exact rown_k6 m1
 rw [yh h6]
 by_cases h7:k=7
 ·subst h7
  rw [yg rfl]
  have e:(if n≠0\/s≠[]\/l.length % 2≠0 then 2 else if zcs l=false then 2 else if ascV (twoV l)=true then 0 else 16:Int)=if n=0/\s=[] then zcN l else 2:=by
   unfold zcN
   by_cases hn:n=0
   ·by_cases hs:s=[]
    ·by_cases hl:l.length % 2=0
     ·rw [yh (show ¬(n≠0\/s≠[]\/l.length % 2≠0) from by simp [hn,hs,hl]),yg (show n=0/\s=[] from ⟨hn,hs⟩),yh (show ¬l.length % 2≠0 from by simp [hl])]
     ·rw [yg (.inr (.inr hl)),yg (show n=0/\s=[] from ⟨hn,hs⟩),yg hl]
    ·rw [yg (.inr (.inl hs)),yh (fun h=>hs h.2)]
   ·rw [yg (.inl hn),yh (fun h=>hn h.1)]
  rw [e]
  exact rown_k7 hv
 rw [yh h7]
 by_cases h8:k=8
 ·subst h8;rw [yg rfl];exact rown_k8 m1
 rw [yh h8]
 exact rown_kx m1 ⟨h0,h1,by omega,by omega,h4,h5,h6,h7,h8⟩
end Go.Proofs.YtcmoehknppjkiaaGreatDoor
namespace Go.Proofs.YtcmoehknppjkiaaGreatDoor
mutual
def bndV:PV->Nat
 | .mk _ _ s l=>100+4*s.length+bndL l
def bndL:List PV->Nat
 | []=>0
 | v::l=>bndV v+2+bndL l
end
mutual
def txM (M:Nat):PV->Prop
 | .mk _ _ s l=>s.length<=M/\txMs M l
def txMs (M:Nat):List PV->Prop
 | []=>True
 | v::l=>txM M v/\txMs M l
end
theorem bndV_is (v:PV):bndV v=100+4*v.s.length+bndL v.l:=by cases v;rfl
mutual
theorem bndV_cnt {M:Nat}:∀v:PV,txM M v->bndV v+2<=nodeV v*(102+4*M)
 | .mk _ _ s l,h=>by
  have h1:=bndL_cnt l h.2
  have h2:=h.1
  unfold bndV nodeV
  rw [Nat.add_mul]
  omega
theorem bndL_cnt {M:Nat}:∀l:List PV,txMs M l->bndL l<=ze7 l*(102+4*M)
 | [],_=>by simp [bndL]
 | v::l,h=>by
  have h1:=bndV_cnt v h.1
  have h2:=bndL_cnt l h.2
  unfold bndL ze7
  rw [Nat.add_mul]
  omega
end
theorem bnd_few {v:PV} (h:0<=fewV v 100) (ht:txM 140737488355328 v):bndV v<=1152921504606846976:=by
 have h1:=(zeq v 100 (by omega)).2.2 h
 have h2:=bndV_cnt v ht
 have h3:nodeV v<=100:=by omega
 have h4:=Nat.mul_le_mul_right (102+4*140737488355328) h3
 omega
theorem zcW {v:PV} (h:0<=fewV v 100):zaT v<=1000:=by
 have h1:=(zeq v 100 (by omega)).2.2 h
 have h2:=zeW v
 omega
mutual
theorem txM_le {M N:Nat} (hM:M<=N):∀v:PV,txM M v->txM N v
 | .mk _ _ _ l,h=>⟨Nat.le_trans h.1 hM,txMs_le hM l h.2⟩
theorem txMs_le {M N:Nat} (hM:M<=N):∀l:List PV,txMs M l->txMs N l
 | [],_=>trivial
 | v::l,h=>⟨txM_le hM v h.1,txMs_le hM l h.2⟩
end
theorem txM_is {M:Nat} {v:PV} (h:txM M v):v.s.length<=M/\txMs M v.l:=by cases v;exact h
theorem txM_mem {M:Nat}:∀ {l:List PV} {k:Nat} {x:PV},txMs M l->l[k]?=some x->txM M x
 | [],_,_,_,h=>by simp at h
 | y::l,0,x,h,hx=>by
  simp at hx;subst hx;exact h.1
 | y::l,k+1,x,h,hx=>txM_mem (l:=l) (k:=k) h.2 (by simpa using hx)
theorem bndL_take:∀ {l:List PV} {j:Nat} {x:PV},l[j]?=some x->bndL (l.take (j+1))=bndL (l.take j)+(bndV x+2)
 | [],_,_,h=>by simp at h
 | v::l,0,x,h=>by
  simp at h;subst h
  simp [bndL]
 | v::l,j+1,x,h=>by
  have:=bndL_take (l:=l) (j:=j) (x:=x) (by simpa using h)
  rw [List.take_succ_cons,List.take_succ_cons,bndL,bndL,this]
  omega
theorem bndL_le:∀(l:List PV) (j:Nat),bndL (l.take j)<=bndL l
 | [],j=>by simp
 | v::l,0=>by simp [bndL]
 | v::l,j+1=>by
  have:=bndL_le l j
  rw [List.take_succ_cons,bndL,bndL]
  omega
theorem bndL_mem {l:List PV} {j:Nat} {x:PV} (h:l[j]?=some x):bndV x+2<=bndL l:=by
 have h1:=bndL_take h
 have h2:=bndL_le l (j+1)
 omega
end Go.Proofs.YtcmoehknppjkiaaGreatDoor
namespace Go.Proofs.YtcmoehknppjkiaaGreatDoor
open Go.RowKit
theorem firstL_drop {l:List PV} {k:Nat} {x:PV} (hx:l[k]?=some x):za6 (l.drop k)=if zaH x≠0 then zaH x else za6 (l.drop (k+1)):=by
 obtain ⟨h,e⟩:=List.getElem?_eq_some_iff.1 hx
 rw [List.drop_eq_getElem_cons h,e]
 simp only [za6]
theorem rfirst_any:∀(N:Nat) (v:PV) (sl:Value) (w:World),SizeOf.sizeOf v<=N->txM 288230376151711744 v->IsV w anyF v sl ->
  Calls Tryz.prog 57 #[pvA v sl] w fun e w'=>e=.returned (.int .i64 (zaH v))/\Below w.heap.size w w':=by
 intro N
 induction N with
 | zero=>intro v sl w h;obtain ⟨_,_,_,_⟩:=v;simp at h
 | succ N ih =>
 intro v sl w hN hd hv
 obtain ⟨a1,cap1,e1,g1,g2,g3⟩:=hv.len
 subst e1
 have HA:=yb hv
 have HIH:=yb ih
 have HN:=yb hN
 have HSA:=yb (fun (k:Nat) (x:PV) (h:v.l[k]?=some x)=>zbh h)
 have m1:(v.l.length:Int)<=9223372036854775807:=by unfold maxLen at g2;omega
 have HO:=yb (fun (W:World) (h:Below w.heap.size w W)=>rown_any (hv.below h) (txM_is hd).1)
 have HH:=yb (fun W=>zfu v (.slice a1 v.l.length cap1) W)
 have HDM:=yb (fun (k:Nat) (x:PV) (hx:v.l[k]?=some x)=>txM_mem (txM_is hd).2 hx)
 have hfr:=zby v
 obtain ⟨R,hR⟩:∃R,R=zaH v:=⟨_,rfl⟩
 rw [<-hR] at hfr |-
 clear hR
 unfold pvA at HH HO |-
 clear ih hN hd hv
 generalize ownC v=oc at *
 obtain ⟨B,hB⟩:∃B,B=w.heap.size:=⟨_,rfl⟩
 have HX1:=yb (zab (w:=w) (b:=B) (.cells #[.int .i64 v.kind,.int .i64 v.n,.string (mkB v.s),.slice a1 v.l.length cap1] 25) hB)
 have HW:=yb (zae w (.cells #[.int .i64 v.kind,.int .i64 v.n,.string (mkB v.s),.slice a1 v.l.length cap1] 25))
 have HBB:=yb hB
 clear hB
 by_cases ho:oc=0
 case neg =>
  have en:(oc==0)=false:=by rw [yf];exact ho
  have en':(oc != 0)=true:=by simp only [bne,en,yj]
  rw [yg ho] at hfr
  obtain rfl:R=oc:=hfr
  clear ho HH HA HIH HDM HN HSA
  generalize v.kind=k0 at *
  generalize v.n=n0 at *
  generalize mkB v.s=s0 at *
  generalize v.l.length=l0 at *
  go_enter Tryz.func57,Tryz.ntmps57
  go_wp2_with (go_at_call 99;refine (HO.out _ HW.out).mono ?_;rintro e w1 ⟨rfl,hb1⟩;have HB1:=yb hb1)
  go_ret
  exact ⟨rfl,HW.out.trans (HB1.out.mono HW.out.size)⟩
 subst ho
 rw [yh (by simp)] at hfr
 by_cases hk:v.kind=6\/v.kind=7
 case neg =>
  rw [yh hk] at hfr
  subst hfr
  have hb:(v.kind==6||v.kind==7)=false:=by
   simp only [Bool.or_eq_false_iff,yf];omega
  rw [hb] at HH
  clear hk hb HA HIH HDM HN HSA
  generalize v.kind=k0 at *
  generalize v.n=n0 at *
  generalize mkB v.s=s0 at *
  generalize v.l.length=l0 at *
  go_enter Tryz.func57,Tryz.ntmps57
  go_wp2_with (first|(go_at_call 99;refine (HO.out _ HW.out).mono ?_;rintro e w1 ⟨rfl,hb1⟩;have HB1:=yb hb1;obtain ⟨⟨c0,c1,c2,c3⟩,-⟩:=zah (zaa hb1 HX1.out);rw [HBB.out] at c0 c1 c2 c3)|(go_at_call 98;refine (HH.out _).mono ?_;rintro e w2 ⟨rfl,hb2⟩))
  all_goals
   go_ret
   exact ⟨rfl,HW.out.trans ((HB1.out.trans (hb2.mono HB1.out.size)).mono HW.out.size)⟩
 rw [yg hk] at hfr
 have hb:(v.kind==6||v.kind==7)=true:=by
  rcases hk with h|h<;>rw [h]<;>rfl
 rw [hb] at HH
 have HDM2:=HDM
 clear hk hb HDM
 obtain ⟨la,hla⟩:∃la,la=v.l:=⟨_,rfl⟩
 have HLA:=yb hla
 rw [<-hla] at HH HO HDM2 HA HX1 HW m1 g1 hfr |-
 clear hla
 have HFR:=yb hfr
 clear hfr
 generalize v.kind=k0 at *
 generalize v.n=n0 at *
 generalize mkB v.s=s0 at *
 go_enter Tryz.func57,Tryz.ntmps57
 go_wp2_with (first|(go_at_call 99;refine (HO.out _ HW.out).mono ?_;rintro e w1 ⟨rfl,hb1⟩;have HB1:=yb hb1;have HX2:=yb (zaa hb1 HX1.out);obtain ⟨⟨c0,c1,c2,c3⟩,-⟩:=zah HX2.out;rw [HBB.out] at c0 c1 c2 c3)|(go_at_call 98;refine (HH.out _).mono ?_;rintro e w2 ⟨rfl,hb2⟩))
 have HX3:=yb (zaa hb2 HX2.out)
 have HW2:=yb (HW.out.trans ((HB1.out.trans (hb2.mono HB1.out.size)).mono HW.out.size))
 rw [<-HBB.out]
 clear c0 c1 c2 c3 hb1 hb2 HB1 HW HX1 HX2 HO HH
 go_loopw [3,4] (fun ve vk wr=>∃(k:Nat),vk=.int .i64 k/\ve=.int .i64 0/\k<=la.length/\Hid (Below w.heap.size w wr)/\Hid (Below w2.heap.size w2 wr)/\Hid (R=za6 (la.drop k))) (fun _ vk _=>la.length-(intOf vk).toNat)
 case atStart=>exact ⟨0,rfl,rfl,Nat.zero_le _,HW2,Below.refl _ _,HFR⟩
 case round =>
  obtain ⟨k,rfl,rfl,hk,HWR,HWR1,HV⟩:=hrel
  obtain ⟨⟨c0,c1,c2,c3⟩,-⟩:=zah (zaa HWR1.out HX3.out)
  by_cases q1:k<la.length
  case neg =>
   have hd1:decide (k<la.length)=false:=ye q1
   have hq2:¬(k:Int)<(la.length:Int):=by omega
   have hv:=HV.out
   rw [List.drop_eq_nil_of_le (by omega)] at hv
   obtain rfl:R=0:=hv
   clear HA HIH HDM2 HV HFR
   go_wp2
   go_ret
   exact ⟨rfl,HWR.out⟩
  obtain ⟨x,hx⟩:∃x,la[k]?=some x:=⟨_,List.getElem?_eq_getElem q1⟩
  obtain ⟨-,-,-,b1,o1,rfl,-,-,hax⟩:=(HA.out.below HWR.out).at (by omega)
  rw [<-HLA.out] at hax
  obtain ⟨sx,hsx,x0,x1,x2,x3⟩:=hax k x hx
  have hlt:SizeOf.sizeOf x<SizeOf.sizeOf v:=HSA.out k x (by rw [<-HLA.out];exact hx)
  have hN:=HN.out
  have hcall:=HIH.out x sx wr (by omega) (HDM2.out k x hx) hsx
  unfold pvA at hcall
  obtain ⟨sa',sc',rfl,-,-,-⟩:=hsx.len
  have HCALL:=yb hcall
  have hv:=HV.out
  rw [firstL_drop hx] at hv
  have HV2:=yb hv
  clear hcall hsx hlt hN hax hx HA HIH HSA HLA HN HDM2 HV HFR hv
  have hkl:(0:Int)<=(k:Int):=by omega
  have hki:(k:Int)<(la.length:Int):=by omega
  generalize zaH x=fc at *
  go_wp2_with fail
  refine HCALL.out.mono ?_
  rintro e w4 ⟨rfl,hb4⟩
  have HW4:=yo HWR hb4
  have HW5:=yo HWR1 hb4
  clear hb4 x0 x1 x2 x3 c0 c1 c2 c3 HCALL
  by_cases hf:fc=0
  ·subst hf
   have hv:=HV2.out
   rw [yh (by simp)] at hv
   have HV3:=yb hv
   clear hv HV2
   go_wp2
   go_roundw
   case rel=>exact ⟨k+1,by go_num,rfl,by omega,HW4,HW5,HV3⟩
   case measure=>simp [intOf];omega
  ·have en:(fc==0)=false:=by rw [yf];exact hf
   have en':(fc != 0)=true:=by simp only [bne,en,yj]
   have hv:=HV2.out
   rw [yg hf] at hv
   obtain rfl:R=fc:=hv
   clear HV2 hf
   go_wp2
   go_ret
   exact ⟨rfl,HW4.out⟩
theorem rcheck11_any {v:PV} {sl:Value} {w:World} (hv:IsV w anyF v sl) (ht:txM 288230376151711744 v) (hd:zaT v<=1000) :
  Calls Tryz.prog 27 #[pvA v sl] w fun e w'=>e=.returned (.int .i64 (zbc v))/\Below w.heap.size w w':=by
 have HD:=yb (fun (W:World) (h:Below w.heap.size w W)=>rdepth_any _ v sl W (yp _) hd (hv.below h))
 have HF:=yb (fun (W:World) (h1:Below w.heap.size w W)=>rfirst_any _ v sl W (yp _) ht (hv.below h1))
 obtain ⟨a1,cap1,rfl,g1,g2,g3⟩:=hv.len
 have hr:zbc v=if 64<zaT v then 15 else zaH v:=by unfold zbc;rfl
 rw [hr]
 unfold pvA at HD HF |-
 have HW:=yb (zae w (.cells #[.int .i64 v.kind,.int .i64 v.n,.string (mkB v.s),.slice a1 v.l.length cap1] 25))
 have HX1:=yb (zab (w:=w) (.cells #[.int .i64 v.kind,.int .i64 v.n,.string (mkB v.s),.slice a1 v.l.length cap1] 25) rfl)
 clear hv hr ht
 generalize v.kind=k0 at *
 generalize v.n=n0 at *
 generalize mkB v.s=s0 at *
 generalize v.l.length=l0 at *
 generalize zaT v=d at *
 generalize zaH v=fc at *
 by_cases h64:64<d
 ·rw [yg h64]
  have hdd:decide (64<(d:Int))=true:=yd (by omega)
  have hdd2:(64:Int)<(d:Int):=by omega
  clear HF
  go_enter Tryz.func27,Tryz.ntmps27
  go_wp2_with (go_at_call 56;refine (HD.out _ HW.out).mono ?_;rintro e w1 ⟨rfl,hb1⟩;have HB1:=yo HW hb1;obtain ⟨⟨c0,c1,c2,c3⟩,-⟩:=zah (zaa hb1 HX1.out))
  go_ret
  exact ⟨rfl,HB1.out⟩
 ·rw [yh h64]
  have hdd:decide (64<(d:Int))=false:=ye (by omega)
  have hdd2:¬(64:Int)<(d:Int):=by omega
  go_enter Tryz.func27,Tryz.ntmps27
  go_wp2_with (first|(go_at_call 56;refine (HD.out _ HW.out).mono ?_;rintro e w1 ⟨rfl,hb1⟩;have HB1:=yo HW hb1;obtain ⟨⟨c0,c1,c2,c3⟩,-⟩:=zah (zaa hb1 HX1.out))|(go_at_call 57;refine (HF.out _ HB1.out).mono ?_;rintro e w2 ⟨rfl,hb2⟩))
  go_ret
  exact ⟨rfl,HB1.out.trans (hb2.mono HB1.out.size)⟩
theorem rmay_any (e:Ent) (w:World):Calls Tryz.prog 26 #[entA e] w fun x w'=>x=.returned (.bool (za4 e))/\Below w.heap.size w w':=by
 obtain ⟨a,g,u⟩:=e
 unfold entA za4
 simp only
 by_cases h1:0<=a
 ·by_cases h2:a<=2147483647
  ·by_cases h3:0<=g
   ·go_enter Tryz.func26,Tryz.ntmps26
    go_wp2
    go_ret
    exact ⟨by simp [h1,h2,h3],zae w _⟩
   ·go_enter Tryz.func26,Tryz.ntmps26
    go_wp2
    go_ret
    exact ⟨by simp;omega,zae w _⟩
  ·go_enter Tryz.func26,Tryz.ntmps26
   go_wp2
   go_ret
   exact ⟨by simp;omega,zae w _⟩
 ·go_enter Tryz.func26,Tryz.ntmps26
  go_wp2
  go_ret
  exact ⟨by simp;omega,zae w _⟩
theorem zeg {α:Type} {p:α->Bool} {l:List α} {c:Nat} {x:α} (hx:l[c]?=some x) (h:(l.take c).all p=true) (hp:p x=true):(l.take (c+1)).all p=true:=by
 rw [List.take_add_one,hx,List.all_append,h];simp [hp]
theorem zeR {α:Type} {p:α->Bool} {l:List α} {c:Nat} {x:α} (hx:l[c]?=some x) (hp:p x=false):l.all p=false:=by
 rw [Bool.eq_false_iff];intro h;rw [List.all_eq_true] at h;have:=h x (List.mem_of_getElem? hx);rw [hp] at this;cases this
theorem grp_bad1 {g:Grp} (h:g.first<0\/4097<g.first\/4097-g.first<(g.es.length:Int)):zci g=false:=by
 unfold zci
 rw [Bool.eq_false_iff];intro h2
 simp only [Bool.and_eq_true,decide_eq_true_eq] at h2
 omega
theorem grp_bad2 {g:Grp} (h:g.es.all za4=false):zci g=false:=by unfold zci;rw [h,Bool.and_false]
theorem grp_good {g:Grp} (h:¬(g.first<0\/4097<g.first\/4097-g.first<(g.es.length:Int))) (h2:g.es.all za4=true):zci g=true:=by
 unfold zci
 rw [h2]
 simp only [Bool.and_eq_true,decide_eq_true_eq,and_true]
 omega
theorem zb1 {s:Sec} (h:zbj s=0):s.gs.length<=64/\s.gs.all zci=true/\zbc s.tr=0/\s.tr.kind=7:=by
 unfold zbj at h
 split at h
 ·cases h
 ·rename_i h1
  split at h
  ·cases h
  ·rename_i h2
   exact ⟨by omega,by simpa using h2,h,by omega⟩
theorem zdZ {s:Sec} {gv sl:Value} {w:World} (h:zbu w anyF s gv sl) (ht:txM 288230376151711744 s.tr) (hd:zaT s.tr<=1000) :
  Calls Tryz.prog 9 #[secA s gv sl] w fun e w'=>e=.returned (.int .i64 (zbj s))/\Below w.heap.size w w':=by
 obtain ⟨gs,x⟩:=s
 simp only at ht hd
 obtain ⟨ga,gc,rfl,hgc,hgm,-⟩:=h.1.len
 simp only at hgc
 have HCK:=yb (fun (W:World) (hb:Below w.heap.size w W)=>rcheck11_any (h.2.below hb) ht hd)
 have HGA:=yb (fun (W:World) (hb:Below w.heap.size w W)=>(h.1.below hb))
 obtain ⟨R,hR⟩:∃R,R=zbj ⟨gs,x⟩:=⟨_,rfl⟩
 rw [<-hR]
 unfold zbj at hR
 simp only at hR
 have HR:=yb hR
 unfold secA
 simp only at HGA |-
 obtain ⟨sa,sc,rfl,-,-,-⟩:=h.2.len
 simp only at HCK |-
 unfold pvA at HCK
 clear h ht hd hR
 have hg63:(gs.length:Int)<=9223372036854775807:=by unfold maxLen at hgm;omega
 generalize zbc x=cc at *
 generalize x.kind=xk at *
 generalize x.n=xn at *
 generalize mkB x.s=xb at *
 generalize x.l.length=xl at *
 obtain ⟨B,hB⟩:∃B,B=w.heap.size:=⟨_,rfl⟩
 have HB1:=yb (zae w (.cells #[.slice ga gs.length gc,.int .i64 xk,.int .i64 xn,.string xb,.slice sa xl sc] 27))
 have HX1:=yb (zab (w:=w) (b:=B) (.cells #[.slice ga gs.length gc,.int .i64 xk,.int .i64 xn,.string xb,.slice sa xl sc] 27) hB)
 go_enter Tryz.func9,Tryz.ntmps9
 go_upto_region 1 with fail
 try rw [<-hB]
 clear hB
 generalize World.alloc _ _=W1 at *
 obtain ⟨⟨x0,x1,x2,x3,x4⟩,-⟩:=zaL HX1.out
 by_cases h64:64<gs.length
 ·have hd1:decide (64<gs.length)=true:=yd h64
  have hd2:decide ((64:Int)<gs.length)=true:=yd (by omega)
  have hr:=HR.out
  rw [yg (.inl h64)] at hr
  subst hr
  clear HR HCK HGA
  go_wp2
  go_ret
  exact ⟨rfl,HB1.out⟩
 have hd1:decide (64<gs.length)=false:=ye h64
 have hd2:decide ((64:Int)<gs.length)=false:=ye (by omega)
 by_cases hk:xk=7
 case neg =>
  have hd3:(xk==7)=false:=by rw [yf];exact hk
  have hd4:(xk != 7)=true:=by simp only [bne,hd3,yj]
  have hr:=HR.out
  rw [yg (.inr hk)] at hr
  subst hr
  clear HR HCK HGA
  go_wp2
  go_ret
  exact ⟨rfl,HB1.out⟩
 have hd3:(xk==7)=true:=by rw [beq_iff_eq];exact hk
 have hd4:(xk != 7)=false:=by simp only [bne,hd3,Bool.not_true]
 have hr:=HR.out
 rw [yh (by omega)] at hr
 have HR2:=yb hr
 clear hr HR h64 hk
 go_wp2_with fail
 clear x0 x1 x2 x3 x4
 go_loopw [3] (fun v wr=>∃c:Nat,v=.int .i64 c/\c<=gs.length/\Hid (Below W1.heap.size W1 wr)/\Hid ((gs.take c).all zci=true)) (fun v _=>gs.length-(intOf v).toNat)
 case atStart=>exact ⟨0,rfl,Nat.zero_le _,yb (Below.refl _ _),yb rfl⟩
 case round =>
  obtain ⟨c,rfl,hc,HW,HA⟩:=hrel
  have HB:=yb (HB1.out.trans (HW.out.mono HB1.out.size))
  have HX:=yb (zaa HW.out HX1.out)
  obtain ⟨⟨x0,x1,x2,x3,x4⟩,-⟩:=zaL HX.out
  by_cases hlt:c<gs.length
  case neg =>
   have hce:c=gs.length:=by omega
   subst hce
   have hcd:decide ((gs.length:Int)<(gs.length:Int))=false:=ye (by omega)
   have hcd2:decide (gs.length<gs.length)=false:=ye (by omega)
   have ha:=HA.out
   rw [List.take_length] at ha
   have hr:=HR2.out
   rw [yh (by rw [ha];decide)] at hr
   subst hr
   have HC:=yb (HCK.out wr HB.out)
   clear ha HA HR2 HGA HCK
   go_wp2_with fail
   refine HC.out.mono ?_
   rintro e w3 ⟨rfl,hb⟩
   have HB3:=yo HB hb
   clear hb
   go_wp2
   go_ret
   exact ⟨rfl,HB3.out⟩
  have hcd:decide ((c:Int)<(gs.length:Int))=true:=yd (by omega)
  have hcd2:decide (c<gs.length)=true:=yd (by omega)
  have hlj:(c:Int)<(gs.length:Int):=by omega
  obtain ⟨-,-,-,b,off,ha,-,-,hat⟩:=(HGA.out wr HB.out).at (by omega)
  subst ha
  obtain ⟨g,hg⟩:∃g,gs[c]?=some g:=⟨_,List.getElem?_eq_getElem hlt⟩
  obtain ⟨v,hv,g0,g1⟩:=hat c g hg
  obtain ⟨ea,ec,rfl,hel,hec,-⟩:=hv.len
  have HGOOD:=yb (fun h1 h2=>zeg hg HA.out (grp_good h1 h2))
  have HBAD:=yb (fun h=>HR2.out.trans (yg (zeR hg (grp_bad1 h))))
  have HBAD2:=yb (fun h=>HR2.out.trans (yg (zeR hg (grp_bad2 h))))
  have HIE:=yb hv
  have he63:(g.es.length:Int)<=9223372036854775807:=by unfold maxLen at hec;omega
  clear hat hv hg HA
  obtain ⟨gf,ge⟩:=g
  simp only at *
  have HBA:=yb (HW.out.alloc HW.out.size (.cells #[.int .i64 gf,.slice ea ge.length ec] 58))
  have HGB:=yb (zab (w:=wr) (.cells #[.int .i64 gf,.slice ea ge.length ec] 58) rfl)
  have HIE2:=yb (HIE.out.below (zae wr (.cells #[.int .i64 gf,.slice ea ge.length ec] 58)))
  go_upto_region 7 with fail
  clear x0 x1 x2 x3 x4 HIE HX g0 g1
  generalize wr.heap.size=G at *
  generalize World.alloc _ _=W2 at *
  obtain ⟨⟨y0,y1⟩,-⟩:=za5 HGB.out
  have HBB:=yb (HB1.out.trans (HBA.out.mono HB1.out.size))
  by_cases h1:gf<0
  ·have e1:decide (gf<0)=true:=yd h1
   have hr:=HBAD.out (.inl h1)
   subst hr
   clear HR2 HBAD HBAD2 HGOOD
   go_wp2
   go_ret
   exact ⟨rfl,HBB.out⟩
  have e1:decide (gf<0)=false:=ye h1
  by_cases h2:4097<gf
  ·have e2:decide (4097<gf)=true:=yd h2
   have hr:=HBAD.out (.inr (.inl h2))
   subst hr
   clear HR2 HBAD HBAD2 HGOOD
   go_wp2
   go_ret
   exact ⟨rfl,HBB.out⟩
  have e2:decide (4097<gf)=false:=ye h2
  have hw4:IntKind.i64.wrap (4097-gf)=4097-gf:=IntWalk.i64_in _ (by omega)
  by_cases h3:4097-gf<(ge.length:Int)
  ·have e3:decide (4097-gf<(ge.length:Int))=true:=yd h3
   have hr:=HBAD.out (.inr (.inr h3))
   subst hr
   clear HR2 HBAD HBAD2 HGOOD
   go_wp2
   go_ret
   exact ⟨rfl,HBB.out⟩
  have e3:decide (4097-gf<(ge.length:Int))=false:=ye h3
  have HGOOD2:=yb (HGOOD.out (by omega))
  clear HGOOD HBAD h1 h2 h3
  go_wp2_with fail
  clear y0 y1
  go_loopw [5] (fun v wq=>∃j:Nat,v=.int .i64 j/\j<=ge.length/\Hid (Below W2.heap.size W2 wq)/\Hid ((ge.take j).all za4=true)) (fun v _=>ge.length-(intOf v).toNat)
  case atStart=>exact ⟨0,rfl,Nat.zero_le _,yb (Below.refl _ _),yb rfl⟩
  case round =>
   obtain ⟨j,rfl,hj,HWQ,HE⟩:=hrel
   obtain ⟨⟨y0,y1⟩,-⟩:=za5 (zaa HWQ.out HGB.out)
   by_cases hjl:j<ge.length
   case neg =>
    have hje:j=ge.length:=by omega
    subst hje
    have hjd:decide ((ge.length:Int)<(ge.length:Int))=false:=ye (by omega)
    have hjd2:decide (ge.length<ge.length)=false:=ye (by omega)
    have he:=HE.out
    rw [List.take_length] at he
    have HA2:=yb (HGOOD2.out he)
    have HW2:=yb (HBA.out.trans (HWQ.out.mono HBA.out.size))
    clear he HE HGOOD2 HBAD2
    go_wp2
    go_roundw
    case rel=>exact ⟨c+1,by go_num,by omega,HW2,HA2⟩
    case measure=>simp [intOf];omega
   have hjd:decide ((j:Int)<(ge.length:Int))=true:=yd (by omega)
   have hjd2:decide (j<ge.length)=true:=yd (by omega)
   have hjj:(j:Int)<(ge.length:Int):=by omega
   obtain ⟨-,-,-,be,oe,hae,hbe,-,hae2⟩:=(HIE2.out.below HWQ.out).at (by omega)
   subst hae
   obtain ⟨ee,hee⟩:∃ee,ge[j]?=some ee:=⟨_,List.getElem?_eq_getElem hjl⟩
   obtain ⟨z0,z1,z2⟩:=hae2 j ee hee
   have HU:=yb (fun h=>zeg hee HE.out h)
   have HV:=yb (fun h=>HBAD2.out (zeR hee h))
   have HM:=yb (fun W=>rmay_any ee W)
   clear hae2 hee HE HGOOD2 HBAD2
   unfold entA at HM
   obtain ⟨eat,egen,eus⟩:=ee
   simp only at *
   generalize za4 ⟨eat,egen,eus⟩=ok at *
   go_wp2_with fail
   refine (HM.out _).mono ?_
   rintro e w3 ⟨rfl,hb⟩
   have HWQ2:=yo HWQ hb
   clear hb HM y0 y1 z0 z1 z2
   cases ok
   ·have hr:=HV.out rfl
    subst hr
    clear HV HU HR2
    go_wp2
    go_ret
    exact ⟨rfl,HBB.out.trans (HWQ2.out.mono HBB.out.size)⟩
   ·have HE2:=yb (HU.out rfl)
    clear HV HU
    go_wp2
    go_roundw
    case rel=>exact ⟨j+1,by go_num,by omega,HWQ2,HE2⟩
    case measure=>simp [intOf];omega
structure SmM (w W:World) (B1 B2:Nat) (c1 c2:Array Value):Prop where
 bel:Below w.heap.size w W
 one:W.heap[B1]?=some (.cells c1 27 (0,0))
 two:W.heap[B2]?=some (.cells c2 27 (0,0))
theorem SmM.on {w W W':World} {B1 B2:Nat} {c1 c2:Array Value} (h:SmM w W B1 B2 c1 c2) (hb:Below W.heap.size W W'):SmM w W' B1 B2 c1 c2 :=
 ⟨h.bel.trans (hb.mono h.bel.size),zaa hb h.one,zaa hb h.two⟩
structure GgM (W W':World) (b1 b2:Nat) (c1 c2:Array Value):Prop where
 bel:Below W.heap.size W W'
 one:W'.heap[b1]?=some (.cells c1 58 (0,0))
 two:W'.heap[b2]?=some (.cells c2 58 (0,0))
theorem GgM.on {w W W':World} {B1 B2:Nat} {c1 c2:Array Value} (h:GgM w W B1 B2 c1 c2) (hb:Below W.heap.size W W'):GgM w W' B1 B2 c1 c2 :=
 ⟨h.bel.trans (hb.mono h.bel.size),zaa hb h.one,zaa hb h.two⟩
theorem xmay_any (e:Ent) (w:World):Calls Tryz.prog 38 #[entA e] w fun x w'=>x=.returned (.bool (za4 e))/\Below w.heap.size w w':=by
 obtain ⟨a,g,u⟩:=e
 unfold entA za4
 simp only
 by_cases h1:0<=a
 ·by_cases h2:a<=2147483647
  ·by_cases h3:0<=g
   ·go_enter Tryz.func38,Tryz.ntmps38
    go_wp2
    go_ret
    exact ⟨by simp [h1,h2,h3],zae w _⟩
   ·go_enter Tryz.func38,Tryz.ntmps38
    go_wp2
    go_ret
    exact ⟨by simp;omega,zae w _⟩
  ·go_enter Tryz.func38,Tryz.ntmps38
   go_wp2
   go_ret
   exact ⟨by simp;omega,zae w _⟩
 ·go_enter Tryz.func38,Tryz.ntmps38
  go_wp2
  go_ret
  exact ⟨by simp;omega,zae w _⟩
theorem pad_is {n d:Int} (h0:0<=n) (h1:1<=d) (h2:d<=20) (h3:((decL n.toNat).length:Int)<=d):padV n d=(padL n.toNat d.toNat,0):=by
 unfold padV
 rw [yh (by omega)]
theorem zbw (a b:List UInt8):mkB a++mkB b=mkB (a++b):=ByteArray.mk_append_mk a b
def entR (e:Ent):List UInt8×Int:=if za4 e=true then (entL e,0) else ([],2)
theorem zfA (e:Ent) (w:World):Calls Tryz.prog 15 #[entA e] w fun x w'=>x=.returned (.tuple #[.string (mkB (entR e).1),.int .i64 (entR e).2])/\Below w.heap.size w w':=by
 have HM:=yb (fun (W:World)=>xmay_any e W)
 have HPA:=yb (fun (W:World) (h:za4 e=true)=>pad_any e.at_ 10 W (by have:=(zaB.1 h);omega) (by have:=(zaB.1 h);omega) (by decide) (by decide))
 have HPG:=yb (fun (W:World) (h:za4 e=true)=>pad_any e.gen 5 W (by have:=(zaB.1 h);omega) (by have:=(zaB.1 h);omega) (by decide) (by decide))
 have HA:=yb (fun (h:za4 e=true)=>pad_is (n:=e.at_) (d:=10) (by have:=(zaB.1 h);omega) (by decide) (by decide) (by have:=(zaB.1 h);have:=zaM 9 e.at_.toNat (by omega);omega))
 have HG:=yb (fun (h:za4 e=true)=>pad_is (n:=e.gen) (d:=5) (by have:=(zaB.1 h);omega) (by decide) (by decide) (by have:=(zaB.1 h);have:=zaM 4 e.gen.toNat (by omega);omega))
 have HLA:=yb (fun (h:za4 e=true)=>show (padL e.at_.toNat 10).length<=20 by have:=(zaB.1 h);have:=zaM 9 e.at_.toNat (by omega);rw [zbH (by omega)];omega)
 have HLG:=yb (fun (h:za4 e=true)=>show (padL e.gen.toNat 5).length<=20 by have:=(zaB.1 h);have:=zaM 4 e.gen.toNat (by omega);rw [zbH (by omega)];omega)
 unfold zeD at HPA HPG
 unfold entR entL entB
 unfold entA at HM |-
 obtain ⟨ea,eg,eu⟩:=e
 simp only at HPA HPG HA HG HM HLA HLG |-
 have HB1:=yb (zae w (.cells #[.int .i64 ea,.int .i64 eg,.bool eu] 45))
 have HX1:=yb (zab (w:=w) (b:=w.heap.size) (.cells #[.int .i64 ea,.int .i64 eg,.bool eu] 45) rfl)
 cases hok:za4 ⟨ea,eg,eu⟩ with
 | false =>
  rw [hok] at HM
  simp only [Bool.false_eq_true,if_false]
  clear HPA HPG HA HG hok
  go_enter Tryz.func15,Tryz.ntmps15
  go_upto_region 1 with fail
  generalize w.alloc _=W1 at *
  obtain ⟨⟨x0,x1,x2⟩,-⟩:=zbC HX1.out
  go_wp2_with (go_at_call 38;refine (HM.out _).mono ?_;rintro e w2 ⟨rfl,hb2⟩;have HB2:=yo HB1 hb2)
  go_ret2
  exact ⟨rfl,HB2.out⟩
 | true =>
  rw [hok] at HM
  rw [yg rfl]
  have HPA2:=yb (fun W=>HPA.out W hok)
  have HPG2:=yb (fun W=>HPG.out W hok)
  replace HLA:=yb (HLA.out hok)
  replace HLG:=yb (HLG.out hok)
  rw [HA.out hok] at HPA2
  rw [HG.out hok] at HPG2
  clear HPA HPG HA HG hok
  simp only at HPA2 HPG2 |-
  have HPL:=yb (show ∀c:UInt8,mkB ((padL ea.toNat 10++(32::(padL eg.toNat 5++[32,c,32])))++[10])=mkB (padL ea.toNat 10)++mkB [32]++mkB (padL eg.toNat 5)++mkB [32,c,32,10] from fun c=>by rw [zbw,zbw,zbw];congr 1;simp)
  rw [HPL.out]
  rw [show (10:Int).toNat=10 from rfl] at HPA2
  rw [show (5:Int).toNat=5 from rfl] at HPG2
  unfold mkS at HPA2 HPG2
  rw [show (⟨(padL ea.toNat 10).toArray⟩:ByteArray)=mkB (padL ea.toNat 10) from rfl] at HPA2
  rw [show (⟨(padL eg.toNat 5).toArray⟩:ByteArray)=mkB (padL eg.toNat 5) from rfl] at HPG2
  have hpa:(mkB (padL ea.toNat 10)).size<=20:=by rw [zar];have:=HLA.out;omega
  have hpg:(mkB (padL eg.toNat 5)).size<=20:=by rw [zar];have:=HLG.out;omega
  generalize mkB (padL ea.toNat 10)=pa at *
  generalize mkB (padL eg.toNat 5)=pg at *
  clear HPL
  go_enter Tryz.func15,Tryz.ntmps15
  go_upto_region 1 with fail
  generalize w.alloc _=W1 at *
  obtain ⟨⟨x0,x1,x2⟩,-⟩:=zbC HX1.out
  go_wp2_with fail
  refine (HM.out _).mono ?_
  rintro e w2 ⟨rfl,hb2⟩
  have HB2:=yo HB1 hb2
  have HX2:=yb (zaa hb2 HX1.out)
  clear HX1 HB1 hb2 x0 x1 x2
  obtain ⟨⟨x0,x1,x2⟩,-⟩:=zbC HX2.out
  cases eu
  all_goals
   go_wp2_with (first
    |(go_at_call_of 39 (Value.int .i64 10);refine (HPA2.out _).mono ?_;rintro e w3 ⟨rfl,q3,rfl⟩)
    |(go_at_call 39;refine (HPG2.out _).mono ?_;rintro e w4 ⟨rfl,q4,rfl⟩))
   go_ret2
   exact ⟨rfl,zad HB2.out _⟩
mutual
theorem IsV.ltS {w:World} {F:Nat->Prop}:∀(v:PV) {sl:Value},IsV w F v sl->IsV w (fun b=>F b/\b<w.heap.size) v sl
 | .mk _ _ _ l,_,⟨a,cap,cs,h,hr,hF,hs⟩=>⟨a,cap,cs,h,hr,fun h0 x hx=>⟨hF h0 x hx,by
   obtain ⟨b,off,ha,hb,_⟩:=hr.2.2.2.2 h0
   rw [ha] at hx
   cases hx
   exact hb⟩,IsVs.ltS l hs⟩
theorem IsVs.ltS {w:World} {F:Nat->Prop}:∀(l:List PV) {cs:List Value},IsVs w F l cs->IsVs w (fun b=>F b/\b<w.heap.size) l cs
 | [],_,h=>h
 | v::l,_,⟨sl,t,h,hv,ht⟩=>⟨sl,t,h,IsV.ltS v hv,IsVs.ltS l ht⟩
end
theorem firstL_take {l:List PV} {k:Nat} {x:PV} (hx:l[k]?=some x) (h:za6 (l.take k)=0):za6 (l.take (k+1))=zaH x:=by
 induction l generalizing k with
 | nil=>cases hx
 | cons y l ih =>
  cases k with
  | zero =>
   have:y=x:=by simpa using hx
   subst this
   simp only [List.take_succ_cons,List.take_zero,za6]
   split
   ·rfl
   ·rename_i e
    have e2:zaH y=0:=by simpa using e
    rw [e2]
  | succ k =>
   rw [List.take_succ_cons] at h |-
   simp only [za6] at h |-
   by_cases e:zaH y=0
   ·rw [yh (by simpa using e)] at h |-
    exact ih (by simpa using hx) h
   ·rw [yg e] at h;exact absurd h e
theorem firstL_bad {l:List PV} {k:Nat} {x:PV} (hx:l[k]?=some x) (h:za6 (l.take k)=0) (he:zaH x≠0):za6 l=zaH x:=by
 induction l generalizing k with
 | nil=>cases hx
 | cons y l ih =>
  cases k with
  | zero =>
   have:y=x:=by simpa using hx
   subst this
   simp only [za6]
   rw [yg he]
  | succ k =>
   rw [List.take_succ_cons] at h
   simp only [za6] at h |-
   by_cases e:zaH y=0
   ·rw [yh (by simpa using e)] at h |-
    exact ih (by simpa using hx) h
   ·rw [yg e] at h;exact absurd h e
theorem zbq {w:World} {b:Nat} {o:Obj} (h:w.heap[b]?=some o):b<w.heap.size:=(Array.getElem?_eq_some_iff.1 h).1
theorem keepsB {w w':World} {S:Nat->Prop} (h:Below w.heap.size w w'):zaf S w w':=⟨h.os,h.tape,h.output,h.size,fun b hb _=>h.block b hb⟩
structure ErrM (w w':World) (p:Nat) (e:Int):Prop where
 blk:w'.heap[p]?=some (.cells #[.int .i64 e] 31 (0,0))
 keeps:zaf (fun b=>b=p) w w'
theorem check1_any {v:PV} {sl:Value} {w:World} {p:Nat} {e0:Int} (hv:IsV w (fun b=>b≠p) v sl) (hb:w.heap[p]?=some (.cells #[.int .i64 e0] 31 (0,0))) :
  Calls Tryz.prog 77 #[pvA v sl,.pointer (some ⟨p,0,none⟩)] w fun e w'=>e=.returned (.bool (ownC v==0))/\ErrM w w' p (ownC v):=by
 have HO:=yb (fun (W:World) (h:Below w.heap.size w W)=>vown_any (hv.any.below h))
 obtain ⟨a1,cap1,e1,-,-,-⟩:=hv.len
 subst e1
 unfold pvA at HO |-
 generalize ownC v=oc at *
 generalize v.kind=k0 at *
 generalize v.n=n0 at *
 generalize mkB v.s=s0 at *
 generalize v.l.length=m at *
 clear hv
 go_enter Tryz.func77,Tryz.ntmps77
 obtain ⟨B,hB⟩:∃B,B=w.heap.size:=⟨_,rfl⟩
 have hbw:=zae w (.cells #[.int .i64 k0,.int .i64 n0,.string s0,.slice a1 m cap1] 25)
 have HX1:=yb (zab (w:=w) (b:=B) (.cells #[.int .i64 k0,.int .i64 n0,.string s0,.slice a1 m cap1] 25) hB)
 have HP1:=yb (zaa hbw hb)
 have HW:=yb hbw
 clear hbw hb
 go_upto_region 1 with fail
 rw [<-hB]
 clear hB
 generalize w.alloc _=W1 at *
 obtain ⟨⟨c0,c1,c2,c3⟩,-⟩:=zah HX1.out
 go_wp2_with fail
 refine (HO.out _ HW.out).mono ?_
 rintro e w2 ⟨rfl,hb2⟩
 have HP2:=yb (zaa hb2 HP1.out)
 have HW2:=yo HW hb2
 clear hb2 c0 c1 c2 c3
 have p0:w2.cell? ⟨p,0,none⟩=some (.int .i64 e0):=by rw [cell_of_row w2 p 0 _ _ _ HP2.out];rfl
 have pf:w2.frozen? ⟨p,0,none⟩=false:=frozen_of_row w2 p 0 _ _ HP2.out
 have HE:=yb (show ErrM w (w2.setCell ⟨p,0,none⟩ (.int .i64 oc)) p oc from ⟨by rw [heap_setCell_same w2 p 0 _ _ _ HP2.out];rfl,(keepsB (S:=fun b=>b=p) HW2.out).setCell (a:=⟨p,0,none⟩) (.inl rfl) _⟩)
 go_upto_region 2 with fail
 have q0:(w2.setCell ⟨p,0,none⟩ (.int .i64 oc)).cell? ⟨p,0,none⟩=some (.int .i64 oc):=by rw [cell_of_row _ p 0 _ _ _ HE.out.blk];rfl
 clear p0 pf
 generalize w2.setCell _ _=W3 at *
 go_wp2
 go_ret
 exact ⟨rfl,HE.out⟩
theorem ErrM.trans {w w1 w2:World} {p:Nat} {e2:Int} (h:zaf (fun b=>b=p) w w1) (k:ErrM w1 w2 p e2):ErrM w w2 p e2:=⟨k.blk,h.trans k.keeps fun _ hb=>.inl hb⟩
theorem IsV.err {w w':World} {p:Nat} {v:PV} {sl:Value} (h:IsV w (fun b=>b≠p) v sl) (k:zaf (fun b=>b=p) w w'):IsV w' (fun b=>b≠p) v sl:=IsV.keep ⟨k.size,fun b hb hf=>k.block b hb hf⟩ (fun _ h=>h) v h
theorem walk_any (p:Nat):∀(N:Nat) (v:PV) (sl:Value) (w:World),SizeOf.sizeOf v<=N->IsV w (fun b=>b≠p) v sl->w.heap[p]?=some (.cells #[.int .i64 0] 31 (0,0)) ->
  Calls Tryz.prog 76 #[pvA v sl,.func (.func 77) #[] #[.pointer (some ⟨p,0,none⟩)]] w fun e w'=>e=.returned (.bool (zaH v==0))/\ErrM w w' p (zaH v):=by
 intro N
 induction N with
 | zero=>intro v sl w h;obtain ⟨_,_,_,_⟩:=v;simp at h
 | succ N ih =>
 intro v sl w hN hv hb
 have eg:=enters_of Tryz.func77 (by kernel_rfl) rfl
 obtain ⟨a1,cap1,e1,g1,g2,g3⟩:=hv.len
 subst e1
 have HA:=yb hv
 have HIH:=yb ih
 have HN:=yb hN
 have HSA:=yb (fun (k:Nat) (x:PV) (h:v.l[k]?=some x)=>zbh h)
 have m1:(v.l.length:Int)<=9223372036854775807:=by unfold maxLen at g2;omega
 have HCH:=yb (fun (W:World) (h:Below w.heap.size w W)=>check1_any (hv.below h) (zaa h hb))
 have hfc:=zby v
 have hpl:p<w.heap.size:=(Array.getElem?_eq_some_iff.1 hb).1
 unfold pvA at HCH |-
 clear ih hN hv hb g2 g3
 obtain ⟨FC,hFC⟩:∃FC,FC=zaH v:=⟨_,rfl⟩
 rw [<-hFC] at hfc |-
 clear hFC
 obtain ⟨la,hla⟩:∃la,la=v.l:=⟨_,rfl⟩
 have HLA:=yb hla
 rw [<-hla] at hfc HA HSA m1 g1 HCH |-
 clear hla
 obtain ⟨k0,hk0⟩:∃k,k=v.kind:=⟨_,rfl⟩
 rw [<-hk0] at hfc HCH |-
 clear hk0
 have HFC:=yb hfc
 clear hfc
 generalize ownC v=oc at *
 generalize v.n=n0 at *
 generalize mkB v.s=s0 at *
 go_enter Tryz.func76,Tryz.ntmps76
 obtain ⟨B,hB⟩:∃B,B=w.heap.size:=⟨_,rfl⟩
 have HX1:=yb (zab (w:=w) (b:=B) (.cells #[.int .i64 k0,.int .i64 n0,.string s0,.slice a1 la.length cap1] 25) hB)
 have HW:=yb (zae w (.cells #[.int .i64 k0,.int .i64 n0,.string s0,.slice a1 la.length cap1] 25))
 have HPL:=yb hpl
 have hBp:B≠p:=by omega
 go_upto_region 1 with fail
 rw [<-hB]
 clear hB hpl
 generalize w.alloc _=W1 at *
 obtain ⟨⟨c0,c1,c2,c3⟩,-⟩:=zah HX1.out
 have HBP:=yb hBp
 clear hBp
 go_wp2_with fail
 refine (HCH.out _ HW.out).mono ?_
 rintro e w2 ⟨rfl,he2⟩
 have HX2:=yb ((he2.keeps.block B (zbq HX1.out) HBP.out).trans HX1.out)
 have HE2:=yb (ErrM.trans (keepsB HW.out) he2)
 clear he2 c0 c1 c2 c3 HX1 HW HCH
 obtain ⟨⟨c0,c1,c2,c3⟩,-⟩:=zah HX2.out
 have hfc:=HFC.out
 by_cases ho:oc=0
 case neg =>
  have eo:(oc==0)=false:=by rw [yf];exact ho
  rw [yg ho] at hfc
  subst hfc
  clear HFC HA HIH HN HSA HLA ho
  have HEO:=yb eo
  go_wp2
  go_ret
  exact ⟨by rw [HEO.out];rfl,HE2.out⟩
 subst ho
 rw [yh (by simp)] at hfc
 clear HFC
 by_cases hk:k0=6\/k0=7
 case neg =>
  have hk6:(k0==6)=false:=by rw [yf];omega
  have hk7:(k0==7)=false:=by rw [yf];omega
  have hk6':(k0 != 6)=true:=by simp only [bne,hk6,yj]
  have hk7':(k0 != 7)=true:=by simp only [bne,hk7,yj]
  rw [yh hk] at hfc
  subst hfc
  clear hk HA HIH HN HSA HLA
  go_wp2
  go_ret
  exact ⟨rfl,HE2.out⟩
 rw [yg hk] at hfc
 have HFC:=yb hfc
 clear hfc
 have hor:∀ {Q:Prop},(k0=6->Q)->(k0=7->Q)->Q:=fun h6 h7=>hk.elim h6 h7
 clear hk
 refine hor (fun e6=>?_) (fun e7=>?_)
 all_goals
  first|subst e6|subst e7
  clear hor
  go_wp2
  clear c0 c1 c2 c3
  go_loopw [22] (fun vk wr=>∃(k:Nat),vk=.int .i64 k/\k<=la.length/\Hid (ErrM w wr p 0)/\Hid (za6 (la.take k)=0)) (fun vk _=>la.length-(intOf vk).toNat)
  case atStart=>exact ⟨0,rfl,Nat.zero_le _,HE2,yb rfl⟩
  case round =>
   obtain ⟨k,rfl,hk,HER,HV⟩:=hrel
   by_cases q1:k<la.length
   case neg =>
    have hkl:k=la.length:=by omega
    subst hkl
    have hv:=HV.out
    rw [List.take_length] at hv
    have hf:=HFC.out
    rw [hv] at hf
    subst hf
    clear hv HFC HV HA HIH HN HSA HLA
    go_wp2
    go_ret
    exact ⟨rfl,HER.out⟩
   obtain ⟨x,hx⟩:∃x,la[k]?=some x:=⟨_,List.getElem?_eq_getElem q1⟩
   obtain ⟨-,-,-,b1,o1,rfl,-,-,hax⟩:=(HA.out.err HER.out.keeps).at (by omega)
   rw [<-HLA.out] at hax
   obtain ⟨sx,hsx,x0,x1,x2,x3⟩:=hax k x hx
   have hlt:SizeOf.sizeOf x<SizeOf.sizeOf v:=HSA.out k x hx
   have hN:=HN.out
   obtain ⟨sa',sc',rfl,-,-,-⟩:=hsx.len
   have HCALL:=yb (fun (W:World) (hb:Below wr.heap.size wr W)=>HIH.out x _ W (by omega) (hsx.below hb) (zaa hb HER.out.blk))
   simp only [pvA] at HCALL
   have HT0:=yb (fun (h:zaH x=0)=>(firstL_take hx HV.out).trans h)
   have HT1:=yb (fun (h:zaH x≠0)=>firstL_bad hx HV.out h)
   clear hsx hlt hN hax hx HA HIH HV HSA HLA HN
   generalize zaH x=fx at *
   have hkl:(0:Int)<=(k:Int):=by omega
   have hki:(k:Int)<(la.length:Int):=by omega
   have hd1:decide (k<la.length)=true:=yd q1
   generalize x.kind=xk at *
   generalize x.n=xn at *
   generalize mkB x.s=xs at *
   generalize x.l.length=xl at *
   have HB4:=yb (zae wr (.cells #[.int .i64 xk,.int .i64 xn,.string xs,.slice sa' xl sc'] 25))
   have HK4:=yb (zab (w:=wr) (b:=wr.heap.size) (.cells #[.int .i64 xk,.int .i64 xn,.string xs,.slice sa' xl sc'] 25) rfl)
   go_upto_region 8 with fail
   obtain ⟨r4,hr4⟩:∃r4,r4=wr.heap.size:=⟨_,rfl⟩
   rw [<-hr4] at HK4 |-
   clear hr4 x0 x1 x2 x3
   have HC4:=yb (HCALL.out _ HB4.out)
   have HE4:=yb (HER.out.keeps.trans (keepsB (S:=fun b=>b=p) HB4.out) fun _ hb=>.inl hb)
   clear HCALL HB4 HER
   generalize wr.alloc _=W4 at *
   obtain ⟨⟨x0,x1,x2,x3⟩,-⟩:=zah HK4.out
   go_wp2_with fail
   refine HC4.out.mono ?_
   rintro e w5 ⟨rfl,he5⟩
   have HE5:=yb (ErrM.trans HE4.out he5)
   clear he5 x0 x1 x2 x3 HC4 HE4
   by_cases hf:fx=0
   ·have ef:(fx==0)=true:=by rw [hf];rfl
    have HV2:=yb (HT0.out hf)
    rw [hf] at HE5
    clear HT0 HT1 hf
    go_wp2
    go_roundw
    case rel=>exact ⟨k+1,by go_num,by omega,HE5,HV2⟩
    case measure=>simp [intOf];omega
   ·have ef:(fx==0)=false:=by rw [yf];exact hf
    have hF:FC=fx:=HFC.out.trans (HT1.out hf)
    subst hF
    have HEF:=yb ef
    clear HT0 HT1 hf HFC
    go_wp2
    go_ret
    exact ⟨by rw [HEF.out];rfl,HE5.out⟩
theorem zfm {v:PV} {sl:Value} {w:World} (hv:IsV w anyF v sl) (hd:zaT v<=1000) :
  Calls Tryz.prog 44 #[pvA v sl] w fun e w'=>e=.returned (.int .i64 (zbc v))/\Below w.heap.size w w':=by
 have HD:=yb (fun (W:World) (h:Below w.heap.size w W)=>vdepth_any _ v sl W (yp _) hd (hv.below h))
 have HWK:=yb (fun (W:World) (p:Nat) (h:Below w.heap.size w W) (hp:w.heap.size<=p) (hb:W.heap[p]?=some (.cells #[.int .i64 0] 31 (0,0))) =>
  walk_any p _ v sl W (yp _) (IsV.keep (F:=fun b=>anyF b/\b<w.heap.size) (zaJ.of_below h) (fun b hb=>by have:=hb.2;omega) _ (IsV.ltS v hv)) hb)
 obtain ⟨R,hR⟩:∃R,R=zbc v:=⟨_,rfl⟩
 rw [<-hR]
 unfold zbc at hR
 have HR:=yb hR
 obtain ⟨a1,cap1,rfl,-,-,-⟩:=hv.len
 unfold pvA at HD HWK |-
 clear hv hR
 generalize zaH v=fc at *
 generalize zaT v=d at *
 generalize v.kind=k0 at *
 generalize v.n=n0 at *
 generalize mkB v.s=s0 at *
 generalize v.l.length=m at *
 go_enter Tryz.func44,Tryz.ntmps44
 obtain ⟨B,hB⟩:∃B,B=w.heap.size:=⟨_,rfl⟩
 have HX1:=yb (zab (w:=w) (b:=B) (.cells #[.int .i64 k0,.int .i64 n0,.string s0,.slice a1 m cap1] 25) hB)
 have HW:=yb (zae w (.cells #[.int .i64 k0,.int .i64 n0,.string s0,.slice a1 m cap1] 25))
 go_upto_region 1 with fail
 rw [<-hB]
 clear hB
 generalize w.alloc _=W1 at *
 obtain ⟨⟨c0,c1,c2,c3⟩,-⟩:=zah HX1.out
 go_wp2_with fail
 refine (HD.out _ HW.out).mono ?_
 rintro e w2 ⟨rfl,hb2⟩
 have HX2:=yb (zaa hb2 HX1.out)
 have HW2:=yo HW hb2
 clear hb2 c0 c1 c2 c3 HX1 HW HD
 have hR:=HR.out
 by_cases h64:64<d
 ·have hd1:decide (64<d)=true:=yd h64
  have hd2:decide ((64:Int)<(d:Int))=true:=yd (by omega)
  rw [yg h64] at hR
  subst hR
  clear HR HWK h64
  go_wp2
  go_ret
  exact ⟨rfl,HW2.out⟩
 have hd1:decide (64<d)=false:=ye h64
 have hd2:decide ((64:Int)<(d:Int))=false:=ye (by omega)
 rw [yh h64] at hR
 subst hR
 clear HR h64
 have HP3:=yb (zab (w:=w2) (b:=w2.heap.size) (.cells #[.int .i64 0] 31) rfl)
 have HX3:=yb (zak (.cells #[.int .i64 0] 31) HX2.out)
 have HW3:=yb (HW2.out.alloc HW2.out.size (.cells #[.int .i64 0] 31))
 have HPP:=yb HW2.out.size
 go_upto_region 4 with fail
 obtain ⟨p,hp⟩:∃p,p=w2.heap.size:=⟨_,rfl⟩
 rw [<-hp] at HP3 HPP |-
 clear hp
 generalize w2.alloc _=W3 at *
 obtain ⟨⟨c0,c1,c2,c3⟩,-⟩:=zah HX3.out
 go_wp2_with fail
 refine (HWK.out _ _ HW3.out HPP.out HP3.out).mono ?_
 rintro e w4 ⟨rfl,he4⟩
 have HE4:=yb he4
 clear he4 c0 c1 c2 c3 HWK
 have p0:w4.cell? ⟨p,0,none⟩=some (.int .i64 R):=by rw [cell_of_row w4 p 0 _ _ _ HE4.out.blk];rfl
 have HW4:=yb (show Below w.heap.size w w4 from HW3.out.trans ⟨HE4.out.keeps.os,HE4.out.keeps.tape,HE4.out.keeps.output,HE4.out.keeps.size,fun b hb=>HE4.out.keeps.block b (by have:=HW3.out.size;omega) (by have:=HPP.out;omega)⟩)
 go_wp2
 go_ret
 exact ⟨rfl,HW4.out⟩
theorem chk1_any (e:Ent) (w:World):Calls Tryz.prog 43 #[entA e] w fun x w'=>x=.returned (.bool (!za4 e))/\Below w.heap.size w w':=by
 have HM:=yb (fun (W:World)=>xmay_any e W)
 unfold entA at HM |-
 obtain ⟨ea,eg,eu⟩:=e
 simp only at HM |-
 have HB1:=yb (zae w (.cells #[.int .i64 ea,.int .i64 eg,.bool eu] 45))
 generalize za4 ⟨ea,eg,eu⟩=ok at *
 go_enter Tryz.func43,Tryz.ntmps43
 go_wp2_with (go_at_call 38;refine (HM.out _).mono ?_;rintro e w2 ⟨rfl,hb2⟩;have HB2:=yo HB1 hb2)
 go_ret
 exact ⟨rfl,HB2.out⟩
theorem idxE_any {w:World} {F:Nat->Prop} {es:List Ent} {v:Value} (h:IsE w F es v) :
  Calls Tryz.prog 74 #[v,.func (.func 43) #[] #[]] w fun e w'=>(∃r:Int,e=.returned (.int .i64 r)/\decide (0<=r)=!es.all za4)/\Below w.heap.size w w':=by
 obtain ⟨ea,ec,rfl,g1,g2,-⟩:=h.len
 have he63:(es.length:Int)<=9223372036854775807:=by unfold maxLen at g2;omega
 have HE:=yb h
 clear h g1 g2
 go_enter Tryz.func74,Tryz.ntmps74
 go_wp2_with fail
 go_loopw [8] (fun v wr=>∃j:Nat,v=.int .i64 j/\j<=es.length/\Hid (Below w.heap.size w wr)/\Hid ((es.take j).all za4=true)) (fun v _=>es.length-(intOf v).toNat)
 case atStart=>exact ⟨0,rfl,Nat.zero_le _,yb (Below.refl _ _),yb rfl⟩
 case round =>
  obtain ⟨j,rfl,hj,HW,HA⟩:=hrel
  by_cases hlt:j<es.length
  case neg =>
   have hje:j=es.length:=by omega
   subst hje
   have hcd:decide ((es.length:Int)<(es.length:Int))=false:=ye (by omega)
   have hcd2:decide (es.length<es.length)=false:=ye (by omega)
   have ha:=HA.out
   rw [List.take_length] at ha
   have HF:=yb ha
   clear ha HA HE
   go_wp2
   go_ret
   exact ⟨⟨_,rfl,by rw [HF.out];rfl⟩,HW.out⟩
  have hcd:decide ((j:Int)<(es.length:Int))=true:=yd (by omega)
  have hcd2:decide (j<es.length)=true:=yd hlt
  have hjl:(j:Int)<(es.length:Int):=by omega
  obtain ⟨-,-,-,be,oe,hae,hbe,-,hat⟩:=(HE.out.below HW.out).at (by omega)
  subst hae
  obtain ⟨ee,hee⟩:∃ee,es[j]?=some ee:=⟨_,List.getElem?_eq_getElem hlt⟩
  obtain ⟨z0,z1,z2⟩:=hat j ee hee
  have HU:=yb (fun h=>zeg hee HA.out h)
  have HV:=yb (fun h=>zeR (p:=za4) hee h)
  have HC:=yb (fun W=>chk1_any ee W)
  clear hat hee HA
  unfold entA at HC
  obtain ⟨na,ng,nu⟩:=ee
  simp only at *
  generalize za4 ⟨na,ng,nu⟩=ok at *
  go_wp2_with fail
  refine (HC.out _).mono ?_
  rintro e w3 ⟨rfl,hb⟩
  have HW2:=yo HW hb
  clear hb HC z0 z1 z2
  cases ok
  ·have HF:=yb (HV.out rfl)
   have HP:=yb (show decide (0<=(j:Int))=true from yd (by omega))
   clear HV HU HE
   go_wp2
   go_ret
   exact ⟨⟨_,rfl,by rw [HF.out];exact HP.out⟩,HW2.out⟩
  ·have HA2:=yb (HU.out rfl)
   clear HV HU
   go_wp2
   go_roundw
   case rel=>exact ⟨j+1,by go_num,by omega,HW2,HA2⟩
   case measure=>simp [intOf];omega
theorem contE_any {w:World} {F:Nat->Prop} {es:List Ent} {v:Value} (h:IsE w F es v) :
  Calls Tryz.prog 42 #[v,.func (.func 43) #[] #[]] w fun e w'=>e=.returned (.bool (!es.all za4))/\Below w.heap.size w w':=by
 have HI:=yb (idxE_any h)
 obtain ⟨ea,ec,rfl,-,-,-⟩:=h.len
 clear h
 generalize es.all za4=ok at *
 generalize es.length=el at *
 go_enter Tryz.func42,Tryz.ntmps42
 go_wp2_with fail
 refine HI.out.mono ?_
 rintro e w2 ⟨⟨r,rfl,hr⟩,hb⟩
 have HB:=yb hb
 have HR:=yb hr
 clear hb hr HI
 go_wp2
 go_ret
 exact ⟨by rw [<-HR.out];rfl,HB.out⟩
theorem grpOk_is (g:Grp):zci g=(ze5 g.first (g.es.length:Int)&&g.es.all za4):=by
 unfold zci ze5
 rw [show decide (0<=(g.es.length:Int))=true from yd (by omega),Bool.and_true]
theorem zfj {s:Sec} {gv sl:Value} {w:World} (h:zbu w anyF s gv sl) (hd:zaT s.tr<=1000) :
  Calls Tryz.prog 17 #[secA s gv sl] w fun e w'=>e=.returned (.int .i64 (zbj s))/\Below w.heap.size w w':=by
 obtain ⟨gs,x⟩:=s
 simp only at hd
 obtain ⟨ga,gc,rfl,hgc,hgm,-⟩:=h.1.len
 simp only at hgc
 have HCK:=yb (fun (W:World) (hb:Below w.heap.size w W)=>zfm (h.2.below hb) hd)
 have HGA:=yb (fun (W:World) (hb:Below w.heap.size w W)=>(h.1.below hb))
 obtain ⟨R,hR⟩:∃R,R=zbj ⟨gs,x⟩:=⟨_,rfl⟩
 rw [<-hR]
 unfold zbj at hR
 simp only at hR
 have HR:=yb hR
 unfold secA
 simp only at HGA |-
 obtain ⟨sa,sc,rfl,-,-,-⟩:=h.2.len
 simp only at HCK |-
 unfold pvA at HCK
 clear h hd hR
 have hg63:(gs.length:Int)<=9223372036854775807:=by unfold maxLen at hgm;omega
 generalize zbc x=cc at *
 generalize x.kind=xk at *
 generalize x.n=xn at *
 generalize mkB x.s=xb at *
 generalize x.l.length=xl at *
 obtain ⟨B,hB⟩:∃B,B=w.heap.size:=⟨_,rfl⟩
 have HB1:=yb (zae w (.cells #[.slice ga gs.length gc,.int .i64 xk,.int .i64 xn,.string xb,.slice sa xl sc] 34))
 have HX1:=yb (zab (w:=w) (b:=B) (.cells #[.slice ga gs.length gc,.int .i64 xk,.int .i64 xn,.string xb,.slice sa xl sc] 34) hB)
 go_enter Tryz.func17,Tryz.ntmps17
 go_upto_region 1 with fail
 try rw [<-hB]
 clear hB
 generalize World.alloc _ _=W1 at *
 obtain ⟨⟨x0,x1,x2,x3,x4⟩,-⟩:=zaL HX1.out
 by_cases h64:64<gs.length
 ·have hd1:decide (64<gs.length)=true:=yd h64
  have hd2:decide ((64:Int)<gs.length)=true:=yd (by omega)
  have hr:=HR.out
  rw [yg (.inl h64)] at hr
  subst hr
  clear HR HCK HGA
  go_wp2
  go_ret
  exact ⟨rfl,HB1.out⟩
 have hd1:decide (64<gs.length)=false:=ye h64
 have hd2:decide ((64:Int)<gs.length)=false:=ye (by omega)
 by_cases hk:xk=7
 case neg =>
  have hd3:(xk==7)=false:=by rw [yf];exact hk
  have hd4:(xk != 7)=true:=by simp only [bne,hd3,yj]
  have hr:=HR.out
  rw [yg (.inr hk)] at hr
  subst hr
  clear HR HCK HGA
  go_wp2
  go_ret
  exact ⟨rfl,HB1.out⟩
 have hd3:(xk==7)=true:=by rw [beq_iff_eq];exact hk
 have hd4:(xk != 7)=false:=by simp only [bne,hd3,Bool.not_true]
 have hr:=HR.out
 rw [yh (by omega)] at hr
 have HR2:=yb hr
 clear hr HR h64 hk
 go_wp2_with fail
 clear x0 x1 x2 x3 x4
 go_loopw [18] (fun v wr=>∃c:Nat,v=.int .i64 c/\c<=gs.length/\Hid (Below W1.heap.size W1 wr)/\Hid ((gs.take c).all zci=true)) (fun v _=>gs.length-(intOf v).toNat)
 case atStart=>exact ⟨0,rfl,Nat.zero_le _,yb (Below.refl _ _),yb rfl⟩
 case round =>
  obtain ⟨c,rfl,hc,HW,HA⟩:=hrel
  have HB:=yb (HB1.out.trans (HW.out.mono HB1.out.size))
  by_cases hlt:c<gs.length
  case neg =>
   have hce:c=gs.length:=by omega
   subst hce
   have hcd:decide ((gs.length:Int)<(gs.length:Int))=false:=ye (by omega)
   have hcd2:decide (gs.length<gs.length)=false:=ye (by omega)
   have ha:=HA.out
   rw [List.take_length] at ha
   have hr:=HR2.out
   rw [yh (by rw [ha];decide)] at hr
   subst hr
   have HC:=yb (HCK.out wr HB.out)
   obtain ⟨⟨x0,x1,x2,x3,x4⟩,-⟩:=zaL (zaa HW.out HX1.out)
   clear ha HA HR2 HGA HCK
   go_wp2_with fail
   refine HC.out.mono ?_
   rintro e w3 ⟨rfl,hb⟩
   have HB3:=yo HB hb
   clear hb
   go_wp2
   go_ret
   exact ⟨rfl,HB3.out⟩
  have hcd:decide ((c:Int)<(gs.length:Int))=true:=yd (by omega)
  have hcd2:decide (c<gs.length)=true:=yd (by omega)
  have hlj:(c:Int)<(gs.length:Int):=by omega
  obtain ⟨-,-,-,b,off,ha,-,-,hat⟩:=(HGA.out wr HB.out).at (by omega)
  subst ha
  obtain ⟨g,hg⟩:∃g,gs[c]?=some g:=⟨_,List.getElem?_eq_getElem hlt⟩
  obtain ⟨v,hv,g0,g1⟩:=hat c g hg
  obtain ⟨ea,ec,rfl,hel,hec,-⟩:=hv.len
  have HGOOD:=yb (fun h=>zeg hg HA.out h)
  have HBAD:=yb (fun h=>HR2.out.trans (yg (zeR (p:=zci) hg h)))
  have HGI:=yb (grpOk_is g)
  have HIE:=yb hv
  have he63:(g.es.length:Int)<=9223372036854775807:=by unfold maxLen at hec;omega
  clear hat hv hg HA
  obtain ⟨gf,ge⟩:=g
  simp only at *
  have HBA:=yb (HW.out.alloc HW.out.size (.cells #[.int .i64 gf,.slice ea ge.length ec] 58))
  have HGB:=yb (zab (w:=wr) (.cells #[.int .i64 gf,.slice ea ge.length ec] 58) rfl)
  have HCO:=yb (fun (W:World) (hb:Below wr.heap.size wr W)=>contE_any (HIE.out.below hb))
  have HBX:=yb (zae wr (.cells #[.int .i64 gf,.slice ea ge.length ec] 58))
  have HFI:=yb (fun W=>fits_any gf (ge.length:Int) W)
  generalize zci ⟨gf,ge⟩=gok at *
  generalize ze5 gf (ge.length:Int)=ft at *
  generalize ge.all za4=al at *
  go_upto_region 6 with fail
  clear HIE g0 g1
  generalize wr.heap.size=G at *
  generalize World.alloc _ _=W2 at *
  obtain ⟨⟨y0,y1⟩,-⟩:=za5 HGB.out
  have HBB:=yb (HB1.out.trans (HBA.out.mono HB1.out.size))
  have HCO2:=yb (HCO.out W2 HBX.out)
  clear HCO HBX
  go_wp2_with fail
  refine (HFI.out _).mono ?_
  rintro e w3 ⟨rfl,rfl⟩
  cases ft
  ·have hr:=HBAD.out (by rw [HGI.out];rfl)
   subst hr
   clear HR2 HBAD HGOOD HCO2
   go_wp2
   go_ret
   exact ⟨rfl,HBB.out⟩
  go_wp2_with fail
  refine HCO2.out.mono ?_
  rintro e w4 ⟨rfl,hb⟩
  have HBC:=yo HBB hb
  have HWC:=yo HBA hb
  clear hb HCO2 y0 y1
  cases al
  ·have hr:=HBAD.out (by rw [HGI.out];rfl)
   subst hr
   clear HR2 HBAD HGOOD
   go_wp2
   go_ret
   exact ⟨rfl,HBC.out⟩
  ·have HA2:=yb (HGOOD.out (by rw [HGI.out];rfl))
   clear HBAD HGOOD
   go_wp2
   go_roundw
   case rel=>exact ⟨c+1,by go_num,by omega,HWC,HA2⟩
   case measure=>simp [intOf];omega
def u8W (b:UInt8):Value:=.int .u8 b.toNat
structure IsWr (w:World) (S:Nat->Prop) (p:Nat) (out:List UInt8) (ad v:Value):Prop where
 blk:w.heap[p]?=some (.cells #[ad,v] 109 (0,0))
 ad_:ad=.pointer none\/ad=.pointer (some ⟨p,0,none⟩)
 row:w.ownsRow (p+1) 5 1 v out.length (out.map u8W)
 at_:∀b,v.ownBlock=some b->S b
 own:S p
 lt:∀b,S b->p<=b/\b<w.heap.size
def WrQ (w:World) (S:Nat->Prop) (p:Nat) (out:List UInt8):Prop:=∃ad v,IsWr w S p out ad v
def zai (w:World) (S:Nat->Prop) (p:Nat) (out:List UInt8) (w':World):Prop:=∃S',WrQ w' S' p out/\zaf S w w'/\∀b,S' b->S b\/w.heap.size<=b
section
variable {w w1 w2 w' : World} {S S1 : Nat -> Prop} {p : Nat} {out : List UInt8} {ad v : Value}
theorem zai.refl (h:WrQ w S p out):zai w S p out w:=⟨S,h,zaf.refl _ _,fun _ h=>.inl h⟩
theorem zai.trans (hk:zaf S w w1) (hs:∀b,S1 b->S b\/w.heap.size<=b) (h2:zai w1 S1 p out w2):zai w S p out w2:=by
 obtain ⟨S2,q,k2,s⟩:=h2
 exact ⟨S2,q,hk.trans k2 hs,fun b hb=>(s b hb).elim (hs b) (fun h=>.inr (Nat.le_trans hk.size h))⟩
theorem IsWr.keep (h:IsWr w S p out ad v) (hb:Below w.heap.size w w'):IsWr w' S p out ad v :=
 ⟨zaa hb h.blk,h.ad_,zaS h.row hb,h.at_,h.own,fun b hS=>⟨(h.lt b hS).1,Nat.lt_of_lt_of_le (h.lt b hS).2 hb.size⟩⟩
theorem WrQ.keep (h:WrQ w S p out) (hb:Below w.heap.size w w'):WrQ w' S p out:=by obtain ⟨ad,v,h⟩:=h;exact ⟨ad,v,h.keep hb⟩
theorem IsWr.cells (h:IsWr w S p out ad v):w.cell? ⟨p,0,none⟩=some ad/\w.cell? ⟨p,1,none⟩=some v:=by
 refine ⟨?_,?_⟩<;>(rw [cell_of_row w p _ _ _ _ h.blk];rfl)
theorem IsWr.free (h:IsWr w S p out ad v) (j:Nat):w.frozen? ⟨p,j,none⟩=false:=frozen_of_row w p j _ _ h.blk
theorem keepsW (h:Below w.heap.size w w'):zaf S w w':=⟨h.os,h.tape,h.output,h.size,fun b hb _=>h.block b hb⟩
theorem zai.above (hb:Below w.heap.size w w1) (h2:zai w1 S p out w2):zai w S p out w2:=zai.trans (keepsW hb) (fun _ h=>.inl h) h2
theorem zai.on (h:zai w S p out w1) (hb:Below w1.heap.size w1 w2):zai w S p out w2:=by
 obtain ⟨S2,q,k2,s⟩:=h
 exact ⟨S2,q.keep hb,k2.trans (keepsW hb) (fun b hb=>s b hb),s⟩
end
theorem infoBuilderW:(Tryz.prog.info? 107).map (·.size)=some 2:=by kernel_rfl
theorem liesBuilderW:liesAt Tryz.prog Tryz.prog.depth 109 (2 / Tryz.prog.cellsOf 109) 0 107 1=true:=by kernel_rfl
theorem EByteW:zeX Tryz.prog 28 5 (.int .u8 0) 1 1:=⟨Tryz.underlying28,by kernel_rfl,rfl,by omega⟩
def ChkW (w:World) (S:Nat->Prop) (p:Nat) (out:List UInt8) (v:Value) (e:Ending) (w':World):Prop :=
 e=.returned (.tuple #[])/\IsWr w' S p out (.pointer (some ⟨p,0,none⟩)) v/\zaf S w w'/\w'.heap.size=w.heap.size
theorem IsWr.mark {w:World} {S:Nat->Prop} {p:Nat} {out:List UInt8} {ad v:Value} (h:IsWr w S p out ad v) :
  IsWr (w.setCell ⟨p,0,none⟩ (.pointer (some ⟨p,0,none⟩))) S p out (.pointer (some ⟨p,0,none⟩)) v:=by
 refine ⟨?_,.inr rfl,ownsRow_setCell_other h.row (a:=⟨p,0,none⟩) (fun e=>by have:=(h.row.lt p e).1;omega) _,h.at_,h.own,fun b hS=>by have:=h.lt b hS;simpa using this⟩
 rw [heap_setCell_same _ _ 0 _ _ _ h.blk];rfl
set_option maxRecDepth 100000 in
theorem ze8 {w:World} {S:Nat->Prop} {p:Nat} {out:List UInt8} {ad v:Value} (h:IsWr w S p out ad v) :
  Calls Tryz.prog 128 #[.pointer (some ⟨p,0,none⟩)] w (ChkW w S p out v):=by
 obtain ⟨j,hj,hjs⟩:=Option.map_eq_some_iff.1 infoBuilderW
 obtain ⟨c0,-⟩:=h.cells
 have hfz:=h.free 0
 have hsh:w.shape? p=some (109,2):=by have:=h.blk;simp [World.shape?,this]
 rcases h.ad_ with rfl|rfl
 ·have HM:=yb h.mark
  have HK:=yb ((zaf.refl S w).setCell (a:=⟨p,0,none⟩) (.inl h.own) (.pointer (some ⟨p,0,none⟩)))
  clear h
  go_enter Tryz.func128,Tryz.ntmps128
  go_wp2
  rw [Lib.run_to_unsafe w ⟨p,0,none⟩ Tryz.underlying105 Tryz.underlying209 hj (by rw [hjs];decide) hsh (Nat.succ_pos 1)]
  simp only [Result.andThen]
  rw [Oper.upon_value]
  go_wp2
  rw [run_callFunc_extern Tryz.func156 (by kernel_rfl) (by kernel_rfl) (by kernel_rfl) (e:=Extern.AbiNoEscape.same) (by kernel_rfl)]
  rw [Lib.run_noEscape]
  simp only [Result.andThen]
  rw [Oper.upon_value]
  go_wp2
  rw [Lib.run_from_unsafe w ⟨p,0,none⟩ Tryz.underlying209 Tryz.underlying105 hj hsh liesBuilderW]
  simp only [Result.andThen]
  rw [Oper.upon_value]
  go_wp2
  go_end0
  exact ⟨rfl,HM.out,HK.out,by simp⟩
 ·have HM:=yb h
  clear h
  go_enter Tryz.func128,Tryz.ntmps128
  go_wp2
  rw [Lib.run_neq_ptr_same w _ Tryz.underlying105 hj]
  go_wp2
  go_end0
  exact ⟨rfl,HM.out,zaf.refl _ _,rfl⟩
theorem IsWr.put {w W w2:World} {S:Nat->Prop} {p:Nat} {out news:List UInt8} {v v':Value} (h:IsWr w S p out (.pointer (some ⟨p,0,none⟩)) v) (hb:Below w.heap.size w W)
  (hr:w2.ownsRow (p+1) 5 1 v' (out.length+news.length) (out.map u8W++news.map u8W)) (hg:W.grownBy w2 v.ownBlock) (hn:NewAt W v v') :
  zai w S p (out++news) (w2.setCell ⟨p,1,none⟩ v'):=by
 have hp:=(h.lt p h.own).2
 have hvb:∀b,v.ownBlock=some b->p<b:=fun b hb=>(h.row.lt b hb).1
 have h1:w2.heap[p]?=some (.cells #[.pointer (some ⟨p,0,none⟩),v] 109 (0,0)) :=
  (hg.block p (Nat.lt_of_lt_of_le hp hb.size) (fun e=>by have:=hvb p e.symm;omega)).trans (zaa hb h.blk)
 have hk1:zaf S w w2:=(keepsW hb).grown hg (fun k hk=>.inl (h.at_ k hk))
 have hk2:=hk1.setCell (a:=⟨p,1,none⟩) (.inl h.own) v'
 have hsz:=hk2.size
 refine ⟨fun b=>S b\/(p<=b/\w.heap.size<=b/\b<(w2.setCell ⟨p,1,none⟩ v').heap.size),⟨.pointer (some ⟨p,0,none⟩),v',⟨?_,.inr rfl,?_,fun b hb2=>?_,.inl h.own,fun b hb2=>?_⟩⟩,hk2,fun b hb2=>?_⟩
 ·rw [heap_setCell_same _ _ 1 _ _ _ h1];rfl
 ·have:=ownsRow_setCell_other hr (a:=⟨p,1,none⟩) (fun e=>by have:=(hr.lt p e).1;omega) v'
  simpa using this
 ·have hlt:=(hr.lt b hb2)
  rcases hn b hb2 with h2|h2
  ·exact .inl (h.at_ b h2)
  ·have:=hb.size
   exact .inr ⟨by omega,by omega,by simpa using hlt.2⟩
 ·rcases hb2 with hb2|hb2
  ·have:=h.lt b hb2;omega
  ·exact ⟨hb2.1,hb2.2.2⟩
 ·rcases hb2 with hb2|hb2
  ·exact .inl hb2
  ·exact .inr hb2.2.1
set_option maxRecDepth 100000 in
theorem zaE {w:World} {S:Nat->Prop} {p:Nat} {out:List UInt8} (h:WrQ w S p out) (c:UInt8) (x:Int) (hx:x=(c.toNat:Int)) (hl:out.length<=10000000) :
  Calls Tryz.prog 96 #[.pointer (some ⟨p,0,none⟩),.int .u8 x] w fun e w'=>e=.returned .nilIface/\zai w S p (out++[c]) w':=by
 obtain ⟨ad,v,h⟩:=h
 have HC:=yb (ze8 h)
 unfold ChkW at HC
 have hXC:Value.int .u8 x=u8W c:=by rw [hx];rfl
 have HX:=yb hXC
 clear h hx hXC
 go_enter Tryz.func96,Tryz.ntmps96
 go_wp2_with fail
 refine HC.out.mono ?_
 rintro e w1 ⟨rfl,h1,hk1,hs1⟩
 have H1:=yb h1
 have HK1:=yb hk1
 have HS1:=yb hs1
 obtain ⟨-,c1⟩:=h1.cells
 have hf1:=h1.free 1
 have hp1:=(h1.lt p h1.own).2
 clear h1 hk1 hs1
 go_wp2_with (at_builtin;refine zeO EByteW rfl (.tmp 11) (.tmp 13) rfl (p+1) _ out.length _ rfl (H1.out.row.alloc _) _ 1 _ _ rfl (zdh _ _ _) (zeZ rfl) (by unfold maxLen;omega) (by omega) (by rw [zaq];omega) ?_;intro v' w2 hO2 hg2 hn2;obtain ⟨a',cap',hv',-⟩:=Row.of_owns hO2;subst hv';rw [HX.out] at hO2;have HN:=yb (H1.out.put (news:=[c]) (zae w1 _) hO2 hg2 hn2);have hp2:p<w2.heap.size:=(by have:=hg2.size;rw [zaq] at this;omega);have hfz2:w2.frozen? ⟨p,1,none⟩=false:=(frozen_of_row w2 p 1 _ _ ((hg2.block p (by rw [zaq];omega) (fun e=>by have:=(H1.out.row.lt p e.symm).1;omega)).trans ((Below.heap_alloc w1 _ p hp1).trans H1.out.blk)));have hc2:w2.cell? ⟨p,1,none⟩=some v:=((cell_of_row w2 p 1 _ _ _ ((hg2.block p (by rw [zaq];omega) (fun e=>by have:=(H1.out.row.lt p e.symm).1;omega)).trans ((Below.heap_alloc w1 _ p hp1).trans H1.out.blk))).trans rfl);clear hO2 hg2 hn2)
 go_ret
 exact ⟨rfl,zai.trans HK1.out (fun b hb=>.inl hb) HN.out⟩
theorem zd2 (l:List UInt8):Lib.strCells (mkB l)=l.map u8W:=by unfold Lib.strCells mkB u8W;simp
theorem append_strW {P:Program} (w:World) {ops:Array Oper} {rest:List Oper} {o:Oper} {a:Act} {Q:Exit->Act->World->Prop} (hgd:o.guard=none) (sl x:Operand) (t u:TypeId)
  (ho:o.op=.call { callee:=.builtin .append,args:=#[sl,x],argTypes:=#[t,u] })
  (base:Nat) (e:TypeId) (i:TypeInfo) (ht:P.underlying t=some (.slice e)) (hu:P.underlying u=some .string) (hi:P.info? e=some i) (hz:i.zero=some (.int .u8 0))
  (hsize:i.size=1) (hby:i.bytes=1)
  (v:Value) (n:Nat) (xs:List Value) (hs:a.eval sl=v) (hown:w.ownsRow base e 1 v n xs) (s:ByteArray) (hx:a.eval x=.string s)
  (h63:n+s.size<=maxLen) (hbytes:n+s.size<=140737488355328) (hbase:base<=w.heap.size)
  (h:∀v' w',w'.ownsRow base e 1 v' (n+s.size) (xs++Lib.strCells s)->w.grownBy w' v.ownBlock->NewAt w v v'->wpList P ops Q rest (a.put o.dst v') w'):wpList P ops Q (o::rest) a w:=by
 refine wpList_plain hgd fun K hK=>?_
 obtain ⟨v',w',hr,h2,h3,h4⟩:=Lib.run_append_own_string (P:=P) w base t u o.type e i ht hu hi hz hsize hby v n xs hown s h63 hbytes hbase
 have hn:NewAt w v v':=by
  have hsmall:n+s.size<=9223372036854775807:=by simp only [maxLen] at h63;omega
  have hxl:xs.length=n:=by simpa using hown.1
  rcases hown.2 with ⟨rfl,hx0⟩|⟨g,cap,cur,rfl,hbg,hg,hnc,hcm,hcs,htake⟩
  ·obtain ⟨v2,w2,hr2,g2,_,_⟩:=Lib.run_append_own_string (P:=P) w w.heap.size t u o.type e i ht hu hi hz hsize hby _ n xs ⟨hown.1,.inl ⟨rfl,hx0⟩⟩ s h63 hbytes (yp _)
   rw [hr] at hr2
   simp only [Result.ok.injEq] at hr2
   obtain ⟨rfl,rfl⟩:=hr2
   exact fun b hb=>.inr (g2.lt b hb).1
  ·by_cases hroom:n+s.size<=cap
   ·have hr2:=Lib.run_append_room_string (P:=P) w t u o.type e i ht hu hi hsize g n cap cur hg s hroom (by omega)
    rw [hr] at hr2
    simp only [Result.ok.injEq] at hr2
    obtain ⟨rfl,rfl⟩:=hr2
    exact fun b hb=>.inl hb
   ·have holds:∀j u,xs[j]?=some u->w.cell? ((⟨g,0,none⟩:Addr).add j)=some u:=hown.cells (g:=g) rfl
    have hr2:=Lib.run_append_grow_string (P:=P) w t u o.type e i (.int .u8 0) ht hu hi hz ⟨g,0,none⟩ n cap xs (by rw [hsize];simpa using hxl) holds s (by omega) (by omega) (by rw [hby];exact growslice_fits (by omega) (by omega))
    rw [hr] at hr2
    simp only [Result.ok.injEq] at hr2
    obtain ⟨rfl,rfl⟩:=hr2
    intro b hb
    simp [Value.ownBlock] at hb
    right;omega
 unfold Oper.wp execOp
 simp only [ho,resolve,invoke,builtin,Sem.run_bind,Sem.run_pure,Result.andThen_ok,List.map_toArray,List.map_cons,List.map_nil,hs,hx,hr]
 exact hK _ _ (h v' w' h2 h3 hn)
set_option maxRecDepth 100000 in
theorem zbO {w:World} {S:Nat->Prop} {p:Nat} {out:List UInt8} (h:WrQ w S p out) (s:List UInt8) (hl:out.length+s.length<=10000000) :
  Calls Tryz.prog 92 #[.pointer (some ⟨p,0,none⟩),.string (mkB s)] w fun e w'=>e=.returned (.tuple #[.int .i64 s.length,.nilIface])/\zai w S p (out++s) w':=by
 obtain ⟨ad,v,h⟩:=h
 obtain ⟨i0,hi,hz,hs,hb⟩:=info_parts EByteW.info
 have HC:=yb (ze8 h)
 unfold ChkW at HC
 have hsz:(mkB s).size=s.length:=zar s
 have HSC:=yb (zd2 s)
 have HSZ:=yb hsz
 have hszi:((mkB s).size:Int)=s.length:=by rw [hsz]
 have HI:=yb (⟨hi,hz,hs,hb⟩:_/\_/\_/\_)
 clear h hi hz hs hb hsz
 go_enter Tryz.func92,Tryz.ntmps92
 go_wp2_with fail
 refine HC.out.mono ?_
 rintro e w1 ⟨rfl,h1,hk1,hs1⟩
 have H1:=yb h1
 have HK1:=yb hk1
 have HS1:=yb hs1
 obtain ⟨-,c1⟩:=h1.cells
 have hf1:=h1.free 1
 have hp1:=(h1.lt p h1.own).2
 clear h1 hk1 hs1
 go_wp2_with (at_builtin;refine append_strW _ rfl (.tmp 12) (.tmp 13) 28 9 rfl (p+1) 5 i0 Tryz.underlying28 Tryz.underlying9 HI.out.1 HI.out.2.1 HI.out.2.2.1 HI.out.2.2.2 _ out.length _ rfl H1.out.row (mkB s) rfl (by rw [HSZ.out];unfold maxLen;omega) (by rw [HSZ.out];omega) (by omega) ?_;intro v' w2 hO2 hg2 hn2;obtain ⟨a',cap',hv',-⟩:=Row.of_owns hO2;subst hv';rw [HSC.out,HSZ.out] at hO2;have HN:=yb (H1.out.put (news:=s) (Below.refl _ _) (by rw [HSZ.out] at *;exact hO2) hg2 (by rw [HSZ.out] at *;exact hn2));have hp2:p<w2.heap.size:=(by have:=hg2.size;omega);have hfz2:w2.frozen? ⟨p,1,none⟩=false:=(frozen_of_row w2 p 1 _ _ ((hg2.block p hp1 (fun e=>by have:=(H1.out.row.lt p e.symm).1;omega)).trans H1.out.blk));have hc2:w2.cell? ⟨p,1,none⟩=some v:=((cell_of_row w2 p 1 _ _ _ ((hg2.block p hp1 (fun e=>by have:=(H1.out.row.lt p e.symm).1;omega)).trans H1.out.blk)).trans rfl);clear hO2 hg2 hn2)
 go_ret2
 exact ⟨rfl,zai.trans HK1.out (fun b hb=>.inl hb) HN.out⟩
def OutQ (e:TypeId) (base:Nat) (W:World) (v:Value) (o:List UInt8):Prop :=
 W.ownsRow base e 1 v o.length (o.map u8W) \/
 (∃g,v=.slice (some ⟨g,0,none⟩) o.length o.length/\0<o.length/\base<=g/\g<W.heap.size/\∀j u,(o.map u8W)[j]?=some u->W.cell? ⟨g,j,none⟩=some u)
theorem OutQ.lt {e:TypeId} {base:Nat} {W:World} {v:Value} {o:List UInt8} (h:OutQ e base W v o):∀b,v.ownBlock=some b->base<=b/\b<W.heap.size:=by
 rcases h with h|⟨g,rfl,-,h1,h2,-⟩
 ·exact fun b hb=>h.lt b hb
 ·intro b hb
  simp [Value.ownBlock] at hb
  omega
theorem OutQ.keep {e:TypeId} {base:Nat} {W W':World} {v:Value} {o:List UInt8} (h:OutQ e base W v o) (hb:Below W.heap.size W W'):OutQ e base W' v o:=by
 rcases h with h|⟨g,rfl,h0,h1,h2,h3⟩
 ·exact .inl (zaS h hb)
 ·exact .inr ⟨g,rfl,h0,h1,Nat.lt_of_lt_of_le h2 hb.size,fun j u hj=>cell?_keep hb (h3 j u hj)⟩
theorem zcP {P:Program} (w:World) {o:Oper} {a:Act} {K:Act->World->Prop} {Q:Exit->Act->World->Prop} (sl x:Operand) (t u:TypeId)
  (ho:o.op=.call { callee:=.builtin .append,args:=#[sl,x],argTypes:=#[t,u] })
  (base:Nat) (e:TypeId) (i:TypeInfo) (ht:P.underlying t=some (.slice e)) (hu:P.underlying u=some .string) (hi:P.info? e=some i) (hz:i.zero=some (.int .u8 0))
  (hsize:i.size=1) (hby:i.bytes=1)
  (v:Value) (bs:List UInt8) (hs:a.eval sl=v) (hq:OutQ e base w v bs) (s:List UInt8) (hx:a.eval x=.string (mkB s)) (hne:0<s.length)
  (hl:bs.length+s.length<=10000000) (hbase:base<=w.heap.size)
  (h:∀v' w',w'.ownsRow base e 1 v' (bs++s).length ((bs++s).map u8W)->w.grownBy w' v.ownBlock->K (a.put o.dst v') w'):Oper.wp P o a w K Q:=by
 have hsz:(mkB s).size=s.length:=zar s
 have hlm:(bs++s).length=bs.length+(mkB s).size:=by rw [List.length_append,hsz]
 have hmp:(bs++s).map u8W=bs.map u8W++Lib.strCells (mkB s):=by rw [List.map_append,zd2]
 rw [hlm,hmp] at h
 rcases hq with hown|⟨g,rfl,h0,h1,h2,h3⟩
 ·obtain ⟨v',w',hr,h2,h3,-⟩:=Lib.run_append_own_string (P:=P) w base t u o.type e i ht hu hi hz hsize hby v bs.length _ hown (mkB s) (by rw [hsz];unfold maxLen;omega) (by rw [hsz];omega) hbase
  unfold Oper.wp execOp
  simp only [ho,resolve,invoke,builtin,Sem.run_bind,Sem.run_pure,Result.andThen_ok,List.map_toArray,List.map_cons,List.map_nil,hs,hx,hr]
  exact h v' w' h2 h3
 ·have hsmall:bs.length+(mkB s).size<=maxLen:=by rw [hsz];unfold maxLen;omega
  have hr:=Lib.run_append_grow_string (P:=P) (w:=w) t u o.type e i (.int .u8 0) ht hu hi hz ⟨g,0,none⟩ bs.length bs.length (bs.map u8W) (by rw [hsize];simp) (fun j v hj=>by rw [show (⟨g,0,none⟩:Addr).add j=⟨g,j,none⟩ by unfold Addr.add;split<;>simp_all];exact h3 j v hj) (mkB s) (by rw [hsz];omega) (by rw [hsz];omega) (by rw [hby];exact growslice_fits (by rw [hsz];omega) (by rw [hsz];omega))
  have hge:=grownCap_ge w (bs.length+(mkB s).size) bs.length e
  have hcm:=grownCap_le_maxLen w (bs.length+(mkB s).size) bs.length e hsmall
  have hlen:(bs.map u8W++Lib.strCells (mkB s)).length=(bs.length+(mkB s).size)*1:=by rw [List.length_append,List.length_map,Lib.strCells_length,Nat.mul_one]
  unfold Oper.wp execOp
  simp only [ho,resolve,invoke,builtin,Sem.run_bind,Sem.run_pure,Result.andThen_ok,List.map_toArray,List.map_cons,List.map_nil,hs,hx,hr]
  refine h _ _ ⟨hlen,.inr ⟨w.heap.size,_,_,rfl,hbase,heap_alloc_new w.drew _,hge,hcm,?_,?_⟩⟩ ⟨rfl,rfl,rfl,by simp,fun k hk _=>by show (w.heap.push _)[k]?=w.heap[k]?;rw [Array.getElem?_push,yh (by omega)]⟩
  ·have hz1:(Value.int IntKind.u8 0).cells.size=1:=rfl
   simp only [Array.size_append,List.size_toArray,size_zeroCells,hz1,List.length_map,Lib.strCells_length]
   omega
  ·simp only [Array.toList_append,List.append_assoc]
   rw [<-List.append_assoc,<-hlen]
   exact List.take_left
theorem zeT {P:Program} (w:World) {ops:Array Oper} {rest:List Oper} {o:Oper} {a:Act} {Q:Exit->Act->World->Prop} (hgd:o.guard=none) (sl x:Operand) (t u:TypeId)
  (ho:o.op=.call { callee:=.builtin .append,args:=#[sl,x],argTypes:=#[t,u] })
  (base:Nat) (e:TypeId) (i:TypeInfo) (ht:P.underlying t=some (.slice e)) (hu:P.underlying u=some .string) (hi:P.info? e=some i) (hz:i.zero=some (.int .u8 0))
  (hsize:i.size=1) (hby:i.bytes=1)
  (v:Value) (bs:List UInt8) (hs:a.eval sl=v) (hq:OutQ e base w v bs) (s:List UInt8) (hx:a.eval x=.string (mkB s)) (hne:0<s.length)
  (hl:bs.length+s.length<=10000000) (hbase:base<=w.heap.size)
  (h:∀v' w',w'.ownsRow base e 1 v' (bs++s).length ((bs++s).map u8W)->w.grownBy w' v.ownBlock->wpList P ops Q rest (a.put o.dst v') w'):wpList P ops Q (o::rest) a w :=
 wpList_plain hgd fun _ hK=>zcP w sl x t u ho base e i ht hu hi hz hsize hby v bs hs hq s hx hne hl hbase fun v' w' a1 a2=>hK _ _ (h v' w' a1 a2)
theorem zed {P:Program} (w:World) {ops:Array Oper} {o:Oper} {a:Act} {K:Act->World->Prop} {Q:Exit->Act->World->Prop} {E:Prop} (hgd:o.guard=none) (sl x:Operand) (t u:TypeId)
  (ho:o.op=.call { callee:=.builtin .append,args:=#[sl,x],argTypes:=#[t,u] })
  (base:Nat) (e:TypeId) (i:TypeInfo) (ht:P.underlying t=some (.slice e)) (hu:P.underlying u=some .string) (hi:P.info? e=some i) (hz:i.zero=some (.int .u8 0))
  (hsize:i.size=1) (hby:i.bytes=1)
  (v:Value) (bs:List UInt8) (hs:a.eval sl=v) (hq:OutQ e base w v bs) (s:List UInt8) (hx:a.eval x=.string (mkB s)) (hne:0<s.length)
  (hl:bs.length+s.length<=10000000) (hbase:base<=w.heap.size)
  (h:∀v' w',w'.ownsRow base e 1 v' (bs++s).length ((bs++s).map u8W)->w.grownBy w' v.ownBlock->K (a.put o.dst v') w') :
  if Region.wanted o (yielded ops a.tmps)=true then Oper.wp P o a w K Q else E:=by
 have hw:Region.wanted o (yielded ops a.tmps)=true:=by simp [Region.wanted,hgd]
 rw [yg hw]
 exact zcP w sl x t u ho base e i ht hu hi hz hsize hby v bs hs hq s hx hne hl hbase h
end Go.Proofs.YtcmoehknppjkiaaGreatDoor
namespace Go.Proofs.YtcmoehknppjkiaaGreatDoor
theorem zdq {α β:Type} {f:α->List β} {l:List α} {k:Nat} {x:α} (h:l[k]?=some x):(l.take (k+1)).flatMap f=(l.take k).flatMap f++f x:=by
 rw [List.take_add_one,h,List.flatMap_append];simp
theorem zeu {α β:Type} {f:α->List β} {M:Nat}:∀l:List α,(∀x∈l,(f x).length<=M)->(l.flatMap f).length<=M*l.length
 | [],_=>by simp
 | x::l,h=>by
  have h1:=h x (List.mem_cons_self ..)
  have h2:=zeu l fun y hy=>h y (List.mem_cons_of_mem _ hy)
  rw [List.flatMap_cons,List.length_append,List.length_cons,Nat.mul_succ];omega
theorem flatB_le {α β:Type} {f:α->List β} (l:List α) (k:Nat):((l.take k).flatMap f).length<=(l.flatMap f).length:=by
 conv=>rhs;rw [<-List.take_append_drop k l,List.flatMap_append]
 rw [List.length_append];omega
theorem zbK (n:Int):(numF n).length<=40:=by
 unfold numF
 have:=zcF 2 n true
 simpa [zaz] using this
theorem zfI {e:Ent} (h:za4 e=true):(entL e).length=20:=by
 unfold entL;rw [List.length_append,entB_len h];rfl
theorem ents_len {es:List Ent} (h:es.all za4=true):(es.flatMap entL).length<=20*es.length :=
 zeu es fun e he=>by rw [zfI (List.all_eq_true.1 h e he)];omega
theorem zc6 {g:Grp} (h:zci g=true):g.es.all za4=true:=by
 unfold zci at h;simp only [Bool.and_eq_true] at h;exact h.2
theorem grpL_len {g:Grp} (h:zci g=true) (h2:g.es.length<=100):(grpL g).length<=2100:=by
 have h3:=ents_len (zc6 h)
 have h4:=zbK g.first
 have h5:=zbK (g.es.length:Int)
 unfold grpL
 simp only [List.length_append,List.length_cons]
 omega
theorem grps_len {gs:List Grp} (h:gs.all zci=true) (h2:∀g∈gs,g.es.length<=100):(gs.flatMap grpL).length<=2100*gs.length :=
 zeu gs fun g hg=>grpL_len (List.all_eq_true.1 h g hg) (h2 g hg)
def preG (gs:List Grp) (c:Nat):List UInt8:=[120,114,101,102,10]++(gs.take c).flatMap grpL
def zb6 (g:Grp):List UInt8:=numF g.first++[32]++numF (g.es.length:Int)++[10]
theorem preG_next {gs:List Grp} {c:Nat} {g:Grp} (h:gs[c]?=some g):preG gs c++zb6 g++(g.es.take g.es.length).flatMap entL=preG gs (c+1):=by
 unfold preG zb6
 rw [zdq h,List.take_length]
 unfold grpL
 simp
theorem preG_end (s:Sec):preG s.gs s.gs.length++([116,114,97,105,108,101,114,10]++zaz s.tr++[10])=secL s:=by
 unfold preG secL
 rw [List.take_length]
 simp
theorem headG_len (g:Grp):(zb6 g).length<=82:=by
 have h1:=zbK g.first
 have h2:=zbK (g.es.length:Int)
 unfold zb6
 simp only [List.length_append,List.length_cons,List.length_nil]
 omega
theorem preG_len {gs:List Grp} (h:gs.all zci=true) (h2:∀g∈gs,g.es.length<=100) (h64:gs.length<=64) (c:Nat):(preG gs c).length<=140000:=by
 have h3:=grps_len h h2
 have h4:=flatB_le (f:=grpL) gs c
 have h5:=Nat.mul_le_mul_left 2100 h64
 unfold preG
 simp only [List.length_append,List.length_cons,List.length_nil]
 omega
theorem entsT_len {es:List Ent} (h:es.all za4=true) (h2:es.length<=100) (j:Nat):((es.take j).flatMap entL).length<=2000:=by
 have h3:=ents_len h
 have h4:=flatB_le (f:=entL) es j
 omega
end Go.Proofs.YtcmoehknppjkiaaGreatDoor
namespace Go.Proofs.YtcmoehknppjkiaaGreatDoor
open Go.RowKit
theorem hexW {w:World} {S:Nat->Prop} {p:Nat} {out:List UInt8} (h:WrQ w S p out) (c:UInt8) (hl:out.length+2<=10000000) :
  Calls Tryz.prog 131 #[.pointer (some ⟨p,0,none⟩),.int .u8 c.toNat] w fun e w'=>e=.returned (.tuple #[])/\zai w S p (out++hexB c) w':=by
 obtain ⟨q,hq⟩:∃q,q=c.toNat / 16:=⟨_,rfl⟩
 obtain ⟨r,hr⟩:∃r,r=c.toNat % 16:=⟨_,rfl⟩
 have hc:=c.toNat_lt
 have hx:hexB c=[hexG q,hexG r]:=by rw [hq,hr];rfl
 rw [hx]
 have HA:=yb (fun (W:World) (hb:Below w.heap.size w W) (x:Int) (hx:x=((hexG q).toNat:Int))=>zaE (h.keep hb) _ x hx (by omega))
 obtain ⟨n,hn⟩:∃n,n=c.toNat:=⟨_,rfl⟩
 rw [<-hn] at hq hr hc |-
 have e1:(n:Int) / 16=(q:Int):=by omega
 have e2:(n:Int) % 16=(r:Int):=by omega
 have e3:n / 16=q:=hq.symm
 have e4:n % 16=r:=hr.symm
 have hb1:(0:Int)<=(q:Int):=by omega
 have hb2:(q:Int)<16:=by omega
 have hb3:q<16:=by omega
 have hb4:(0:Int)<=(r:Int):=by omega
 have hb5:(r:Int)<16:=by omega
 have hb6:r<16:=by omega
 have hand:((0:Int)<=(n:Int) / 16/\(n:Int) / 16<16)=True:=eq_true ⟨by omega,by omega⟩
 have HQ:=yb (show ((n:Int) / 16).toNat=q by omega)
 have hand2:bits .and .u8 (n:Int) 15=(r:Int):=by rw [u8_and15 n hc,hr]
 clear h hx hn hq hr e1 e2 e3 e4
 go_enter Tryz.func131,Tryz.ntmps131
 go_wp2
 go_region_with ((go_at_call 96;refine (HA.out _ (Below.refl _ _).drew _ (sgI _ _ HQ.out)).mono ?_;rintro e w1 ⟨rfl,hN1⟩))
 have HB:=yb (fun (S1:Nat->Prop) (W:World) (h:WrQ W S1 p (out++[hexG q])) (x:Int) (hx:x=((hexG r).toNat:Int))=>zaE h _ x hx (by simp;omega))
 obtain ⟨S1,hq1,hk1,hs1⟩:=hN1
 go_wp2
 go_region_with ((go_at_call 96;refine (HB.out S1 _ (hq1.keep (Below.refl _ _).drew) _ (sg_n r)).mono ?_;rintro e w2 ⟨rfl,hN2⟩))
 go_wp2
 go_end0
 refine ⟨rfl,?_⟩
 have h2:zai w1 S1 p (out++[hexG q,hexG r]) w2:=by
  have h3:=zai.above (Below.refl _ _).drew hN2
  rwa [List.append_assoc] at h3
 exact zai.above (Below.refl _ _).drew (zai.trans hk1 hs1 h2)
theorem nameW {w:World} {S:Nat->Prop} {p:Nat} {out:List UInt8} (h:WrQ w S p out) (s:List UInt8) (hl:out.length+3*s.length+1<=10000000) :
  Calls Tryz.prog 95 #[.pointer (some ⟨p,0,none⟩),.string (mkB s)] w fun e w'=>e=.returned (.tuple #[])/\zai w S p (out++47::zbl s) w':=by
 have HA:=yb (zaE h 47 47 rfl (by omega))
 have hsz:(mkB s).size=s.length:=zar s
 have hszi:((mkB s).size:Int)=s.length:=by rw [hsz]
 have HSZ:=yb hsz
 have hm:(s.length:Int)<=10000000:=by omega
 go_enter Tryz.func95,Tryz.ntmps95
 go_wp2_with fail
 refine HA.out.mono ?_
 rintro e w1 ⟨rfl,hN1⟩
 have HN1:=yb hN1
 clear hN1 HA
 go_wp2
 go_loopw [12] (fun vk wr=>∃k:Nat,vk=.int .i64 k/\k<=s.length/\Hid (zai w S p ((out++[47])++zbl (s.take k)) wr)) (fun vk _=>s.length-(intOf vk).toNat)
 case atStart=>exact ⟨0,rfl,Nat.zero_le _,yb (by rw [List.take_zero];simpa [zbl] using HN1.out)⟩
 case round =>
  obtain ⟨k,rfl,hk,HN⟩:=hrel
  by_cases q1:k<s.length
  case neg =>
   have hd1:decide (k<s.length)=false:=ye q1
   have hd2:decide ((k:Int)<(s.length:Int))=false:=ye (by omega)
   have hq2:¬(k:Int)<(s.length:Int):=by omega
   have HE:=yb (show zai w S p (out++47::zbl s) wr by
    have h2:=HN.out
    rw [List.take_of_length_le (by omega),List.append_assoc] at h2
    exact h2)
   clear HN HN1
   go_wp2
   go_end0
   exact ⟨rfl,HE.out⟩
  have hd1:decide (k<s.length)=true:=yd q1
  have hd2:decide ((k:Int)<(s.length:Int))=true:=yd (by omega)
  have hk0:(0:Int)<=(k:Int):=by omega
  have hk1:(k:Int)<(s.length:Int):=by omega
  have hk2:k<(mkB s).size:=by omega
  obtain ⟨c,hc⟩:∃c,c=s[k]'q1:=⟨_,rfl⟩
  have hcs:s[k]?=some c:=by rw [hc];exact List.getElem?_eq_getElem q1
  have hT:=zdG hcs
  have hlen:(zbl (s.take k)).length<=3*k:=by
   have h1:=zcu (s.take k)
   rw [List.length_take] at h1
   omega
  have hol:((out++[47])++zbl (s.take k)).length+3<=10000000:=by simp;omega
  obtain ⟨n,hn⟩:∃n,n=c.toNat:=⟨_,rfl⟩
  have hat:((mkB s)[k]'hk2).toNat=n:=by rw [hn,hc];exact ze0 q1 hk2
  have HD:=yb (fun W=>delim_any c W)
  have HH:=yb (fun (S1:Nat->Prop) (W:World) (o:List UInt8) (hq:WrQ W S1 p o) (ho:o.length+2<=10000000)=>hexW hq c ho)
  have hdl:dlI (c.toNat:Int)=isDl c:=(dlI_eq c).symm
  have hch:chF c=if n<33\/126<n\/n=35\/dlI (n:Int)=true then 35::hexB c else [c]:=by
   unfold chF;rw [hn,hdl];simp only [eq35]
  rw [<-hn] at HD HH
  have HT:=yb hT
  have HOL:=yb hol
  have HNC:=yb hn
  have HCH:=yb hch
  clear hT hol hn hc hcs hdl hch hlen
  generalize dlI (n:Int)=d at *
  obtain ⟨S1,hq1,hk1',hs1⟩:=HN.out
  have HQ1:=yb hq1
  have HK1:=yb hk1'
  have HS1:=yb hs1
  clear hq1 hk1' hs1 HN HN1
  by_cases h1:n<33
  ·have b1:decide (n<33)=true:=yd h1
   have b1':decide ((n:Int)<33)=true:=yd (by omega)
   have HCB:=yb (show chF c=35::hexB c by rw [HCH.out,yg (.inl h1)])
   clear HCH h1
   go_wp2_with (fail)
   refine (zaE HQ1.out 35 35 rfl (by have:=HOL.out;omega)).mono ?_
   rintro e w2 ⟨rfl,hN2⟩
   obtain ⟨S2,hq2,hk2',hs2⟩:=hN2
   have HH2:=yb (HH.out S2 w2 _ hq2 (by have:=HOL.out;simp at this |-;omega))
   clear hq2
   go_wp2_with fail
   refine HH2.out.mono ?_
   rintro e w3 ⟨rfl,hN3⟩
   have HN3:=yb (show zai w S p ((out++[47])++zbl (s.take (k+1))) w3 by
    rw [HT.out,HCB.out]
    have h3:=zai.trans HK1.out HS1.out (zai.trans hk2' hs2 hN3)
    rw [List.append_assoc _ [35]] at h3
    rw [<-List.append_assoc (out++[47])]
    exact h3)
   clear hN3 hk2' hs2 HH2 HCB
   go_wp2
   go_roundw
   case rel=>exact ⟨k+1,by go_num,by omega,HN3⟩
   case measure=>simp [intOf];omega
  have b1:decide (n<33)=false:=ye h1
  have b1':decide ((n:Int)<33)=false:=ye (by omega)
  by_cases h2:126<n
  ·have b2:decide (126<n)=true:=yd h2
   have b2':decide ((126:Int)<(n:Int))=true:=yd (by omega)
   have HCB:=yb (show chF c=35::hexB c by rw [HCH.out,yg (.inr (.inl h2))])
   clear HCH h1 h2
   go_wp2_with (fail)
   refine (zaE HQ1.out 35 35 rfl (by have:=HOL.out;omega)).mono ?_
   rintro e w2 ⟨rfl,hN2⟩
   obtain ⟨S2,hq2,hk2',hs2⟩:=hN2
   have HH2:=yb (HH.out S2 w2 _ hq2 (by have:=HOL.out;simp at this |-;omega))
   clear hq2
   go_wp2_with fail
   refine HH2.out.mono ?_
   rintro e w3 ⟨rfl,hN3⟩
   have HN3:=yb (show zai w S p ((out++[47])++zbl (s.take (k+1))) w3 by
    rw [HT.out,HCB.out]
    have h3:=zai.trans HK1.out HS1.out (zai.trans hk2' hs2 hN3)
    rw [List.append_assoc _ [35]] at h3
    rw [<-List.append_assoc (out++[47])]
    exact h3)
   clear hN3 hk2' hs2 HH2 HCB
   go_wp2
   go_roundw
   case rel=>exact ⟨k+1,by go_num,by omega,HN3⟩
   case measure=>simp [intOf];omega
  have b2:decide (126<n)=false:=ye h2
  have b2':decide ((126:Int)<(n:Int))=false:=ye (by omega)
  by_cases h3:n=35
  ·have b3:(n==35)=true:=by rw [h3];rfl
   have b3':((n:Int)==35)=true:=by rw [h3];rfl
   have HCB:=yb (show chF c=35::hexB c by rw [HCH.out,yg (.inr (.inr (.inl h3)))])
   clear HCH h1 h2
   have H3:=yb h3
   clear h3
   go_wp2_with (fail)
   refine (zaE HQ1.out 35 35 rfl (by have:=HOL.out;omega)).mono ?_
   rintro e w2 ⟨rfl,hN2⟩
   obtain ⟨S2,hq2,hk2',hs2⟩:=hN2
   have HH2:=yb (HH.out S2 w2 _ hq2 (by have:=HOL.out;simp at this |-;omega))
   clear hq2
   go_wp2_with fail
   refine HH2.out.mono ?_
   rintro e w3 ⟨rfl,hN3⟩
   have HN3:=yb (show zai w S p ((out++[47])++zbl (s.take (k+1))) w3 by
    rw [HT.out,HCB.out]
    have h3:=zai.trans HK1.out HS1.out (zai.trans hk2' hs2 hN3)
    rw [List.append_assoc _ [35]] at h3
    rw [<-List.append_assoc (out++[47])]
    exact h3)
   clear hN3 hk2' hs2 HH2 HCB
   go_wp2
   go_roundw
   case rel=>exact ⟨k+1,by go_num,by omega,HN3⟩
   case measure=>simp [intOf];omega
  have b3:(n==35)=false:=by rw [yf];exact h3
  have b3':((n:Int)==35)=false:=by rw [yf];omega
  cases d with
  | true =>
   have HCB:=yb (show chF c=35::hexB c by rw [HCH.out,yg (.inr (.inr (.inr rfl)))])
   clear HCH h1 h2 h3
   go_wp2_with (go_at_call 132;refine (HD.out _).mono ?_;rintro e w' ⟨rfl,rfl⟩)
   refine (zaE HQ1.out 35 35 rfl (by have:=HOL.out;omega)).mono ?_
   rintro e w2 ⟨rfl,hN2⟩
   obtain ⟨S2,hq2,hk2',hs2⟩:=hN2
   have HH2:=yb (HH.out S2 w2 _ hq2 (by have:=HOL.out;simp at this |-;omega))
   clear hq2
   go_wp2_with fail
   refine HH2.out.mono ?_
   rintro e w3 ⟨rfl,hN3⟩
   have HN3:=yb (show zai w S p ((out++[47])++zbl (s.take (k+1))) w3 by
    rw [HT.out,HCB.out]
    have h3:=zai.trans HK1.out HS1.out (zai.trans hk2' hs2 hN3)
    rw [List.append_assoc _ [35]] at h3
    rw [<-List.append_assoc (out++[47])]
    exact h3)
   clear hN3 hk2' hs2 HH2 HCB
   go_wp2
   go_roundw
   case rel=>exact ⟨k+1,by go_num,by omega,HN3⟩
   case measure=>simp [intOf];omega
  | false =>
   have HCB:=yb (show chF c=[c] by rw [HCH.out,yh (by rintro (h|h|h|h);exact h1 h;exact h2 h;exact h3 h;cases h)])
   clear HCH h1 h2 h3
   have HWB:=yb (zaE HQ1.out c n (by rw [HNC.out]) (by have:=HOL.out;omega))
   go_wp2_with (go_at_call 132;refine (HD.out _).mono ?_;rintro e w' ⟨rfl,rfl⟩)
   refine HWB.out.mono ?_
   rintro e w2 ⟨rfl,hN2⟩
   have HN3:=yb (show zai w S p ((out++[47])++zbl (s.take (k+1))) w2 by
    rw [HT.out,HCB.out,<-List.append_assoc (out++[47])]
    exact zai.trans HK1.out HS1.out hN2)
   clear hN2 HCB HWB
   go_wp2
   go_roundw
   case rel=>exact ⟨k+1,by go_num,by omega,HN3⟩
   case measure=>simp [intOf];omega
end Go.Proofs.YtcmoehknppjkiaaGreatDoor
