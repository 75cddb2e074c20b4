/-
  Our texts Sr2 to Sw3, in one.
-/
import Derived.Test.YtcmoehknppjkiaaGreatDoorPkB12
import Derived.Shelf.Abstract
import Derived.Lib.Builder
import Derived.Lib.UnsafeStr
import Derived.Lib.ByteType
import Derived.Lib.AppendStr
import Derived.BigQuiet
import Derived.Deep.RegionHeld3
import Derived.Deep.Cut
set_option maxRecDepth 8000
set_option maxHeartbeats 8000000
namespace Go.Proofs.YtcmoehknppjkiaaGreatDoor
open Go.RowKit
set_option linter.unusedSimpArgs false
set_option linter.unusedVariables false
theorem rown_k0 {n:Int} {s:List UInt8} {l:List PV} {a1:Option Addr} {cap1:Nat} {w:World} (_m1:(l.length:Int)<=9223372036854775807) :
  Calls Tryz.prog 99 #[.agg #[.int .i64 0,.int .i64 n,.string (mkB s),.slice a1 l.length cap1]] w fun e w'=>e=.returned (.int .i64 (if n=0/\s=[]/\l=[] then 0 else 2))/\Below w.heap.size w w':=by
 obtain ⟨R,hR⟩:∃R,R=(if n=0/\s=[]/\l=[] then 0 else 2:Int):=⟨_,rfl⟩;rw [<-hR];have HR:=yb hR;have HB:=yb (zai w (.cells #[.int .i64 0,.int .i64 n,.string (mkB s),.slice a1 l.length cap1] 25));clear hR
 by_cases hs0:s=[]
 ·have es0:(mkB s).toList=[]:=by rw [zaj];exact hs0
  have es0b:((mkB s).toList==[])=true:=by rw [beq_iff_eq];exact es0
  have es0c:((mkB s).toList != [])=false:=by simp only [bne,es0b,Bool.not_true]
  by_cases hm0:l=[]
  ·have em0:(l.length==0)=true:=by rw [hm0];rfl
   have em0':((l.length:Int)==0)=true:=by rw [hm0];rfl
   by_cases hn0:n=0
   ·have en0:(n==0)=true:=by rw [beq_iff_eq];exact hn0
    have en0':(n != 0)=false:=by simp only [bne,en0,Bool.not_true]
    have hr:=HR.out;obtain rfl:R=0:=by rw [hr];simp [hs0,hm0,hn0]
    clear HR hr hs0 hm0 hn0;generalize l.length=m at *;generalize mkB s=S at *;go_enter Tryz.func99,Tryz.ntmps99
    go_wp2;go_ret;exact ⟨rfl,HB.out⟩
   ·have en0:(n==0)=false:=by rw [yf];exact hn0
    have en0':(n != 0)=true:=by simp only [bne,en0,yj]
    have hr:=HR.out;obtain rfl:R=2:=by rw [hr];simp [hs0,hm0,hn0]
    clear HR hr hs0 hm0 hn0;generalize l.length=m at *;generalize mkB s=S at *;go_enter Tryz.func99,Tryz.ntmps99
    go_wp2;go_ret;exact ⟨rfl,HB.out⟩
  ·have em0:(l.length==0)=false:=by rw [yf];exact fun e=>hm0 (List.eq_nil_of_length_eq_zero e)
   have em0':((l.length:Int)==0)=false:=by rw [yf];exact fun e=>hm0 (List.eq_nil_of_length_eq_zero (by omega))
   have hr:=HR.out;obtain rfl:R=2:=by rw [hr];simp [hs0,hm0]
   clear HR hr hs0 hm0;generalize l.length=m at *;generalize mkB s=S at *;go_enter Tryz.func99,Tryz.ntmps99
   go_wp2;go_ret;exact ⟨rfl,HB.out⟩
 ·have es0b:((mkB s).toList==[])=false:=by rw [yf,zaj];exact hs0
  have es0c:((mkB s).toList != [])=true:=by simp only [bne,es0b,yj]
  have hr:=HR.out;obtain rfl:R=2:=by rw [hr];simp [hs0]
  clear HR hr hs0;generalize l.length=m at *;generalize mkB s=S at *;go_enter Tryz.func99,Tryz.ntmps99
  go_wp2;go_ret;exact ⟨rfl,HB.out⟩
theorem rown_k1 {n:Int} {s:List UInt8} {l:List PV} {a1:Option Addr} {cap1:Nat} {w:World} (_m1:(l.length:Int)<=9223372036854775807) :
  Calls Tryz.prog 99 #[.agg #[.int .i64 1,.int .i64 n,.string (mkB s),.slice a1 l.length cap1]] w fun e w'=>e=.returned (.int .i64 (if (n=0\/n=1)/\s=[]/\l=[] then 0 else 2))/\Below w.heap.size w w':=by
 obtain ⟨R,hR⟩:∃R,R=(if (n=0\/n=1)/\s=[]/\l=[] then 0 else 2:Int):=⟨_,rfl⟩;rw [<-hR];have HR:=yb hR;have HB:=yb (zai w (.cells #[.int .i64 1,.int .i64 n,.string (mkB s),.slice a1 l.length cap1] 25));clear hR
 by_cases hs0:s=[]
 ·have es0:(mkB s).toList=[]:=by rw [zaj];exact hs0
  have es0b:((mkB s).toList==[])=true:=by rw [beq_iff_eq];exact es0
  have es0c:((mkB s).toList != [])=false:=by simp only [bne,es0b,Bool.not_true]
  by_cases hm0:l=[]
  ·have em0:(l.length==0)=true:=by rw [hm0];rfl
   have em0':((l.length:Int)==0)=true:=by rw [hm0];rfl
   by_cases hn0:n=0
   ·have en0:(n==0)=true:=by rw [beq_iff_eq];exact hn0
    have en0':(n != 0)=false:=by simp only [bne,en0,Bool.not_true]
    have hr:=HR.out;obtain rfl:R=0:=by rw [hr];simp [hs0,hm0,hn0]
    clear HR hr hs0 hm0 hn0;generalize l.length=m at *;generalize mkB s=S at *;go_enter Tryz.func99,Tryz.ntmps99
    go_wp2;go_ret;exact ⟨rfl,HB.out⟩
   ·have en0:(n==0)=false:=by rw [yf];exact hn0
    have en0':(n != 0)=true:=by simp only [bne,en0,yj]
    by_cases hn1:n=1
    ·have en1:(n==1)=true:=by rw [beq_iff_eq];exact hn1
     have hr:=HR.out;obtain rfl:R=0:=by rw [hr];simp [hs0,hm0,hn1]
     clear HR hr hs0 hm0 hn0 hn1;generalize l.length=m at *;generalize mkB s=S at *;go_enter Tryz.func99,Tryz.ntmps99
     go_wp2;go_ret;exact ⟨rfl,HB.out⟩
    ·have en1:(n==1)=false:=by rw [yf];exact hn1
     have hr:=HR.out;obtain rfl:R=2:=by rw [hr];simp [hs0,hm0,hn0,hn1]
     clear HR hr hs0 hm0 hn0 hn1;generalize l.length=m at *;generalize mkB s=S at *;go_enter Tryz.func99,Tryz.ntmps99
     go_wp2;go_ret;exact ⟨rfl,HB.out⟩
  ·have em0:(l.length==0)=false:=by rw [yf];exact fun e=>hm0 (List.eq_nil_of_length_eq_zero e)
   have em0':((l.length:Int)==0)=false:=by rw [yf];exact fun e=>hm0 (List.eq_nil_of_length_eq_zero (by omega))
   have hr:=HR.out;obtain rfl:R=2:=by rw [hr];simp [hs0,hm0]
   clear HR hr hs0 hm0;generalize l.length=m at *;generalize mkB s=S at *;go_enter Tryz.func99,Tryz.ntmps99
   go_wp2;go_ret;exact ⟨rfl,HB.out⟩
 ·have es0b:((mkB s).toList==[])=false:=by rw [yf,zaj];exact hs0
  have es0c:((mkB s).toList != [])=true:=by simp only [bne,es0b,yj]
  have hr:=HR.out;obtain rfl:R=2:=by rw [hr];simp [hs0]
  clear HR hr hs0;generalize l.length=m at *;generalize mkB s=S at *;go_enter Tryz.func99,Tryz.ntmps99
  go_wp2;go_ret;exact ⟨rfl,HB.out⟩
theorem rown_k4 {n:Int} {s:List UInt8} {l:List PV} {a1:Option Addr} {cap1:Nat} {w:World} (_m1:(l.length:Int)<=9223372036854775807) :
  Calls Tryz.prog 99 #[.agg #[.int .i64 4,.int .i64 n,.string (mkB s),.slice a1 l.length cap1]] w fun e w'=>e=.returned (.int .i64 (if n=0/\l=[] then 0 else 2))/\Below w.heap.size w w':=by
 obtain ⟨R,hR⟩:∃R,R=(if n=0/\l=[] then 0 else 2:Int):=⟨_,rfl⟩;rw [<-hR];have HR:=yb hR;have HB:=yb (zai w (.cells #[.int .i64 4,.int .i64 n,.string (mkB s),.slice a1 l.length cap1] 25));clear hR
 by_cases hs0:s=[]
 ·have es0:(mkB s).toList=[]:=by rw [zaj];exact hs0
  have es0b:((mkB s).toList==[])=true:=by rw [beq_iff_eq];exact es0
  have es0c:((mkB s).toList != [])=false:=by simp only [bne,es0b,Bool.not_true]
  by_cases hm0:l=[]
  ·have em0:(l.length==0)=true:=by rw [hm0];rfl
   have em0':((l.length:Int)==0)=true:=by rw [hm0];rfl
   by_cases hn0:n=0
   ·have en0:(n==0)=true:=by rw [beq_iff_eq];exact hn0
    have en0':(n != 0)=false:=by simp only [bne,en0,Bool.not_true]
    have hr:=HR.out;obtain rfl:R=0:=by rw [hr];simp [hs0,hm0,hn0]
    clear HR hr hs0 hm0 hn0;generalize l.length=m at *;generalize mkB s=S at *;go_enter Tryz.func99,Tryz.ntmps99
    go_wp2;go_ret;exact ⟨rfl,HB.out⟩
   ·have en0:(n==0)=false:=by rw [yf];exact hn0
    have en0':(n != 0)=true:=by simp only [bne,en0,yj]
    have hr:=HR.out;obtain rfl:R=2:=by rw [hr];simp [hs0,hm0,hn0]
    clear HR hr hs0 hm0 hn0;generalize l.length=m at *;generalize mkB s=S at *;go_enter Tryz.func99,Tryz.ntmps99
    go_wp2;go_ret;exact ⟨rfl,HB.out⟩
  ·have em0:(l.length==0)=false:=by rw [yf];exact fun e=>hm0 (List.eq_nil_of_length_eq_zero e)
   have em0':((l.length:Int)==0)=false:=by rw [yf];exact fun e=>hm0 (List.eq_nil_of_length_eq_zero (by omega))
   by_cases hn0:n=0
   ·have en0:(n==0)=true:=by rw [beq_iff_eq];exact hn0
    have en0':(n != 0)=false:=by simp only [bne,en0,Bool.not_true]
    have hr:=HR.out;obtain rfl:R=2:=by rw [hr];simp [hs0,hm0,hn0]
    clear HR hr hs0 hm0 hn0;generalize l.length=m at *;generalize mkB s=S at *;go_enter Tryz.func99,Tryz.ntmps99
    go_wp2;go_ret;exact ⟨rfl,HB.out⟩
   ·have en0:(n==0)=false:=by rw [yf];exact hn0
    have en0':(n != 0)=true:=by simp only [bne,en0,yj]
    have hr:=HR.out;obtain rfl:R=2:=by rw [hr];simp [hs0,hm0,hn0]
    clear HR hr hs0 hm0 hn0;generalize l.length=m at *;generalize mkB s=S at *;go_enter Tryz.func99,Tryz.ntmps99
    go_wp2;go_ret;exact ⟨rfl,HB.out⟩
 ·have es0b:((mkB s).toList==[])=false:=by rw [yf,zaj];exact hs0
  have es0c:((mkB s).toList != [])=true:=by simp only [bne,es0b,yj]
  by_cases hn0:n=0
  ·have en0:(n==0)=true:=by rw [beq_iff_eq];exact hn0
   have en0':(n != 0)=false:=by simp only [bne,en0,Bool.not_true]
   by_cases hm0:l=[]
   ·have em0:(l.length==0)=true:=by rw [hm0];rfl
    have em0':((l.length:Int)==0)=true:=by rw [hm0];rfl
    have hr:=HR.out;obtain rfl:R=0:=by rw [hr];simp [hs0,hn0,hm0]
    clear HR hr hs0 hn0 hm0;generalize l.length=m at *;generalize mkB s=S at *;go_enter Tryz.func99,Tryz.ntmps99
    go_wp2;go_ret;exact ⟨rfl,HB.out⟩
   ·have em0:(l.length==0)=false:=by rw [yf];exact fun e=>hm0 (List.eq_nil_of_length_eq_zero e)
    have em0':((l.length:Int)==0)=false:=by rw [yf];exact fun e=>hm0 (List.eq_nil_of_length_eq_zero (by omega))
    have hr:=HR.out;obtain rfl:R=2:=by rw [hr];simp [hs0,hn0,hm0]
    clear HR hr hs0 hn0 hm0;generalize l.length=m at *;generalize mkB s=S at *;go_enter Tryz.func99,Tryz.ntmps99
    go_wp2;go_ret;exact ⟨rfl,HB.out⟩
  ·have en0:(n==0)=false:=by rw [yf];exact hn0
   have en0':(n != 0)=true:=by simp only [bne,en0,yj]
   have hr:=HR.out;obtain rfl:R=2:=by rw [hr];simp [hs0,hn0]
   clear HR hr hs0 hn0;generalize l.length=m at *;generalize mkB s=S at *;go_enter Tryz.func99,Tryz.ntmps99
   go_wp2;go_ret;exact ⟨rfl,HB.out⟩
theorem rown_k6 {n:Int} {s:List UInt8} {l:List PV} {a1:Option Addr} {cap1:Nat} {w:World} (_m1:(l.length:Int)<=9223372036854775807) :
  Calls Tryz.prog 99 #[.agg #[.int .i64 6,.int .i64 n,.string (mkB s),.slice a1 l.length cap1]] w fun e w'=>e=.returned (.int .i64 (if n=0/\s=[] then 0 else 2))/\Below w.heap.size w w':=by
 obtain ⟨R,hR⟩:∃R,R=(if n=0/\s=[] then 0 else 2:Int):=⟨_,rfl⟩;rw [<-hR];have HR:=yb hR;have HB:=yb (zai w (.cells #[.int .i64 6,.int .i64 n,.string (mkB s),.slice a1 l.length cap1] 25));clear hR
 by_cases hs0:s=[]
 ·have es0:(mkB s).toList=[]:=by rw [zaj];exact hs0
  have es0b:((mkB s).toList==[])=true:=by rw [beq_iff_eq];exact es0
  have es0c:((mkB s).toList != [])=false:=by simp only [bne,es0b,Bool.not_true]
  by_cases hm0:l=[]
  ·have em0:(l.length==0)=true:=by rw [hm0];rfl
   have em0':((l.length:Int)==0)=true:=by rw [hm0];rfl
   by_cases hn0:n=0
   ·have en0:(n==0)=true:=by rw [beq_iff_eq];exact hn0
    have en0':(n != 0)=false:=by simp only [bne,en0,Bool.not_true]
    have hr:=HR.out;obtain rfl:R=0:=by rw [hr];simp [hs0,hm0,hn0]
    clear HR hr hs0 hm0 hn0;generalize l.length=m at *;generalize mkB s=S at *;go_enter Tryz.func99,Tryz.ntmps99
    go_wp2;go_ret;exact ⟨rfl,HB.out⟩
   ·have en0:(n==0)=false:=by rw [yf];exact hn0
    have en0':(n != 0)=true:=by simp only [bne,en0,yj]
    have hr:=HR.out;obtain rfl:R=2:=by rw [hr];simp [hs0,hm0,hn0]
    clear HR hr hs0 hm0 hn0;generalize l.length=m at *;generalize mkB s=S at *;go_enter Tryz.func99,Tryz.ntmps99
    go_wp2;go_ret;exact ⟨rfl,HB.out⟩
  ·have em0:(l.length==0)=false:=by rw [yf];exact fun e=>hm0 (List.eq_nil_of_length_eq_zero e)
   have em0':((l.length:Int)==0)=false:=by rw [yf];exact fun e=>hm0 (List.eq_nil_of_length_eq_zero (by omega))
   by_cases hn0:n=0
   ·have en0:(n==0)=true:=by rw [beq_iff_eq];exact hn0
    have en0':(n != 0)=false:=by simp only [bne,en0,Bool.not_true]
    have hr:=HR.out;obtain rfl:R=0:=by rw [hr];simp [hs0,hm0,hn0]
    clear HR hr hs0 hm0 hn0;generalize l.length=m at *;generalize mkB s=S at *;go_enter Tryz.func99,Tryz.ntmps99
    go_wp2;go_ret;exact ⟨rfl,HB.out⟩
   ·have en0:(n==0)=false:=by rw [yf];exact hn0
    have en0':(n != 0)=true:=by simp only [bne,en0,yj]
    have hr:=HR.out;obtain rfl:R=2:=by rw [hr];simp [hs0,hm0,hn0]
    clear HR hr hs0 hm0 hn0;generalize l.length=m at *;generalize mkB s=S at *;go_enter Tryz.func99,Tryz.ntmps99
    go_wp2;go_ret;exact ⟨rfl,HB.out⟩
 ·have es0b:((mkB s).toList==[])=false:=by rw [yf,zaj];exact hs0
  have es0c:((mkB s).toList != [])=true:=by simp only [bne,es0b,yj]
  by_cases hn0:n=0
  ·have en0:(n==0)=true:=by rw [beq_iff_eq];exact hn0
   have en0':(n != 0)=false:=by simp only [bne,en0,Bool.not_true]
   have hr:=HR.out;obtain rfl:R=2:=by rw [hr];simp [hs0,hn0]
   clear HR hr hs0 hn0;generalize l.length=m at *;generalize mkB s=S at *;go_enter Tryz.func99,Tryz.ntmps99
   go_wp2;go_ret;exact ⟨rfl,HB.out⟩
  ·have en0:(n==0)=false:=by rw [yf];exact hn0
   have en0':(n != 0)=true:=by simp only [bne,en0,yj]
   have hr:=HR.out;obtain rfl:R=2:=by rw [hr];simp [hs0,hn0]
   clear HR hr hs0 hn0;generalize l.length=m at *;generalize mkB s=S at *;go_enter Tryz.func99,Tryz.ntmps99
   go_wp2;go_ret;exact ⟨rfl,HB.out⟩
theorem rown_k8 {n:Int} {s:List UInt8} {l:List PV} {a1:Option Addr} {cap1:Nat} {w:World} (_m1:(l.length:Int)<=9223372036854775807) :
  Calls Tryz.prog 99 #[.agg #[.int .i64 8,.int .i64 n,.string (mkB s),.slice a1 l.length cap1]] w fun e w'=>e=.returned (.int .i64 (if 1<=n/\n<=4096/\s=[]/\l=[] then 0 else 2))/\Below w.heap.size w w':=by
 obtain ⟨R,hR⟩:∃R,R=(if 1<=n/\n<=4096/\s=[]/\l=[] then 0 else 2:Int):=⟨_,rfl⟩;rw [<-hR];have HR:=yb hR;have HB:=yb (zai w (.cells #[.int .i64 8,.int .i64 n,.string (mkB s),.slice a1 l.length cap1] 25));clear hR
 by_cases hs0:s=[]
 ·have es0:(mkB s).toList=[]:=by rw [zaj];exact hs0
  have es0b:((mkB s).toList==[])=true:=by rw [beq_iff_eq];exact es0
  have es0c:((mkB s).toList != [])=false:=by simp only [bne,es0b,Bool.not_true]
  by_cases hm0:l=[]
  ·have em0:(l.length==0)=true:=by rw [hm0];rfl
   have em0':((l.length:Int)==0)=true:=by rw [hm0];rfl
   by_cases hg1:1<=n
   ·have eg1:decide (1<=n)=true:=yd hg1
    by_cases hle:n<=4096
    ·have ele:decide (n<=4096)=true:=yd hle
     have hr:=HR.out;obtain rfl:R=0:=by rw [hr];simp [hs0,hm0,hg1,hle]
     clear HR hr hs0 hm0 hg1 hle;generalize l.length=m at *;generalize mkB s=S at *;go_enter Tryz.func99,Tryz.ntmps99
     go_wp2;go_ret;exact ⟨rfl,HB.out⟩
    ·have ele:decide (n<=4096)=false:=ye hle
     have hr:=HR.out;obtain rfl:R=2:=by rw [hr];simp [hs0,hm0,hg1,hle]
     clear HR hr hs0 hm0 hg1 hle;generalize l.length=m at *;generalize mkB s=S at *;go_enter Tryz.func99,Tryz.ntmps99
     go_wp2;go_ret;exact ⟨rfl,HB.out⟩
   ·have eg1:decide (1<=n)=false:=ye hg1
    have hr:=HR.out;obtain rfl:R=2:=by rw [hr];simp [hs0,hm0,hg1]
    clear HR hr hs0 hm0 hg1;generalize l.length=m at *;generalize mkB s=S at *;go_enter Tryz.func99,Tryz.ntmps99
    go_wp2;go_ret;exact ⟨rfl,HB.out⟩
  ·have em0:(l.length==0)=false:=by rw [yf];exact fun e=>hm0 (List.eq_nil_of_length_eq_zero e)
   have em0':((l.length:Int)==0)=false:=by rw [yf];exact fun e=>hm0 (List.eq_nil_of_length_eq_zero (by omega))
   have hr:=HR.out;obtain rfl:R=2:=by rw [hr];simp [hs0,hm0]
   clear HR hr hs0 hm0;generalize l.length=m at *;generalize mkB s=S at *;go_enter Tryz.func99,Tryz.ntmps99
   go_wp2;go_ret;exact ⟨rfl,HB.out⟩
 ·have es0b:((mkB s).toList==[])=false:=by rw [yf,zaj];exact hs0
  have es0c:((mkB s).toList != [])=true:=by simp only [bne,es0b,yj]
  have hr:=HR.out;obtain rfl:R=2:=by rw [hr];simp [hs0]
  clear HR hr hs0;generalize l.length=m at *;generalize mkB s=S at *;go_enter Tryz.func99,Tryz.ntmps99
  go_wp2;go_ret;exact ⟨rfl,HB.out⟩
theorem rown_k2 {n:Int} {s:List UInt8} {l:List PV} {a1:Option Addr} {cap1:Nat} {w:World} (_m1:(l.length:Int)<=9223372036854775807) :
  Calls Tryz.prog 99 #[.agg #[.int .i64 2,.int .i64 n,.string (mkB s),.slice a1 l.length cap1]] w fun e w'=>e=.returned (.int .i64 (zaM 2 n (zbA (mkB s) l.length)))/\Below w.heap.size w w':=by
 obtain ⟨R,hR⟩:∃R,R=(zaM 2 n (zbA (mkB s) l.length):Int):=⟨_,rfl⟩;rw [<-hR];have HR:=yb hR;have HB:=yb (zai w (.cells #[.int .i64 2,.int .i64 n,.string (mkB s),.slice a1 l.length cap1] 25));clear hR;have HP:=yb (fun W=>zeZ 2 n (mkB s) a1 l.length cap1 W _m1);rw [<-HR.out] at HP;clear HR
 by_cases hs0:s=[]
 ·have es0:(mkB s).toList=[]:=by rw [zaj];exact hs0
  have es0b:((mkB s).toList==[])=true:=by rw [beq_iff_eq];exact es0
  have es0c:((mkB s).toList != [])=false:=by simp only [bne,es0b,Bool.not_true]
  by_cases hm0:l=[]
  ·have em0:(l.length==0)=true:=by rw [hm0];rfl
   have em0':((l.length:Int)==0)=true:=by rw [hm0];rfl
   clear hs0 hm0;generalize l.length=m at *;generalize mkB s=S at *;go_enter Tryz.func99,Tryz.ntmps99
   go_wp2_with (go_at_call 79;refine (HP.out _).mono ?_;rintro e w1 ⟨rfl,Qc⟩)
   go_ret;exact ⟨rfl,HB.out.trans (Qc.mono HB.out.size)⟩
  ·have em0:(l.length==0)=false:=by rw [yf];exact fun e=>hm0 (List.eq_nil_of_length_eq_zero e)
   have em0':((l.length:Int)==0)=false:=by rw [yf];exact fun e=>hm0 (List.eq_nil_of_length_eq_zero (by omega))
   clear hs0 hm0;generalize l.length=m at *;generalize mkB s=S at *;go_enter Tryz.func99,Tryz.ntmps99
   go_wp2_with (go_at_call 79;refine (HP.out _).mono ?_;rintro e w1 ⟨rfl,Qc⟩)
   go_ret;exact ⟨rfl,HB.out.trans (Qc.mono HB.out.size)⟩
 ·have es0b:((mkB s).toList==[])=false:=by rw [yf,zaj];exact hs0
  have es0c:((mkB s).toList != [])=true:=by simp only [bne,es0b,yj]
  clear hs0;generalize l.length=m at *;generalize mkB s=S at *;go_enter Tryz.func99,Tryz.ntmps99
  go_wp2_with (go_at_call 79;refine (HP.out _).mono ?_;rintro e w1 ⟨rfl,Qc⟩)
  go_ret;exact ⟨rfl,HB.out.trans (Qc.mono HB.out.size)⟩
theorem rown_k3 {n:Int} {s:List UInt8} {l:List PV} {a1:Option Addr} {cap1:Nat} {w:World} (_m1:(l.length:Int)<=9223372036854775807) :
  Calls Tryz.prog 99 #[.agg #[.int .i64 3,.int .i64 n,.string (mkB s),.slice a1 l.length cap1]] w fun e w'=>e=.returned (.int .i64 (zaM 3 n (zbA (mkB s) l.length)))/\Below w.heap.size w w':=by
 obtain ⟨R,hR⟩:∃R,R=(zaM 3 n (zbA (mkB s) l.length):Int):=⟨_,rfl⟩;rw [<-hR];have HR:=yb hR;have HB:=yb (zai w (.cells #[.int .i64 3,.int .i64 n,.string (mkB s),.slice a1 l.length cap1] 25));clear hR;have HP:=yb (fun W=>zeZ 3 n (mkB s) a1 l.length cap1 W _m1);rw [<-HR.out] at HP;clear HR
 by_cases hs0:s=[]
 ·have es0:(mkB s).toList=[]:=by rw [zaj];exact hs0
  have es0b:((mkB s).toList==[])=true:=by rw [beq_iff_eq];exact es0
  have es0c:((mkB s).toList != [])=false:=by simp only [bne,es0b,Bool.not_true]
  by_cases hm0:l=[]
  ·have em0:(l.length==0)=true:=by rw [hm0];rfl
   have em0':((l.length:Int)==0)=true:=by rw [hm0];rfl
   clear hs0 hm0;generalize l.length=m at *;generalize mkB s=S at *;go_enter Tryz.func99,Tryz.ntmps99
   go_wp2_with (go_at_call 79;refine (HP.out _).mono ?_;rintro e w1 ⟨rfl,Qc⟩)
   go_ret;exact ⟨rfl,HB.out.trans (Qc.mono HB.out.size)⟩
  ·have em0:(l.length==0)=false:=by rw [yf];exact fun e=>hm0 (List.eq_nil_of_length_eq_zero e)
   have em0':((l.length:Int)==0)=false:=by rw [yf];exact fun e=>hm0 (List.eq_nil_of_length_eq_zero (by omega))
   clear hs0 hm0;generalize l.length=m at *;generalize mkB s=S at *;go_enter Tryz.func99,Tryz.ntmps99
   go_wp2_with (go_at_call 79;refine (HP.out _).mono ?_;rintro e w1 ⟨rfl,Qc⟩)
   go_ret;exact ⟨rfl,HB.out.trans (Qc.mono HB.out.size)⟩
 ·have es0b:((mkB s).toList==[])=false:=by rw [yf,zaj];exact hs0
  have es0c:((mkB s).toList != [])=true:=by simp only [bne,es0b,yj]
  clear hs0;generalize l.length=m at *;generalize mkB s=S at *;go_enter Tryz.func99,Tryz.ntmps99
  go_wp2_with (go_at_call 79;refine (HP.out _).mono ?_;rintro e w1 ⟨rfl,Qc⟩)
  go_ret;exact ⟨rfl,HB.out.trans (Qc.mono HB.out.size)⟩
theorem rown_k5 {n:Int} {s:List UInt8} {l:List PV} {a1:Option Addr} {cap1:Nat} {w:World} (hsl:s.length<=288230376151711744) (_m1:(l.length:Int)<=9223372036854775807) :
  Calls Tryz.prog 99 #[.agg #[.int .i64 5,.int .i64 n,.string (mkB s),.slice a1 l.length cap1]] w fun e w'=>e=.returned (.int .i64 (if 127<s.length\/(0:UInt8)∈s then 17 else if n=0/\l=[] then 0 else 2))/\Below w.heap.size w w':=by
 obtain ⟨R,hR⟩:∃R,R=(if 127<s.length\/(0:UInt8)∈s then 17 else if n=0/\l=[] then 0 else 2:Int):=⟨_,rfl⟩;rw [<-hR];have HR:=yb hR;have HB:=yb (zai w (.cells #[.int .i64 5,.int .i64 n,.string (mkB s),.slice a1 l.length cap1] 25));clear hR;have HT:=yb (fun W=>rtext11 s W (by omega))
 have hq:R=if zeO s=false then 17 else if n=0/\l=[] then 0 else 2:=by
  rw [HR.out,nameC_is]
 have Qe:=yb (zac (w:=w) (.cells #[.int .i64 5,.int .i64 n,.string (mkB s),.slice a1 l.length cap1] 25) rfl);clear HR;generalize zeO s=nc at *;have HR:=yb hq;clear hq hsl
 cases nc
 ·by_cases hs0:s=[]
  ·have es0:(mkB s).toList=[]:=by rw [zaj];exact hs0
   have es0b:((mkB s).toList==[])=true:=by rw [beq_iff_eq];exact es0
   have es0c:((mkB s).toList != [])=false:=by simp only [bne,es0b,Bool.not_true]
   by_cases hm0:l=[]
   ·have em0:(l.length==0)=true:=by rw [hm0];rfl
    have em0':((l.length:Int)==0)=true:=by rw [hm0];rfl
    have hr:=HR.out;obtain rfl:R=17:=by rw [hr];simp [hs0,hm0]
    clear HR hr hs0 hm0;generalize l.length=m at *;generalize mkB s=S at *;go_enter Tryz.func99,Tryz.ntmps99
    go_wp2_with (go_at_call 81;refine (HT.out _).mono ?_;rintro e w1 ⟨rfl,rfl⟩)
    go_ret;exact ⟨rfl,HB.out⟩
   ·have em0:(l.length==0)=false:=by rw [yf];exact fun e=>hm0 (List.eq_nil_of_length_eq_zero e)
    have em0':((l.length:Int)==0)=false:=by rw [yf];exact fun e=>hm0 (List.eq_nil_of_length_eq_zero (by omega))
    have hr:=HR.out;obtain rfl:R=17:=by rw [hr];simp [hs0,hm0]
    clear HR hr hs0 hm0;generalize l.length=m at *;generalize mkB s=S at *;go_enter Tryz.func99,Tryz.ntmps99
    go_wp2_with (go_at_call 81;refine (HT.out _).mono ?_;rintro e w1 ⟨rfl,rfl⟩)
    go_ret;exact ⟨rfl,HB.out⟩
  ·have es0b:((mkB s).toList==[])=false:=by rw [yf,zaj];exact hs0
   have es0c:((mkB s).toList != [])=true:=by simp only [bne,es0b,yj]
   have hr:=HR.out;obtain rfl:R=17:=by rw [hr];simp [hs0]
   clear HR hr hs0;generalize l.length=m at *;generalize mkB s=S at *;go_enter Tryz.func99,Tryz.ntmps99
   go_wp2_with (go_at_call 81;refine (HT.out _).mono ?_;rintro e w1 ⟨rfl,rfl⟩)
   go_ret;exact ⟨rfl,HB.out⟩
 ·by_cases hs0:s=[]
  ·have es0:(mkB s).toList=[]:=by rw [zaj];exact hs0
   have es0b:((mkB s).toList==[])=true:=by rw [beq_iff_eq];exact es0
   have es0c:((mkB s).toList != [])=false:=by simp only [bne,es0b,Bool.not_true]
   by_cases hm0:l=[]
   ·have em0:(l.length==0)=true:=by rw [hm0];rfl
    have em0':((l.length:Int)==0)=true:=by rw [hm0];rfl
    by_cases hn0:n=0
    ·have en0:(n==0)=true:=by rw [beq_iff_eq];exact hn0
     have en0':(n != 0)=false:=by simp only [bne,en0,Bool.not_true]
     have hr:=HR.out;obtain rfl:R=0:=by rw [hr];simp [hs0,hm0,hn0]
     clear HR hr hs0 hm0 hn0;generalize l.length=m at *;generalize mkB s=S at *;go_enter Tryz.func99,Tryz.ntmps99
     go_wp2_with (go_at_call 81;refine (HT.out _).mono ?_;rintro e w1 ⟨rfl,rfl⟩)
     go_ret;exact ⟨rfl,HB.out⟩
    ·have en0:(n==0)=false:=by rw [yf];exact hn0
     have en0':(n != 0)=true:=by simp only [bne,en0,yj]
     have hr:=HR.out;obtain rfl:R=2:=by rw [hr];simp [hs0,hm0,hn0]
     clear HR hr hs0 hm0 hn0;generalize l.length=m at *;generalize mkB s=S at *;go_enter Tryz.func99,Tryz.ntmps99
     go_wp2_with (go_at_call 81;refine (HT.out _).mono ?_;rintro e w1 ⟨rfl,rfl⟩)
     go_ret;exact ⟨rfl,HB.out⟩
   ·have em0:(l.length==0)=false:=by rw [yf];exact fun e=>hm0 (List.eq_nil_of_length_eq_zero e)
    have em0':((l.length:Int)==0)=false:=by rw [yf];exact fun e=>hm0 (List.eq_nil_of_length_eq_zero (by omega))
    by_cases hn0:n=0
    ·have en0:(n==0)=true:=by rw [beq_iff_eq];exact hn0
     have en0':(n != 0)=false:=by simp only [bne,en0,Bool.not_true]
     have hr:=HR.out;obtain rfl:R=2:=by rw [hr];simp [hs0,hm0,hn0]
     clear HR hr hs0 hm0 hn0;generalize l.length=m at *;generalize mkB s=S at *;go_enter Tryz.func99,Tryz.ntmps99
     go_wp2_with (go_at_call 81;refine (HT.out _).mono ?_;rintro e w1 ⟨rfl,rfl⟩)
     go_ret;exact ⟨rfl,HB.out⟩
    ·have en0:(n==0)=false:=by rw [yf];exact hn0
     have en0':(n != 0)=true:=by simp only [bne,en0,yj]
     have hr:=HR.out;obtain rfl:R=2:=by rw [hr];simp [hs0,hm0,hn0]
     clear HR hr hs0 hm0 hn0;generalize l.length=m at *;generalize mkB s=S at *;go_enter Tryz.func99,Tryz.ntmps99
     go_wp2_with (go_at_call 81;refine (HT.out _).mono ?_;rintro e w1 ⟨rfl,rfl⟩)
     go_ret;exact ⟨rfl,HB.out⟩
  ·have es0b:((mkB s).toList==[])=false:=by rw [yf,zaj];exact hs0
   have es0c:((mkB s).toList != [])=true:=by simp only [bne,es0b,yj]
   by_cases hn0:n=0
   ·have en0:(n==0)=true:=by rw [beq_iff_eq];exact hn0
    have en0':(n != 0)=false:=by simp only [bne,en0,Bool.not_true]
    by_cases hm0:l=[]
    ·have em0:(l.length==0)=true:=by rw [hm0];rfl
     have em0':((l.length:Int)==0)=true:=by rw [hm0];rfl
     have hr:=HR.out;obtain rfl:R=0:=by rw [hr];simp [hs0,hn0,hm0]
     clear HR hr hs0 hn0 hm0;generalize l.length=m at *;generalize mkB s=S at *;go_enter Tryz.func99,Tryz.ntmps99
     go_wp2_with (go_at_call 81;refine (HT.out _).mono ?_;rintro e w1 ⟨rfl,rfl⟩)
     go_ret;exact ⟨rfl,HB.out⟩
    ·have em0:(l.length==0)=false:=by rw [yf];exact fun e=>hm0 (List.eq_nil_of_length_eq_zero e)
     have em0':((l.length:Int)==0)=false:=by rw [yf];exact fun e=>hm0 (List.eq_nil_of_length_eq_zero (by omega))
     have hr:=HR.out;obtain rfl:R=2:=by rw [hr];simp [hs0,hn0,hm0]
     clear HR hr hs0 hn0 hm0;generalize l.length=m at *;generalize mkB s=S at *;go_enter Tryz.func99,Tryz.ntmps99
     go_wp2_with (go_at_call 81;refine (HT.out _).mono ?_;rintro e w1 ⟨rfl,rfl⟩)
     go_ret;exact ⟨rfl,HB.out⟩
   ·have en0:(n==0)=false:=by rw [yf];exact hn0
    have en0':(n != 0)=true:=by simp only [bne,en0,yj]
    have hr:=HR.out;obtain rfl:R=2:=by rw [hr];simp [hs0,hn0]
    clear HR hr hs0 hn0;generalize l.length=m at *;generalize mkB s=S at *;go_enter Tryz.func99,Tryz.ntmps99
    go_wp2_with (go_at_call 81;refine (HT.out _).mono ?_;rintro e w1 ⟨rfl,rfl⟩)
    go_ret;exact ⟨rfl,HB.out⟩
theorem rown_k7 {n:Int} {s:List UInt8} {l:List PV} {a1:Option Addr} {cap1:Nat} {w:World} (hv:IsV w anyF (.mk 7 n s l) (.slice a1 l.length cap1)) :
  Calls Tryz.prog 99 #[.agg #[.int .i64 7,.int .i64 n,.string (mkB s),.slice a1 l.length cap1]] w fun e w'=>e=.returned (.int .i64 (if n=0/\s=[] then zdT l else 2))/\Below w.heap.size w w':=by
 have HB:=yb (zai w (.cells #[.int .i64 7,.int .i64 n,.string (mkB s),.slice a1 l.length cap1] 25));have HD:=yb (fun (W:World) (h:Below w.heap.size w W)=>rdictA (hv.below h));clear hv;simp only [pvA,PV.kind,PV.n,PV.s,PV.l] at HD;generalize (if n=0/\s=[] then zdT l else 2:Int)=R at *
 by_cases hs0:s=[]
 ·have es0:(mkB s).toList=[]:=by rw [zaj];exact hs0
  have es0b:((mkB s).toList==[])=true:=by rw [beq_iff_eq];exact es0
  have es0c:((mkB s).toList != [])=false:=by simp only [bne,es0b,Bool.not_true]
  by_cases hm0:l=[]
  ·have em0:(l.length==0)=true:=by rw [hm0];rfl
   have em0':((l.length:Int)==0)=true:=by rw [hm0];rfl
   clear hs0 hm0;generalize l.length=m at *;generalize mkB s=S at *;go_enter Tryz.func99,Tryz.ntmps99
   go_wp2_with (go_at_call 133;refine (HD.out _ HB.out).mono ?_;rintro e w1 ⟨rfl,Qc⟩)
   go_ret;exact ⟨rfl,HB.out.trans (Qc.mono HB.out.size)⟩
  ·have em0:(l.length==0)=false:=by rw [yf];exact fun e=>hm0 (List.eq_nil_of_length_eq_zero e)
   have em0':((l.length:Int)==0)=false:=by rw [yf];exact fun e=>hm0 (List.eq_nil_of_length_eq_zero (by omega))
   clear hs0 hm0;generalize l.length=m at *;generalize mkB s=S at *;go_enter Tryz.func99,Tryz.ntmps99
   go_wp2_with (go_at_call 133;refine (HD.out _ HB.out).mono ?_;rintro e w1 ⟨rfl,Qc⟩)
   go_ret;exact ⟨rfl,HB.out.trans (Qc.mono HB.out.size)⟩
 ·have es0b:((mkB s).toList==[])=false:=by rw [yf,zaj];exact hs0
  have es0c:((mkB s).toList != [])=true:=by simp only [bne,es0b,yj]
  clear hs0;generalize l.length=m at *;generalize mkB s=S at *;go_enter Tryz.func99,Tryz.ntmps99
  go_wp2_with (go_at_call 133;refine (HD.out _ HB.out).mono ?_;rintro e w1 ⟨rfl,Qc⟩)
  go_ret;exact ⟨rfl,HB.out.trans (Qc.mono HB.out.size)⟩
theorem rown_kx {k n:Int} {s:List UInt8} {l:List PV} {a1:Option Addr} {cap1:Nat} {w:World} (_m1:(l.length:Int)<=9223372036854775807) (hk:k≠0/\k≠1/\k≠2/\k≠3/\k≠4/\k≠5/\k≠6/\k≠7/\k≠8) :
  Calls Tryz.prog 99 #[.agg #[.int .i64 k,.int .i64 n,.string (mkB s),.slice a1 l.length cap1]] w fun e w'=>e=.returned (.int .i64 2)/\Below w.heap.size w w':=by
 obtain ⟨h0,h1,h2,h3,h4,h5,h6,h7,h8⟩:=hk;have e0:(k==0)=false:=by rw [yf];exact h0
 have e1:(k==1)=false:=by rw [yf];exact h1
 have e2:(k==2)=false:=by rw [yf];exact h2
 have e3:(k==3)=false:=by rw [yf];exact h3
 have e4:(k==4)=false:=by rw [yf];exact h4
 have e5:(k==5)=false:=by rw [yf];exact h5
 have e6:(k==6)=false:=by rw [yf];exact h6
 have e7:(k==7)=false:=by rw [yf];exact h7
 have e8:(k==8)=false:=by rw [yf];exact h8
 have HB:=yb (zai w (.cells #[.int .i64 k,.int .i64 n,.string (mkB s),.slice a1 l.length cap1] 25));clear h0 h1 h2 h3 h4 h5 h6 h7 h8
 by_cases hs0:s=[]
 ·have es0:(mkB s).toList=[]:=by rw [zaj];exact hs0
  have es0b:((mkB s).toList==[])=true:=by rw [beq_iff_eq];exact es0
  have es0c:((mkB s).toList != [])=false:=by simp only [bne,es0b,Bool.not_true]
  by_cases hm0:l=[]
  ·have em0:(l.length==0)=true:=by rw [hm0];rfl
   have em0':((l.length:Int)==0)=true:=by rw [hm0];rfl
   clear hs0 hm0;generalize l.length=m at *;generalize mkB s=S at *;go_enter Tryz.func99,Tryz.ntmps99
   go_wp2;go_ret;exact ⟨rfl,HB.out⟩
  ·have em0:(l.length==0)=false:=by rw [yf];exact fun e=>hm0 (List.eq_nil_of_length_eq_zero e)
   have em0':((l.length:Int)==0)=false:=by rw [yf];exact fun e=>hm0 (List.eq_nil_of_length_eq_zero (by omega))
   clear hs0 hm0;generalize l.length=m at *;generalize mkB s=S at *;go_enter Tryz.func99,Tryz.ntmps99
   go_wp2;go_ret;exact ⟨rfl,HB.out⟩
 ·have es0b:((mkB s).toList==[])=false:=by rw [yf,zaj];exact hs0
  have es0c:((mkB s).toList != [])=true:=by simp only [bne,es0b,yj]
  clear hs0;generalize l.length=m at *;generalize mkB s=S at *;go_enter Tryz.func99,Tryz.ntmps99
  go_wp2;go_ret;exact ⟨rfl,HB.out⟩
theorem rown_any {v:PV} {sl:Value} {w:World} (hv:IsV w anyF v sl) (hsl:v.s.length<=288230376151711744) :
  Calls Tryz.prog 99 #[pvA v sl] w fun e w'=>e=.returned (.int .i64 (ownC v))/\Below w.heap.size w w':=by
 obtain ⟨a1,cap1,e1,g1,g2,-⟩:=hv.len;subst e1;have m1:(v.l.length:Int)<=9223372036854775807:=by unfold maxLen at g2;omega
 obtain ⟨k,n,s,l⟩:=v;simp only [pvA,PV.kind,PV.n,PV.s,PV.l] at m1 g1 hv hsl |-;simp only [ownC]
 by_cases h0:k=0
 ·subst h0;rw [yg rfl];exact rown_k0 m1
 rw [yh h0]
 by_cases h1:k=1
 ·subst h1;rw [yg rfl];exact rown_k1 m1
 rw [yh h1]
 by_cases h2:k=2
 ·subst h2;rw [yg (.inl rfl),<-zfy];exact rown_k2 m1
 by_cases h3:k=3
 ·subst h3;rw [yg (.inr rfl),<-zfy];exact rown_k3 m1
 rw [yh (by omega)]
 by_cases h4:k=4
 ·subst h4;rw [yg rfl];exact rown_k4 m1
 rw [yh h4]
 by_cases h5:k=5
 ·subst h5;rw [yg rfl];exact rown_k5 hsl m1
 rw [yh h5]
 by_cases h6:k=6
 ·subst h6;rw [yg rfl];exact rown_k6 m1
 rw [yh h6]
 by_cases h7:k=7
 ·subst h7
  rw [yg rfl]
  have e:(if n≠0\/s≠[]\/l.length % 2≠0 then 2 else if zcT l=false then 2 else if ascV (twoV l)=true then 0 else 16:Int)=if n=0/\s=[] then zdT l else 2:=by
   unfold zdT
   by_cases hn:n=0
   ·by_cases hs:s=[]
    ·by_cases hl:l.length % 2=0
     ·rw [yh (show ¬(n≠0\/s≠[]\/l.length % 2≠0) from by simp [hn,hs,hl]),yg (show n=0/\s=[] from ⟨hn,hs⟩),yh (show ¬l.length % 2≠0 from by simp [hl])]
     ·rw [yg (.inr (.inr hl)),yg (show n=0/\s=[] from ⟨hn,hs⟩),yg hl]
    ·rw [yg (.inr (.inl hs)),yh (fun h=>hs h.2)]
   ·rw [yg (.inl hn),yh (fun h=>hn h.1)]
  rw [e];exact rown_k7 hv
 rw [yh h7]
 by_cases h8:k=8
 ·subst h8;rw [yg rfl];exact rown_k8 m1
 rw [yh h8];exact rown_kx m1 ⟨h0,h1,by omega,by omega,h4,h5,h6,h7,h8⟩
end Go.Proofs.YtcmoehknppjkiaaGreatDoor
namespace Go.Proofs.YtcmoehknppjkiaaGreatDoor
mutual
def bndV:PV->Nat
 | .mk _ _ s l=>100+4*s.length+bndL l
def bndL:List PV->Nat
 | []=>0
 | v::l=>bndV v+2+bndL l
end
mutual
def txM (M:Nat):PV->Prop
 | .mk _ _ s l=>s.length<=M/\txMs M l
def txMs (M:Nat):List PV->Prop
 | []=>True
 | v::l=>txM M v/\txMs M l
end
theorem bndV_is (v:PV):bndV v=100+4*v.s.length+bndL v.l:=by cases v;rfl
mutual
theorem bndV_cnt {M:Nat}:∀v:PV,txM M v->bndV v+2<=nodeV v*(102+4*M)
 | .mk _ _ s l,h=>by
  have h1:=bndL_cnt l h.2;have h2:=h.1;unfold bndV nodeV;rw [Nat.add_mul];omega
theorem bndL_cnt {M:Nat}:∀l:List PV,txMs M l->bndL l<=zgH l*(102+4*M)
 | [],_=>by simp [bndL]
 | v::l,h=>by
  have h1:=bndV_cnt v h.1;have h2:=bndL_cnt l h.2;unfold bndL zgH;rw [Nat.add_mul];omega
end
theorem bnd_few {v:PV} (h:0<=fewV v 100) (ht:txM 140737488355328 v):bndV v<=1152921504606846976:=by
 have h1:=(zga v 100 (by omega)).2.2 h;have h2:=bndV_cnt v ht;have h3:nodeV v<=100:=by omega
 have h4:=Nat.mul_le_mul_right (102+4*140737488355328) h3;omega
theorem depth_few {v:PV} (h:0<=fewV v 100):zaZ v<=1000:=by
 have h1:=(zga v 100 (by omega)).2.2 h;have h2:=zgo v;omega
mutual
theorem txM_le {M N:Nat} (hM:M<=N):∀v:PV,txM M v->txM N v
 | .mk _ _ _ l,h=>⟨Nat.le_trans h.1 hM,txMs_le hM l h.2⟩
theorem txMs_le {M N:Nat} (hM:M<=N):∀l:List PV,txMs M l->txMs N l
 | [],_=>trivial
 | v::l,h=>⟨txM_le hM v h.1,txMs_le hM l h.2⟩
end
theorem txM_is {M:Nat} {v:PV} (h:txM M v):v.s.length<=M/\txMs M v.l:=by cases v;exact h
theorem txM_mem {M:Nat}:∀ {l:List PV} {k:Nat} {x:PV},txMs M l->l[k]?=some x->txM M x
 | [],_,_,_,h=>by simp at h
 | y::l,0,x,h,hx=>by
  simp at hx;subst hx;exact h.1
 | y::l,k+1,x,h,hx=>txM_mem (l:=l) (k:=k) h.2 (by simpa using hx)
theorem bndL_take:∀ {l:List PV} {j:Nat} {x:PV},l[j]?=some x->bndL (l.take (j+1))=bndL (l.take j)+(bndV x+2)
 | [],_,_,h=>by simp at h
 | v::l,0,x,h=>by
  simp at h;subst h;simp [bndL]
 | v::l,j+1,x,h=>by
  have:=bndL_take (l:=l) (j:=j) (x:=x) (by simpa using h);rw [List.take_succ_cons,List.take_succ_cons,bndL,bndL,this];omega
theorem bndL_le:∀(l:List PV) (j:Nat),bndL (l.take j)<=bndL l
 | [],j=>by simp
 | v::l,0=>by simp [bndL]
 | v::l,j+1=>by
  have:=bndL_le l j;rw [List.take_succ_cons,bndL,bndL];omega
theorem bndL_mem {l:List PV} {j:Nat} {x:PV} (h:l[j]?=some x):bndV x+2<=bndL l:=by
 have h1:=bndL_take h;have h2:=bndL_le l (j+1);omega
end Go.Proofs.YtcmoehknppjkiaaGreatDoor
namespace Go.Proofs.YtcmoehknppjkiaaGreatDoor
open Go.RowKit
theorem firstL_drop {l:List PV} {k:Nat} {x:PV} (hx:l[k]?=some x):zbt (l.drop k)=if zaK x≠0 then zaK x else zbt (l.drop (k+1)):=by
 obtain ⟨h,e⟩:=List.getElem?_eq_some_iff.1 hx;rw [List.drop_eq_getElem_cons h,e];simp only [zbt]
theorem rfirst_any:∀(N:Nat) (v:PV) (sl:Value) (w:World),SizeOf.sizeOf v<=N->txM 288230376151711744 v->IsV w anyF v sl ->
  Calls Tryz.prog 57 #[pvA v sl] w fun e w'=>e=.returned (.int .i64 (zaK v))/\Below w.heap.size w w':=by
 intro N
 induction N with
 | zero=>intro v sl w h;obtain ⟨_,_,_,_⟩:=v;simp at h
 | succ N ih =>
 intro v sl w hN hd hv;obtain ⟨a1,cap1,e1,g1,g2,g3⟩:=hv.len;subst e1;have HA:=yb hv;have Qv:=yb ih;have HN:=yb hN;have Qk:=yb (fun (k:Nat) (x:PV) (h:v.l[k]?=some x)=>zb3 h);have m1:(v.l.length:Int)<=9223372036854775807:=by unfold maxLen at g2;omega
 have HO:=yb (fun (W:World) (h:Below w.heap.size w W)=>rown_any (hv.below h) (txM_is hd).1);have HH:=yb (fun W=>zgS v (.slice a1 v.l.length cap1) W);have Zk:=yb (fun (k:Nat) (x:PV) (hx:v.l[k]?=some x)=>txM_mem (txM_is hd).2 hx);have QB:=zcg v;obtain ⟨R,hR⟩:∃R,R=zaK v:=⟨_,rfl⟩;rw [<-hR] at QB |-;clear hR;unfold pvA at HH HO |-;clear ih hN hd hv;generalize ownC v=oc at *;obtain ⟨B,hB⟩:∃B,B=w.heap.size:=⟨_,rfl⟩;have Qe:=yb (zac (w:=w) (b:=B) (.cells #[.int .i64 v.kind,.int .i64 v.n,.string (mkB v.s),.slice a1 v.l.length cap1] 25) hB);have HW:=yb (zai w (.cells #[.int .i64 v.kind,.int .i64 v.n,.string (mkB v.s),.slice a1 v.l.length cap1] 25));have Qu:=yb hB;clear hB
 by_cases ho:oc=0
 case neg =>
  have en:(oc==0)=false:=by rw [yf];exact ho
  have en':(oc != 0)=true:=by simp only [bne,en,yj]
  rw [yg ho] at QB;obtain rfl:R=oc:=QB;clear ho HH HA Qv Zk HN Qk;generalize v.kind=k0 at *;generalize v.n=n0 at *;generalize mkB v.s=s0 at *;generalize v.l.length=l0 at *;go_enter Tryz.func57,Tryz.ntmps57
  go_wp2_with (go_at_call 99;refine (HO.out _ HW.out).mono ?_;rintro e w1 ⟨rfl,Qc⟩;have Qb:=yb Qc)
  go_ret;exact ⟨rfl,HW.out.trans (Qb.out.mono HW.out.size)⟩
 subst ho;rw [yh (by simp)] at QB
 by_cases hk:v.kind=6\/v.kind=7
 case neg =>
  rw [yh hk] at QB;subst QB
  have hb:(v.kind==6||v.kind==7)=false:=by
   simp only [Bool.or_eq_false_iff,yf];omega
  rw [hb] at HH;clear hk hb HA Qv Zk HN Qk;generalize v.kind=k0 at *;generalize v.n=n0 at *;generalize mkB v.s=s0 at *;generalize v.l.length=l0 at *;go_enter Tryz.func57,Tryz.ntmps57
  go_wp2_with (first|(go_at_call 99;refine (HO.out _ HW.out).mono ?_;rintro e w1 ⟨rfl,Qc⟩;have Qb:=yb Qc;obtain ⟨⟨c0,c1,c2,c3⟩,-⟩:=zad (zab Qc Qe.out);rw [Qu.out] at c0 c1 c2 c3)|(go_at_call 98;refine (HH.out _).mono ?_;rintro e w2 ⟨rfl,Qa⟩))
  all_goals
   go_ret;exact ⟨rfl,HW.out.trans ((Qb.out.trans (Qa.mono Qb.out.size)).mono HW.out.size)⟩
 rw [yg hk] at QB
 have hb:(v.kind==6||v.kind==7)=true:=by
  rcases hk with h|h<;>rw [h]<;>rfl
 rw [hb] at HH;have QD:=Zk;clear hk hb Zk;obtain ⟨la,QI⟩:∃la,la=v.l:=⟨_,rfl⟩;have Ql:=yb QI;rw [<-QI] at HH HO QD HA Qe HW m1 g1 QB |-;clear QI;have Zs:=yb QB;clear QB;generalize v.kind=k0 at *;generalize v.n=n0 at *;generalize mkB v.s=s0 at *;go_enter Tryz.func57,Tryz.ntmps57
 go_wp2_with (first|(go_at_call 99;refine (HO.out _ HW.out).mono ?_;rintro e w1 ⟨rfl,Qc⟩;have Qb:=yb Qc;have QE:=yb (zab Qc Qe.out);obtain ⟨⟨c0,c1,c2,c3⟩,-⟩:=zad QE.out;rw [Qu.out] at c0 c1 c2 c3)|(go_at_call 98;refine (HH.out _).mono ?_;rintro e w2 ⟨rfl,Qa⟩))
 have Zt:=yb (zab Qa QE.out);have Qp:=yb (HW.out.trans ((Qb.out.trans (Qa.mono Qb.out.size)).mono HW.out.size));rw [<-Qu.out];clear c0 c1 c2 c3 Qc Qa Qb HW Qe QE HO HH
 go_loopw [3,4] (fun ve vk wr=>∃(k:Nat),vk=.int .i64 k/\ve=.int .i64 0/\k<=la.length/\Hid (Below w.heap.size w wr)/\Hid (Below w2.heap.size w2 wr)/\Hid (R=zbt (la.drop k))) (fun _ vk _=>la.length-(intOf vk).toNat)
 case atStart=>exact ⟨0,rfl,rfl,Nat.zero_le _,Qp,Below.refl _ _,Zs⟩
 case round =>
  obtain ⟨k,rfl,rfl,hk,Zu,QZ,HV⟩:=hrel;obtain ⟨⟨c0,c1,c2,c3⟩,-⟩:=zad (zab QZ.out Zt.out)
  by_cases q1:k<la.length
  case neg =>
   have hd1:decide (k<la.length)=false:=ye q1;have YS:¬(k:Int)<(la.length:Int):=by omega
   have hv:=HV.out;rw [List.drop_eq_nil_of_le (by omega)] at hv;obtain rfl:R=0:=hv;clear HA Qv QD HV Zs;go_wp2;go_ret;exact ⟨rfl,Zu.out⟩
  obtain ⟨x,hx⟩:∃x,la[k]?=some x:=⟨_,List.getElem?_eq_getElem q1⟩;obtain ⟨-,-,-,b1,o1,rfl,-,-,QJ⟩:=(HA.out.below Zu.out).at (by omega);rw [<-Ql.out] at QJ;obtain ⟨sx,QK,x0,x1,x2,x3⟩:=QJ k x hx;have hlt:SizeOf.sizeOf x<SizeOf.sizeOf v:=Qk.out k x (by rw [<-Ql.out];exact hx);have hN:=HN.out;have Qw:=Qv.out x sx wr (by omega) (QD.out k x hx) QK;unfold pvA at Qw;obtain ⟨sa',sc',rfl,-,-,-⟩:=QK.len;have Qg:=yb Qw;have hv:=HV.out;rw [firstL_drop hx] at hv;have QV:=yb hv;clear Qw QK hlt hN QJ hx HA Qv Qk Ql HN QD HV Zs hv;have Zv:(0:Int)<=(k:Int):=by omega
  have Yf:(k:Int)<(la.length:Int):=by omega
  generalize zaK x=fc at *;go_wp2_with fail
  refine Qg.out.mono ?_;rintro e w4 ⟨rfl,Zl⟩;have Zm:=yo Zu Zl;have Yg:=yo QZ Zl;clear Zl x0 x1 x2 x3 c0 c1 c2 c3 Qg
  by_cases hf:fc=0
  ·subst hf
   have hv:=QV.out;rw [yh (by simp)] at hv;have Yh:=yb hv;clear hv QV;go_wp2
   go_roundw
   case rel=>exact ⟨k+1,by go_num,rfl,by omega,Zm,Yg,Yh⟩
   case measure=>simp [intOf];omega
  ·have en:(fc==0)=false:=by rw [yf];exact hf
   have en':(fc != 0)=true:=by simp only [bne,en,yj]
   have hv:=QV.out;rw [yg hf] at hv;obtain rfl:R=fc:=hv;clear QV hf;go_wp2;go_ret;exact ⟨rfl,Zm.out⟩
theorem rcheck11_any {v:PV} {sl:Value} {w:World} (hv:IsV w anyF v sl) (ht:txM 288230376151711744 v) (hd:zaZ v<=1000) :
  Calls Tryz.prog 27 #[pvA v sl] w fun e w'=>e=.returned (.int .i64 (zbG v))/\Below w.heap.size w w':=by
 have HD:=yb (fun (W:World) (h:Below w.heap.size w W)=>rdepth_any _ v sl W (yp _) hd (hv.below h));have HF:=yb (fun (W:World) (h1:Below w.heap.size w W)=>rfirst_any _ v sl W (yp _) ht (hv.below h1));obtain ⟨a1,cap1,rfl,g1,g2,g3⟩:=hv.len;have hr:zbG v=if 64<zaZ v then 15 else zaK v:=by unfold zbG;rfl
 rw [hr];unfold pvA at HD HF |-;have HW:=yb (zai w (.cells #[.int .i64 v.kind,.int .i64 v.n,.string (mkB v.s),.slice a1 v.l.length cap1] 25));have Qe:=yb (zac (w:=w) (.cells #[.int .i64 v.kind,.int .i64 v.n,.string (mkB v.s),.slice a1 v.l.length cap1] 25) rfl);clear hv hr ht;generalize v.kind=k0 at *;generalize v.n=n0 at *;generalize mkB v.s=s0 at *;generalize v.l.length=l0 at *;generalize zaZ v=d at *;generalize zaK v=fc at *
 by_cases h64:64<d
 ·rw [yg h64]
  have Zw:decide (64<(d:Int))=true:=yd (by omega);have QL:(64:Int)<(d:Int):=by omega
  clear HF;go_enter Tryz.func27,Tryz.ntmps27
  go_wp2_with (go_at_call 56;refine (HD.out _ HW.out).mono ?_;rintro e w1 ⟨rfl,Qc⟩;have Qb:=yo HW Qc;obtain ⟨⟨c0,c1,c2,c3⟩,-⟩:=zad (zab Qc Qe.out))
  go_ret;exact ⟨rfl,Qb.out⟩
 ·rw [yh h64]
  have Zw:decide (64<(d:Int))=false:=ye (by omega);have QL:¬(64:Int)<(d:Int):=by omega
  go_enter Tryz.func27,Tryz.ntmps27
  go_wp2_with (first|(go_at_call 56;refine (HD.out _ HW.out).mono ?_;rintro e w1 ⟨rfl,Qc⟩;have Qb:=yo HW Qc;obtain ⟨⟨c0,c1,c2,c3⟩,-⟩:=zad (zab Qc Qe.out))|(go_at_call 57;refine (HF.out _ Qb.out).mono ?_;rintro e w2 ⟨rfl,Qa⟩))
  go_ret;exact ⟨rfl,Qb.out.trans (Qa.mono Qb.out.size)⟩
theorem rmay_any (e:Ent) (w:World):Calls Tryz.prog 26 #[entA e] w fun x w'=>x=.returned (.bool (zbK e))/\Below w.heap.size w w':=by
 obtain ⟨a,g,u⟩:=e;unfold entA zbK;simp only
 by_cases h1:0<=a
 ·by_cases h2:a<=2147483647
  ·by_cases h3:0<=g
   ·go_enter Tryz.func26,Tryz.ntmps26
    go_wp2;go_ret;exact ⟨by simp [h1,h2,h3],zai w _⟩
   ·go_enter Tryz.func26,Tryz.ntmps26
    go_wp2;go_ret;exact ⟨by simp;omega,zai w _⟩
  ·go_enter Tryz.func26,Tryz.ntmps26
   go_wp2;go_ret;exact ⟨by simp;omega,zai w _⟩
 ·go_enter Tryz.func26,Tryz.ntmps26
  go_wp2;go_ret;exact ⟨by simp;omega,zai w _⟩
theorem zft {α:Type} {p:α->Bool} {l:List α} {c:Nat} {x:α} (hx:l[c]?=some x) (h:(l.take c).all p=true) (hp:p x=true):(l.take (c+1)).all p=true:=by
 rw [List.take_add_one,hx,List.all_append,h];simp [hp]
theorem zfO {α:Type} {p:α->Bool} {l:List α} {c:Nat} {x:α} (hx:l[c]?=some x) (hp:p x=false):l.all p=false:=by
 rw [Bool.eq_false_iff];intro h;rw [List.all_eq_true] at h;have:=h x (List.mem_of_getElem? hx);rw [hp] at this;cases this
theorem grp_bad1 {g:Grp} (h:g.first<0\/4097<g.first\/4097-g.first<(g.es.length:Int)):zcm g=false:=by
 unfold zcm;rw [Bool.eq_false_iff];intro h2;simp only [Bool.and_eq_true,decide_eq_true_eq] at h2;omega
theorem grp_bad2 {g:Grp} (h:g.es.all zbK=false):zcm g=false:=by unfold zcm;rw [h,Bool.and_false]
theorem grp_good {g:Grp} (h:¬(g.first<0\/4097<g.first\/4097-g.first<(g.es.length:Int))) (h2:g.es.all zbK=true):zcm g=true:=by
 unfold zcm;rw [h2];simp only [Bool.and_eq_true,decide_eq_true_eq,and_true];omega
theorem zfi {s:Sec} (h:zbR s=0):s.gs.length<=64/\s.gs.all zcm=true/\zbG s.tr=0/\s.tr.kind=7:=by
 unfold zbR at h
 split at h
 ·cases h
 ·rename_i h1
  split at h
  ·cases h
  ·rename_i h2
   exact ⟨by omega,by simpa using h2,h,by omega⟩
theorem rcheck15_any {s:Sec} {gv sl:Value} {w:World} (h:zcj w anyF s gv sl) (ht:txM 288230376151711744 s.tr) (hd:zaZ s.tr<=1000) :
  Calls Tryz.prog 9 #[secA s gv sl] w fun e w'=>e=.returned (.int .i64 (zbR s))/\Below w.heap.size w w':=by
 obtain ⟨gs,x⟩:=s;simp only at ht hd;obtain ⟨ga,gc,rfl,QW,QM,-⟩:=h.1.len;simp only at QW;have Qq:=yb (fun (W:World) (hb:Below w.heap.size w W)=>rcheck11_any (h.2.below hb) ht hd);have Qx:=yb (fun (W:World) (hb:Below w.heap.size w W)=>(h.1.below hb));obtain ⟨R,hR⟩:∃R,R=zbR ⟨gs,x⟩:=⟨_,rfl⟩;rw [<-hR];unfold zbR at hR;simp only at hR;have HR:=yb hR;unfold secA;simp only at Qx |-;obtain ⟨sa,sc,rfl,-,-,-⟩:=h.2.len;simp only at Qq |-;unfold pvA at Qq;clear h ht hd hR;have Q0:(gs.length:Int)<=9223372036854775807:=by unfold maxLen at QM;omega
 generalize zbG x=cc at *;generalize x.kind=xk at *;generalize x.n=xn at *;generalize mkB x.s=xb at *;generalize x.l.length=xl at *;obtain ⟨B,hB⟩:∃B,B=w.heap.size:=⟨_,rfl⟩;have Qb:=yb (zai w (.cells #[.slice ga gs.length gc,.int .i64 xk,.int .i64 xn,.string xb,.slice sa xl sc] 27));have Qe:=yb (zac (w:=w) (b:=B) (.cells #[.slice ga gs.length gc,.int .i64 xk,.int .i64 xn,.string xb,.slice sa xl sc] 27) hB);go_enter Tryz.func9,Tryz.ntmps9
 go_upto_region 1 with fail
 try rw [<-hB]
 clear hB;generalize World.alloc _ _=W1 at *;obtain ⟨⟨x0,x1,x2,x3,x4⟩,-⟩:=zaW Qe.out
 by_cases h64:64<gs.length
 ·have hd1:decide (64<gs.length)=true:=yd h64
  have Q1:decide ((64:Int)<gs.length)=true:=yd (by omega);have hr:=HR.out;rw [yg (.inl h64)] at hr;subst hr;clear HR Qq Qx;go_wp2;go_ret;exact ⟨rfl,Qb.out⟩
 have hd1:decide (64<gs.length)=false:=ye h64;have Q1:decide ((64:Int)<gs.length)=false:=ye (by omega)
 by_cases hk:xk=7
 case neg =>
  have QN:(xk==7)=false:=by rw [yf];exact hk
  have Zx:(xk != 7)=true:=by simp only [bne,QN,yj]
  have hr:=HR.out;rw [yg (.inr hk)] at hr;subst hr;clear HR Qq Qx;go_wp2;go_ret;exact ⟨rfl,Qb.out⟩
 have QN:(xk==7)=true:=by rw [beq_iff_eq];exact hk
 have Zx:(xk != 7)=false:=by simp only [bne,QN,Bool.not_true]
 have hr:=HR.out;rw [yh (by omega)] at hr;have Qm:=yb hr;clear hr HR h64 hk;go_wp2_with fail
 clear x0 x1 x2 x3 x4
 go_loopw [3] (fun v wr=>∃c:Nat,v=.int .i64 c/\c<=gs.length/\Hid (Below W1.heap.size W1 wr)/\Hid ((gs.take c).all zcm=true)) (fun v _=>gs.length-(intOf v).toNat)
 case atStart=>exact ⟨0,rfl,Nat.zero_le _,yb (Below.refl _ _),yb rfl⟩
 case round =>
  obtain ⟨c,rfl,hc,HW,HA⟩:=hrel;have HB:=yb (Qb.out.trans (HW.out.mono Qb.out.size));have HX:=yb (zab HW.out Qe.out);obtain ⟨⟨x0,x1,x2,x3,x4⟩,-⟩:=zaW HX.out
  by_cases hlt:c<gs.length
  case neg =>
   have Zy:c=gs.length:=by omega
   subst Zy;have QO:decide ((gs.length:Int)<(gs.length:Int))=false:=ye (by omega);have Qi:decide (gs.length<gs.length)=false:=ye (by omega);have ha:=HA.out;rw [List.take_length] at ha;have hr:=Qm.out;rw [yh (by rw [ha];decide)] at hr;subst hr;have HC:=yb (Qq.out wr HB.out);clear ha HA Qm Qx Qq;go_wp2_with fail
   refine HC.out.mono ?_;rintro e w3 ⟨rfl,hb⟩;have Q2:=yo HB hb;clear hb;go_wp2;go_ret;exact ⟨rfl,Q2.out⟩
  have QO:decide ((c:Int)<(gs.length:Int))=true:=yd (by omega);have Qi:decide (c<gs.length)=true:=yd (by omega);have Yi:(c:Int)<(gs.length:Int):=by omega
  obtain ⟨-,-,-,b,off,ha,-,-,Qn⟩:=(Qx.out wr HB.out).at (by omega);subst ha;obtain ⟨g,hg⟩:∃g,gs[c]?=some g:=⟨_,List.getElem?_eq_getElem hlt⟩;obtain ⟨v,hv,g0,g1⟩:=Qn c g hg;obtain ⟨ea,ec,rfl,Zz,QX,-⟩:=hv.len;have Qd:=yb (fun h1 h2=>zft hg HA.out (grp_good h1 h2));have Qf:=yb (fun h=>Qm.out.trans (yg (zfO hg (grp_bad1 h))));have Qh:=yb (fun h=>Qm.out.trans (yg (zfO hg (grp_bad2 h))));have Q3:=yb hv;have QP:(g.es.length:Int)<=9223372036854775807:=by unfold maxLen at QX;omega
  clear Qn hv hg HA;obtain ⟨gf,ge⟩:=g;simp only at *;have QY:=yb (HW.out.alloc HW.out.size (.cells #[.int .i64 gf,.slice ea ge.length ec] 58));have Zn:=yb (zac (w:=wr) (.cells #[.int .i64 gf,.slice ea ge.length ec] 58) rfl);have ZA:=yb (Q3.out.below (zai wr (.cells #[.int .i64 gf,.slice ea ge.length ec] 58)))
  go_upto_region 7 with fail
  clear x0 x1 x2 x3 x4 Q3 HX g0 g1;generalize wr.heap.size=G at *;generalize World.alloc _ _=W2 at *;obtain ⟨⟨y0,y1⟩,-⟩:=zbL Zn.out;have Qu:=yb (Qb.out.trans (QY.out.mono Qb.out.size))
  by_cases h1:gf<0
  ·have e1:decide (gf<0)=true:=yd h1
   have hr:=Qf.out (.inl h1);subst hr;clear Qm Qf Qh Qd;go_wp2;go_ret;exact ⟨rfl,Qu.out⟩
  have e1:decide (gf<0)=false:=ye h1
  by_cases h2:4097<gf
  ·have e2:decide (4097<gf)=true:=yd h2
   have hr:=Qf.out (.inr (.inl h2));subst hr;clear Qm Qf Qh Qd;go_wp2;go_ret;exact ⟨rfl,Qu.out⟩
  have e2:decide (4097<gf)=false:=ye h2;have YT:IntKind.i64.wrap (4097-gf)=4097-gf:=IntWalk.i64_in _ (by omega)
  by_cases h3:4097-gf<(ge.length:Int)
  ·have e3:decide (4097-gf<(ge.length:Int))=true:=yd h3
   have hr:=Qf.out (.inr (.inr h3));subst hr;clear Qm Qf Qh Qd;go_wp2;go_ret;exact ⟨rfl,Qu.out⟩
  have e3:decide (4097-gf<(ge.length:Int))=false:=ye h3;have Qj:=yb (Qd.out (by omega));clear Qd Qf h1 h2 h3;go_wp2_with fail
  clear y0 y1
  go_loopw [5] (fun v wq=>∃j:Nat,v=.int .i64 j/\j<=ge.length/\Hid (Below W2.heap.size W2 wq)/\Hid ((ge.take j).all zbK=true)) (fun v _=>ge.length-(intOf v).toNat)
  case atStart=>exact ⟨0,rfl,Nat.zero_le _,yb (Below.refl _ _),yb rfl⟩
  case round =>
   obtain ⟨j,rfl,hj,Zo,HE⟩:=hrel;obtain ⟨⟨y0,y1⟩,-⟩:=zbL (zab Zo.out Zn.out)
   by_cases hjl:j<ge.length
   case neg =>
    have ZB:j=ge.length:=by omega
    subst ZB;have Yj:decide ((ge.length:Int)<(ge.length:Int))=false:=ye (by omega);have ZC:decide (ge.length<ge.length)=false:=ye (by omega);have he:=HE.out;rw [List.take_length] at he;have Q4:=yb (Qj.out he);have Qp:=yb (QY.out.trans (Zo.out.mono QY.out.size));clear he HE Qj Qh;go_wp2
    go_roundw
    case rel=>exact ⟨c+1,by go_num,by omega,Qp,Q4⟩
    case measure=>simp [intOf];omega
   have Yj:decide ((j:Int)<(ge.length:Int))=true:=yd (by omega);have ZC:decide (j<ge.length)=true:=yd (by omega);have YU:(j:Int)<(ge.length:Int):=by omega
   obtain ⟨-,-,-,be,oe,Q5,Yk,-,Q6⟩:=(ZA.out.below Zo.out).at (by omega);subst Q5;obtain ⟨ee,QC⟩:∃ee,ge[j]?=some ee:=⟨_,List.getElem?_eq_getElem hjl⟩;obtain ⟨z0,z1,z2⟩:=Q6 j ee QC;have HU:=yb (fun h=>zft QC HE.out h);have HV:=yb (fun h=>Qh.out (zfO QC h));have HM:=yb (fun W=>rmay_any ee W);clear Q6 QC HE Qj Qh;unfold entA at HM;obtain ⟨eat,egen,eus⟩:=ee;simp only at *;generalize zbK ⟨eat,egen,eus⟩=ok at *;go_wp2_with fail
   refine (HM.out _).mono ?_;rintro e w3 ⟨rfl,hb⟩;have Q7:=yo Zo hb;clear hb HM y0 y1 z0 z1 z2
   cases ok
   ·have hr:=HV.out rfl
    subst hr;clear HV HU Qm;go_wp2;go_ret;exact ⟨rfl,Qu.out.trans (Q7.out.mono Qu.out.size)⟩
   ·have QQ:=yb (HU.out rfl)
    clear HV HU;go_wp2
    go_roundw
    case rel=>exact ⟨j+1,by go_num,by omega,Q7,QQ⟩
    case measure=>simp [intOf];omega
structure SmM (w W:World) (B1 B2:Nat) (c1 c2:Array Value):Prop where
 bel:Below w.heap.size w W
 one:W.heap[B1]?=some (.cells c1 27 (0,0))
 two:W.heap[B2]?=some (.cells c2 27 (0,0))
theorem SmM.on {w W W':World} {B1 B2:Nat} {c1 c2:Array Value} (h:SmM w W B1 B2 c1 c2) (hb:Below W.heap.size W W'):SmM w W' B1 B2 c1 c2 :=
 ⟨h.bel.trans (hb.mono h.bel.size),zab hb h.one,zab hb h.two⟩
structure GgM (W W':World) (b1 b2:Nat) (c1 c2:Array Value):Prop where
 bel:Below W.heap.size W W'
 one:W'.heap[b1]?=some (.cells c1 58 (0,0))
 two:W'.heap[b2]?=some (.cells c2 58 (0,0))
theorem GgM.on {w W W':World} {B1 B2:Nat} {c1 c2:Array Value} (h:GgM w W B1 B2 c1 c2) (hb:Below W.heap.size W W'):GgM w W' B1 B2 c1 c2 :=
 ⟨h.bel.trans (hb.mono h.bel.size),zab hb h.one,zab hb h.two⟩
theorem dsame_eq {w:World} {F G:Nat->Prop} {s:Sec} {gv sl gv' sl':Value} (h:zcj w F s gv sl) (h':zcj w G s gv' sl') :
  Calls Tryz.prog 12 #[secA s gv sl,secA s gv' sl'] w fun e w'=>e=.returned (.bool true)/\Below w.heap.size w w':=by
 obtain ⟨gs,x⟩:=s;obtain ⟨ga,gc,rfl,QW,QM,-⟩:=h.1.len;obtain ⟨ga',gc',rfl,-,ZD,-⟩:=h'.1.len;obtain ⟨sa,sc,rfl,-,-,-⟩:=h.2.len;obtain ⟨sa',sc',rfl,-,-,-⟩:=h'.2.len;simp only at h h' QW QM;have ZT:=yb (fun (W:World) (hb:Below w.heap.size w W)=>h.1.below hb);have ZU:=yb (fun (W:World) (hb:Below w.heap.size w W)=>h'.1.below hb);have Qk:=yb (fun (W:World) (hb:Below w.heap.size w W)=>same_any (h.2.below hb) (h'.2.below hb));simp only [zfe,pvA] at Qk;have Q0:(gs.length:Int)<=9223372036854775807:=by unfold maxLen at QM;omega
 unfold secA;simp only at ZT ZU |-;clear h h' ZD QM QW;generalize x.kind=xk at *;generalize x.n=xn at *;generalize mkB x.s=xb at *;generalize x.l.length=xl at *;obtain ⟨B,hB⟩:∃B,B=w.heap.size:=⟨_,rfl⟩
 have Q8:=yb (show SmM w ((w.alloc (.cells #[.slice ga gs.length gc,.int .i64 xk,.int .i64 xn,.string xb,.slice sa xl sc] 27)).alloc (.cells #[.slice ga' gs.length gc',.int .i64 xk,.int .i64 xn,.string xb,.slice sa' xl sc'] 27)) B (B+1) #[.slice ga gs.length gc,.int .i64 xk,.int .i64 xn,.string xb,.slice sa xl sc] #[.slice ga' gs.length gc',.int .i64 xk,.int .i64 xn,.string xb,.slice sa' xl sc'] from
  ⟨za6 w _ _,zal _ (zac _ hB),zac _ (by rw [zaq,hB])⟩)
 have YV:((gs.length:Int) != gs.length)=false:=by simp
 go_enter Tryz.func12,Tryz.ntmps12
 go_upto_region 1 with fail
 try rw [<-hB]
 generalize World.alloc _ _=W1 at *;clear hB;generalize B+1=B2 at *;obtain ⟨⟨a0,a1,a2,a3,a4⟩,-⟩:=zaW Q8.out.one;obtain ⟨⟨b0,b1,b2,b3,b4⟩,-⟩:=zaW Q8.out.two;go_wp2_with (go_at_call 36;refine (Qk.out _ Q8.out.bel).mono ?_;rintro e w2 ⟨rfl,Qa⟩;have Yl:=yb (Q8.out.on Qa);clear Qa a0 a1 a2 a3 a4 b0 b1 b2 b3 b4 Q8)
 go_loopw [5] (fun v wr=>∃c:Nat,v=.int .i64 c/\c<=gs.length/\Hid (SmM w wr B B2 #[.slice ga gs.length gc,.int .i64 xk,.int .i64 xn,.string xb,.slice sa xl sc] #[.slice ga' gs.length gc',.int .i64 xk,.int .i64 xn,.string xb,.slice sa' xl sc'])) (fun v _=>gs.length-(intOf v).toNat)
 case atStart=>exact ⟨0,rfl,Nat.zero_le _,Yl⟩
 case round =>
  obtain ⟨c,rfl,hc,HM⟩:=hrel;obtain ⟨⟨a0,a1,a2,a3,a4⟩,-⟩:=zaW HM.out.one;obtain ⟨⟨b0,b1,b2,b3,b4⟩,-⟩:=zaW HM.out.two
  by_cases hlt:c<gs.length
  case neg =>
   have QO:decide ((c:Int)<(gs.length:Int))=false:=ye (by omega);have Qi:decide (c<gs.length)=false:=ye (by omega);go_wp2;go_ret;exact ⟨rfl,HM.out.bel⟩
  have QO:decide ((c:Int)<(gs.length:Int))=true:=by simp;omega
  have Qi:decide (c<gs.length)=true:=by simp;omega
  obtain ⟨-,-,-,b,off,ha,-,-,Qn⟩:=(ZT.out wr HM.out.bel).at (by omega);obtain ⟨-,-,-,b',off',Ym,-,-,Qy⟩:=(ZU.out wr HM.out.bel).at (by omega);subst ha;subst Ym;obtain ⟨g,hg⟩:∃g,gs[c]?=some g:=⟨_,List.getElem?_eq_getElem hlt⟩;obtain ⟨v,hv,g0,g1⟩:=Qn c g hg;obtain ⟨v',QR,g0',g1'⟩:=Qy c g hg;obtain ⟨ea,ec,rfl,Zz,QX,-⟩:=hv.len;obtain ⟨ea',ec',rfl,ZE,ZF,-⟩:=QR.len;have Yn:=yb (fun (W:World) (hb:Below wr.heap.size wr W)=>hv.below hb);have QQ:=yb (fun (W:World) (hb:Below wr.heap.size wr W)=>QR.below hb);have QP:(g.es.length:Int)<=9223372036854775807:=by unfold maxLen at QX;omega
  have YW:(c:Int)<(gs.length:Int):=by omega
  clear Qn Qy hv QR hg Zz ZE QX ZF;obtain ⟨gf,ge⟩:=g;simp only at *
  go_upto_region 6 with fail
  go_cut [6,7] from 24 to 104 (fun v6 v7 wx=>∃q1 q2,v6=.pointer (some ⟨q1,0,none⟩)/\v7=.pointer (some ⟨q2,0,none⟩)/\Hid (GgM wr wx q1 q2 #[.int .i64 gf,.slice ea ge.length ec] #[.int .i64 gf,.slice ea' ge.length ec']))
  case first =>
   clear a1 a2 a3 a4 b1 b2 b3 b4;have e0:=cell?_keep (Below.refl _ wr).drew a0;have e1:=cell?_keep (Below.refl _ wr).drew b0;have e2:=cell?_keep (Below.refl _ wr).drew g0;have e3:=cell?_keep (Below.refl _ wr).drew g1;have e4:=cell?_keep (Below.refl _ wr).drew g0';have e5:=cell?_keep (Below.refl _ wr).drew g1'
   go_region_held3 (fun w'=>w'.cell? ⟨B,0,none⟩=some (.slice (some ⟨b,off,none⟩) gs.length gc)/\w'.cell? ⟨B2,0,none⟩=some (.slice (some ⟨b',off',none⟩) gs.length gc')/\w'.cell? ⟨b,off+c*2,none⟩=some (.int .i64 gf)/\w'.cell? ⟨b,off+c*2+1,none⟩=some (.slice ea ge.length ec)/\w'.cell? ⟨b',off'+c*2,none⟩=some (.int .i64 gf)/\w'.cell? ⟨b',off'+c*2+1,none⟩=some (.slice ea' ge.length ec')) (go_keep) (fail)
   all_goals (try go_wp2_with fail)
   all_goals go_meet
   ·exact ⟨_,_,rfl,rfl,yb ⟨(za6 wr _ _).drew,zal _ (zac _ rfl),zac _ (by rw [zaq])⟩⟩
   ·exact ⟨_,_,rfl,rfl,yb ⟨(za6 wr _ _).drew,zac _ (by rw [zaq]),zal _ (zac _ rfl)⟩⟩
  case rest =>
  obtain ⟨q1,q2,rfl,rfl,Zp⟩:=hcut;have Yo:=yb (HM.out.on Zp.out.bel);clear HM a0 a1 a2 a3 a4 b0 b1 b2 b3 b4 g0 g1 g0' g1';obtain ⟨⟨g0,g1⟩,-⟩:=zbL Zp.out.one;obtain ⟨⟨g0',g1'⟩,-⟩:=zbL Zp.out.two;have YX:(gf != gf)=false:=by simp
  have QC:((ge.length:Int) != ge.length)=false:=by simp
  go_wp2_with fail
  clear g0 g1 g0' g1'
  go_loopw [8] (fun v wr2=>∃d:Nat,v=.int .i64 d/\d<=ge.length/\Hid (SmM w wr2 B B2 #[.slice (some ⟨b,off,none⟩) gs.length gc,.int .i64 xk,.int .i64 xn,.string xb,.slice sa xl sc] #[.slice (some ⟨b',off',none⟩) gs.length gc',.int .i64 xk,.int .i64 xn,.string xb,.slice sa' xl sc'])/\Hid (GgM wr wr2 q1 q2 #[.int .i64 gf,.slice ea ge.length ec] #[.int .i64 gf,.slice ea' ge.length ec'])) (fun v _=>ge.length-(intOf v).toNat)
  case atStart=>exact ⟨0,rfl,Nat.zero_le _,Yo,Zp⟩
  case round =>
   obtain ⟨d,rfl,hd,ZV,Q9⟩:=hrel;obtain ⟨⟨g0,g1⟩,-⟩:=zbL Q9.out.one;obtain ⟨⟨g0',g1'⟩,-⟩:=zbL Q9.out.two
   by_cases hle:d<ge.length
   case neg =>
    have Zw:decide ((d:Int)<(ge.length:Int))=false:=ye (by omega);have QL:decide (d<ge.length)=false:=ye (by omega);go_wp2
    go_roundw
    case rel=>exact ⟨c+1,by go_num,by omega,ZV⟩
    case measure=>simp [intOf];omega
   have Zw:decide ((d:Int)<(ge.length:Int))=true:=by simp;omega
   have QL:decide (d<ge.length)=true:=by simp;omega
   have YY:(d:Int)<(ge.length:Int):=by omega
   obtain ⟨-,-,-,be,oe,Q5,-,-,Qn⟩:=(Yn.out wr Q9.out.bel).at (by omega);obtain ⟨-,-,-,be',oe',ZG,-,-,Qy⟩:=(QQ.out wr Q9.out.bel).at (by omega);subst Q5;subst ZG;obtain ⟨ee,QS⟩:∃ee,ge[d]?=some ee:=⟨_,List.getElem?_eq_getElem hle⟩;obtain ⟨e0,e1,e2⟩:=Qn d ee QS;obtain ⟨e0',e1',e2'⟩:=Qy d ee QS;clear Qn Qy QS;obtain ⟨na,ng,nu⟩:=ee;simp only at *;have YZ:(na != na)=false:=by simp
   have Y0:(ng != ng)=false:=by simp
   have Y1:(nu != nu)=false:=by simp
   have Q2:=yb (fun q=>ZV.out.on (zag (Below.refl _ _) q));have Za:=yb (fun q=>Q9.out.on (zag (Below.refl _ _) q))
   go_upto_region 12 with fail
   go_quiet (fail)
   go_wp2_with fail
   go_roundw
   case rel=>exact ⟨d+1,by go_num,by omega,Q2.out _,Za.out _⟩
   case measure=>simp [intOf];omega
theorem xmay_any (e:Ent) (w:World):Calls Tryz.prog 38 #[entA e] w fun x w'=>x=.returned (.bool (zbK e))/\Below w.heap.size w w':=by
 obtain ⟨a,g,u⟩:=e;unfold entA zbK;simp only
 by_cases h1:0<=a
 ·by_cases h2:a<=2147483647
  ·by_cases h3:0<=g
   ·go_enter Tryz.func38,Tryz.ntmps38
    go_wp2;go_ret;exact ⟨by simp [h1,h2,h3],zai w _⟩
   ·go_enter Tryz.func38,Tryz.ntmps38
    go_wp2;go_ret;exact ⟨by simp;omega,zai w _⟩
  ·go_enter Tryz.func38,Tryz.ntmps38
   go_wp2;go_ret;exact ⟨by simp;omega,zai w _⟩
 ·go_enter Tryz.func38,Tryz.ntmps38
  go_wp2;go_ret;exact ⟨by simp;omega,zai w _⟩
theorem pad_is {n d:Int} (h0:0<=n) (h1:1<=d) (h2:d<=20) (h3:((decL n.toNat).length:Int)<=d):padV n d=(padL n.toNat d.toNat,0):=by
 unfold padV;rw [yh (by omega)]
theorem zds (a b:List UInt8):mkB a++mkB b=mkB (a++b):=ByteArray.mk_append_mk a b
def entR (e:Ent):List UInt8×Int:=if zbK e=true then (entL e,0) else ([],2)
theorem xent_any (e:Ent) (w:World):Calls Tryz.prog 15 #[entA e] w fun x w'=>x=.returned (.tuple #[.string (mkB (entR e).1),.int .i64 (entR e).2])/\Below w.heap.size w w':=by
 have HM:=yb (fun (W:World)=>xmay_any e W);have Zb:=yb (fun (W:World) (h:zbK e=true)=>pad_any e.at_ 10 W (by have:=(zbx.1 h);omega) (by have:=(zbx.1 h);omega) (by decide) (by decide));have Zc:=yb (fun (W:World) (h:zbK e=true)=>pad_any e.gen 5 W (by have:=(zbx.1 h);omega) (by have:=(zbx.1 h);omega) (by decide) (by decide));have HA:=yb (fun (h:zbK e=true)=>pad_is (n:=e.at_) (d:=10) (by have:=(zbx.1 h);omega) (by decide) (by decide) (by have:=(zbx.1 h);have:=zbs 9 e.at_.toNat (by omega);omega));have HG:=yb (fun (h:zbK e=true)=>pad_is (n:=e.gen) (d:=5) (by have:=(zbx.1 h);omega) (by decide) (by decide) (by have:=(zbx.1 h);have:=zbs 4 e.gen.toNat (by omega);omega));have Ql:=yb (fun (h:zbK e=true)=>show (padL e.at_.toNat 10).length<=20 by have:=(zbx.1 h);have:=zbs 9 e.at_.toNat (by omega);rw [zdK (by omega)];omega);have Zq:=yb (fun (h:zbK e=true)=>show (padL e.gen.toNat 5).length<=20 by have:=(zbx.1 h);have:=zbs 4 e.gen.toNat (by omega);rw [zdK (by omega)];omega);unfold PadEnd at Zb Zc;unfold entR entL entB;unfold entA at HM |-;obtain ⟨ea,eg,eu⟩:=e;simp only at Zb Zc HA HG HM Ql Zq |-;have Qb:=yb (zai w (.cells #[.int .i64 ea,.int .i64 eg,.bool eu] 45));have Qe:=yb (zac (w:=w) (b:=w.heap.size) (.cells #[.int .i64 ea,.int .i64 eg,.bool eu] 45) rfl)
 cases hok:zbK ⟨ea,eg,eu⟩ with
 | false =>
  rw [hok] at HM;simp only [Bool.false_eq_true,if_false];clear Zb Zc HA HG hok;go_enter Tryz.func15,Tryz.ntmps15
  go_upto_region 1 with fail
  generalize w.alloc _=W1 at *;obtain ⟨⟨x0,x1,x2⟩,-⟩:=zcL Qe.out;go_wp2_with (go_at_call 38;refine (HM.out _).mono ?_;rintro e w2 ⟨rfl,Qa⟩;have Zd:=yo Qb Qa)
  go_ret2;exact ⟨rfl,Zd.out⟩
 | true =>
  rw [hok] at HM;rw [yg rfl];have Qr:=yb (fun W=>Zb.out W hok);have Qs:=yb (fun W=>Zc.out W hok);replace Ql:=yb (Ql.out hok);replace Zq:=yb (Zq.out hok);rw [HA.out hok] at Qr;rw [HG.out hok] at Qs;clear Zb Zc HA HG hok;simp only at Qr Qs |-;have ZH:=yb (show ∀c:UInt8,mkB ((padL ea.toNat 10++(32::(padL eg.toNat 5++[32,c,32])))++[10])=mkB (padL ea.toNat 10)++mkB [32]++mkB (padL eg.toNat 5)++mkB [32,c,32,10] from fun c=>by rw [zds,zds,zds];congr 1;simp);rw [ZH.out];rw [show (10:Int).toNat=10 from rfl] at Qr;rw [show (5:Int).toNat=5 from rfl] at Qs;unfold mkS at Qr Qs;rw [show (⟨(padL ea.toNat 10).toArray⟩:ByteArray)=mkB (padL ea.toNat 10) from rfl] at Qr;rw [show (⟨(padL eg.toNat 5).toArray⟩:ByteArray)=mkB (padL eg.toNat 5) from rfl] at Qs;have Y2:(mkB (padL ea.toNat 10)).size<=20:=by rw [zaR];have:=Ql.out;omega
  have Y3:(mkB (padL eg.toNat 5)).size<=20:=by rw [zaR];have:=Zq.out;omega
  generalize mkB (padL ea.toNat 10)=pa at *;generalize mkB (padL eg.toNat 5)=pg at *;clear ZH;go_enter Tryz.func15,Tryz.ntmps15
  go_upto_region 1 with fail
  generalize w.alloc _=W1 at *;obtain ⟨⟨x0,x1,x2⟩,-⟩:=zcL Qe.out;go_wp2_with fail
  refine (HM.out _).mono ?_;rintro e w2 ⟨rfl,Qa⟩;have Zd:=yo Qb Qa;have QE:=yb (zab Qa Qe.out);clear Qe Qb Qa x0 x1 x2;obtain ⟨⟨x0,x1,x2⟩,-⟩:=zcL QE.out
  cases eu
  all_goals
   go_wp2_with (first
    |(go_at_call_of 39 (Value.int .i64 10);refine (Qr.out _).mono ?_;rintro e w3 ⟨rfl,q3,rfl⟩)
    |(go_at_call 39;refine (Qs.out _).mono ?_;rintro e w4 ⟨rfl,q4,rfl⟩))
   go_ret2;exact ⟨rfl,zag Zd.out _⟩
mutual
theorem IsV.ltS {w:World} {F:Nat->Prop}:∀(v:PV) {sl:Value},IsV w F v sl->IsV w (fun b=>F b/\b<w.heap.size) v sl
 | .mk _ _ _ l,_,⟨a,cap,cs,h,hr,hF,hs⟩=>⟨a,cap,cs,h,hr,fun h0 x hx=>⟨hF h0 x hx,by
   obtain ⟨b,off,ha,hb,_⟩:=hr.2.2.2.2 h0;rw [ha] at hx
   cases hx
   exact hb⟩,IsVs.ltS l hs⟩
theorem IsVs.ltS {w:World} {F:Nat->Prop}:∀(l:List PV) {cs:List Value},IsVs w F l cs->IsVs w (fun b=>F b/\b<w.heap.size) l cs
 | [],_,h=>h
 | v::l,_,⟨sl,t,h,hv,ht⟩=>⟨sl,t,h,IsV.ltS v hv,IsVs.ltS l ht⟩
end
theorem firstL_take {l:List PV} {k:Nat} {x:PV} (hx:l[k]?=some x) (h:zbt (l.take k)=0):zbt (l.take (k+1))=zaK x:=by
 induction l generalizing k with
 | nil=>cases hx
 | cons y l ih =>
  cases k with
  | zero =>
   have:y=x:=by simpa using hx
   subst this;simp only [List.take_succ_cons,List.take_zero,zbt]
   split
   ·rfl
   ·rename_i e
    have e2:zaK y=0:=by simpa using e
    rw [e2]
  | succ k =>
   rw [List.take_succ_cons] at h |-;simp only [zbt] at h |-
   by_cases e:zaK y=0
   ·rw [yh (by simpa using e)] at h |-
    exact ih (by simpa using hx) h
   ·rw [yg e] at h;exact absurd h e
theorem firstL_bad {l:List PV} {k:Nat} {x:PV} (hx:l[k]?=some x) (h:zbt (l.take k)=0) (he:zaK x≠0):zbt l=zaK x:=by
 induction l generalizing k with
 | nil=>cases hx
 | cons y l ih =>
  cases k with
  | zero =>
   have:y=x:=by simpa using hx
   subst this;simp only [zbt];rw [yg he]
  | succ k =>
   rw [List.take_succ_cons] at h;simp only [zbt] at h |-
   by_cases e:zaK y=0
   ·rw [yh (by simpa using e)] at h |-
    exact ih (by simpa using hx) h
   ·rw [yg e] at h;exact absurd h e
theorem zb1 {w:World} {b:Nat} {o:Obj} (h:w.heap[b]?=some o):b<w.heap.size:=(Array.getElem?_eq_some_iff.1 h).1
theorem keepsB {w w':World} {S:Nat->Prop} (h:Below w.heap.size w w'):zak S w w':=⟨h.os,h.tape,h.output,h.size,fun b hb _=>h.block b hb⟩
structure ErrM (w w':World) (p:Nat) (e:Int):Prop where
 blk:w'.heap[p]?=some (.cells #[.int .i64 e] 31 (0,0))
 keeps:zak (fun b=>b=p) w w'
theorem check1_any {v:PV} {sl:Value} {w:World} {p:Nat} {e0:Int} (hv:IsV w (fun b=>b≠p) v sl) (hb:w.heap[p]?=some (.cells #[.int .i64 e0] 31 (0,0))) :
  Calls Tryz.prog 77 #[pvA v sl,.pointer (some ⟨p,0,none⟩)] w fun e w'=>e=.returned (.bool (ownC v==0))/\ErrM w w' p (ownC v):=by
 have HO:=yb (fun (W:World) (h:Below w.heap.size w W)=>vown_any (hv.any.below h));obtain ⟨a1,cap1,e1,-,-,-⟩:=hv.len;subst e1;unfold pvA at HO |-;generalize ownC v=oc at *;generalize v.kind=k0 at *;generalize v.n=n0 at *;generalize mkB v.s=s0 at *;generalize v.l.length=m at *;clear hv;go_enter Tryz.func77,Tryz.ntmps77
 obtain ⟨B,hB⟩:∃B,B=w.heap.size:=⟨_,rfl⟩;have ZI:=zai w (.cells #[.int .i64 k0,.int .i64 n0,.string s0,.slice a1 m cap1] 25);have Qe:=yb (zac (w:=w) (b:=B) (.cells #[.int .i64 k0,.int .i64 n0,.string s0,.slice a1 m cap1] 25) hB);have Yp:=yb (zab ZI hb);have HW:=yb ZI;clear ZI hb
 go_upto_region 1 with fail
 rw [<-hB];clear hB;generalize w.alloc _=W1 at *;obtain ⟨⟨c0,c1,c2,c3⟩,-⟩:=zad Qe.out;go_wp2_with fail
 refine (HO.out _ HW.out).mono ?_;rintro e w2 ⟨rfl,Qa⟩;have ZJ:=yb (zab Qa Yp.out);have Qp:=yo HW Qa;clear Qa c0 c1 c2 c3;have p0:w2.cell? ⟨p,0,none⟩=some (.int .i64 e0):=by rw [cell_of_row w2 p 0 _ _ _ ZJ.out];rfl
 have pf:w2.frozen? ⟨p,0,none⟩=false:=frozen_of_row w2 p 0 _ _ ZJ.out;have HE:=yb (show ErrM w (w2.setCell ⟨p,0,none⟩ (.int .i64 oc)) p oc from ⟨by rw [heap_setCell_same w2 p 0 _ _ _ ZJ.out];rfl,(keepsB (S:=fun b=>b=p) Qp.out).setCell (a:=⟨p,0,none⟩) (.inl rfl) _⟩)
 go_upto_region 2 with fail
 have q0:(w2.setCell ⟨p,0,none⟩ (.int .i64 oc)).cell? ⟨p,0,none⟩=some (.int .i64 oc):=by rw [cell_of_row _ p 0 _ _ _ HE.out.blk];rfl
 clear p0 pf;generalize w2.setCell _ _=W3 at *;go_wp2;go_ret;exact ⟨rfl,HE.out⟩
theorem ErrM.trans {w w1 w2:World} {p:Nat} {e2:Int} (h:zak (fun b=>b=p) w w1) (k:ErrM w1 w2 p e2):ErrM w w2 p e2:=⟨k.blk,h.trans k.keeps fun _ hb=>.inl hb⟩
theorem IsV.err {w w':World} {p:Nat} {v:PV} {sl:Value} (h:IsV w (fun b=>b≠p) v sl) (k:zak (fun b=>b=p) w w'):IsV w' (fun b=>b≠p) v sl:=IsV.keep ⟨k.size,fun b hb hf=>k.block b hb hf⟩ (fun _ h=>h) v h
theorem walk_any (p:Nat):∀(N:Nat) (v:PV) (sl:Value) (w:World),SizeOf.sizeOf v<=N->IsV w (fun b=>b≠p) v sl->w.heap[p]?=some (.cells #[.int .i64 0] 31 (0,0)) ->
  Calls Tryz.prog 76 #[pvA v sl,.func (.func 77) #[] #[.pointer (some ⟨p,0,none⟩)]] w fun e w'=>e=.returned (.bool (zaK v==0))/\ErrM w w' p (zaK v):=by
 intro N
 induction N with
 | zero=>intro v sl w h;obtain ⟨_,_,_,_⟩:=v;simp at h
 | succ N ih =>
 intro v sl w hN hv hb;have eg:=enters_of Tryz.func77 (by kernel_rfl) rfl;obtain ⟨a1,cap1,e1,g1,g2,g3⟩:=hv.len;subst e1;have HA:=yb hv;have Qv:=yb ih;have HN:=yb hN;have Qk:=yb (fun (k:Nat) (x:PV) (h:v.l[k]?=some x)=>zb3 h);have m1:(v.l.length:Int)<=9223372036854775807:=by unfold maxLen at g2;omega
 have Ze:=yb (fun (W:World) (h:Below w.heap.size w W)=>check1_any (hv.below h) (zab h hb));have Qo:=zcg v;have ZW:p<w.heap.size:=(Array.getElem?_eq_some_iff.1 hb).1;unfold pvA at Ze |-;clear ih hN hv hb g2 g3;obtain ⟨FC,ZX⟩:∃FC,FC=zaK v:=⟨_,rfl⟩;rw [<-ZX] at Qo |-;clear ZX;obtain ⟨la,QI⟩:∃la,la=v.l:=⟨_,rfl⟩;have Ql:=yb QI;rw [<-QI] at Qo HA Qk m1 g1 Ze |-;clear QI;obtain ⟨k0,ZY⟩:∃k,k=v.kind:=⟨_,rfl⟩;rw [<-ZY] at Qo Ze |-;clear ZY;have QH:=yb Qo;clear Qo;generalize ownC v=oc at *;generalize v.n=n0 at *;generalize mkB v.s=s0 at *;go_enter Tryz.func76,Tryz.ntmps76
 obtain ⟨B,hB⟩:∃B,B=w.heap.size:=⟨_,rfl⟩;have Qe:=yb (zac (w:=w) (b:=B) (.cells #[.int .i64 k0,.int .i64 n0,.string s0,.slice a1 la.length cap1] 25) hB);have HW:=yb (zai w (.cells #[.int .i64 k0,.int .i64 n0,.string s0,.slice a1 la.length cap1] 25));have ZH:=yb ZW;have ZZ:B≠p:=by omega
 go_upto_region 1 with fail
 rw [<-hB];clear hB ZW;generalize w.alloc _=W1 at *;obtain ⟨⟨c0,c1,c2,c3⟩,-⟩:=zad Qe.out;have Yq:=yb ZZ;clear ZZ;go_wp2_with fail
 refine (Ze.out _ HW.out).mono ?_;rintro e w2 ⟨rfl,ZK⟩;have QE:=yb ((ZK.keeps.block B (zb1 Qe.out) Yq.out).trans Qe.out);have QQ:=yb (ErrM.trans (keepsB HW.out) ZK);clear ZK c0 c1 c2 c3 Qe HW Ze;obtain ⟨⟨c0,c1,c2,c3⟩,-⟩:=zad QE.out;have Qo:=QH.out
 by_cases ho:oc=0
 case neg =>
  have eo:(oc==0)=false:=by rw [yf];exact ho
  rw [yg ho] at Qo;subst Qo;clear QH HA Qv HN Qk Ql ho;have Yr:=yb eo;go_wp2;go_ret;exact ⟨by rw [Yr.out];rfl,QQ.out⟩
 subst ho;rw [yh (by simp)] at Qo;clear QH
 by_cases hk:k0=6\/k0=7
 case neg =>
  have Ys:(k0==6)=false:=by rw [yf];omega
  have Yt:(k0==7)=false:=by rw [yf];omega
  have Yu:(k0 != 6)=true:=by simp only [bne,Ys,yj]
  have Yv:(k0 != 7)=true:=by simp only [bne,Yt,yj]
  rw [yh hk] at Qo;subst Qo;clear hk HA Qv HN Qk Ql;go_wp2;go_ret;exact ⟨rfl,QQ.out⟩
 rw [yg hk] at Qo;have QH:=yb Qo;clear Qo;have Z0:∀ {Q:Prop},(k0=6->Q)->(k0=7->Q)->Q:=fun h6 h7=>hk.elim h6 h7;clear hk;refine Z0 (fun e6=>?_) (fun e7=>?_)
 all_goals
  first|subst e6|subst e7
  clear Z0;go_wp2;clear c0 c1 c2 c3
  go_loopw [22] (fun vk wr=>∃(k:Nat),vk=.int .i64 k/\k<=la.length/\Hid (ErrM w wr p 0)/\Hid (zbt (la.take k)=0)) (fun vk _=>la.length-(intOf vk).toNat)
  case atStart=>exact ⟨0,rfl,Nat.zero_le _,QQ,yb rfl⟩
  case round =>
   obtain ⟨k,rfl,hk,Zf,HV⟩:=hrel
   by_cases q1:k<la.length
   case neg =>
    have Zv:k=la.length:=by omega
    subst Zv;have hv:=HV.out;rw [List.take_length] at hv;have hf:=QH.out;rw [hv] at hf;subst hf;clear hv QH HV HA Qv HN Qk Ql;go_wp2;go_ret;exact ⟨rfl,Zf.out⟩
   obtain ⟨x,hx⟩:∃x,la[k]?=some x:=⟨_,List.getElem?_eq_getElem q1⟩;obtain ⟨-,-,-,b1,o1,rfl,-,-,QJ⟩:=(HA.out.err Zf.out.keeps).at (by omega);rw [<-Ql.out] at QJ;obtain ⟨sx,QK,x0,x1,x2,x3⟩:=QJ k x hx;have hlt:SizeOf.sizeOf x<SizeOf.sizeOf v:=Qk.out k x hx;have hN:=HN.out;obtain ⟨sa',sc',rfl,-,-,-⟩:=QK.len;have Qg:=yb (fun (W:World) (hb:Below wr.heap.size wr W)=>Qv.out x _ W (by omega) (QK.below hb) (zab hb Zf.out.blk));simp only [pvA] at Qg;have ZL:=yb (fun (h:zaK x=0)=>(firstL_take hx HV.out).trans h);have ZM:=yb (fun (h:zaK x≠0)=>firstL_bad hx HV.out h);clear QK hlt hN QJ hx HA Qv HV Qk Ql HN;generalize zaK x=fx at *;have Zv:(0:Int)<=(k:Int):=by omega
   have Yf:(k:Int)<(la.length:Int):=by omega
   have hd1:decide (k<la.length)=true:=yd q1;generalize x.kind=xk at *;generalize x.n=xn at *;generalize mkB x.s=xs at *;generalize x.l.length=xl at *;have Za:=yb (zai wr (.cells #[.int .i64 xk,.int .i64 xn,.string xs,.slice sa' xl sc'] 25));have Z1:=yb (zac (w:=wr) (b:=wr.heap.size) (.cells #[.int .i64 xk,.int .i64 xn,.string xs,.slice sa' xl sc'] 25) rfl)
   go_upto_region 8 with fail
   obtain ⟨r4,Z2⟩:∃r4,r4=wr.heap.size:=⟨_,rfl⟩;rw [<-Z2] at Z1 |-;clear Z2 x0 x1 x2 x3;have Z3:=yb (Qg.out _ Za.out);have QF:=yb (Zf.out.keeps.trans (keepsB (S:=fun b=>b=p) Za.out) fun _ hb=>.inl hb);clear Qg Za Zf;generalize wr.alloc _=W4 at *;obtain ⟨⟨x0,x1,x2,x3⟩,-⟩:=zad Z1.out;go_wp2_with fail
   refine Z3.out.mono ?_;rintro e w5 ⟨rfl,Z4⟩;have ZN:=yb (ErrM.trans QF.out Z4);clear Z4 x0 x1 x2 x3 Z3 QF
   by_cases hf:fx=0
   ·have ef:(fx==0)=true:=by rw [hf];rfl
    have QV:=yb (ZL.out hf);rw [hf] at ZN;clear ZL ZM hf;go_wp2
    go_roundw
    case rel=>exact ⟨k+1,by go_num,by omega,ZN,QV⟩
    case measure=>simp [intOf];omega
   ·have ef:(fx==0)=false:=by rw [yf];exact hf
    have hF:FC=fx:=QH.out.trans (ZM.out hf);subst hF;have Yw:=yb ef;clear ZL ZM hf QH;go_wp2;go_ret;exact ⟨by rw [Yw.out];rfl,ZN.out⟩
theorem zg0 {v:PV} {sl:Value} {w:World} (hv:IsV w anyF v sl) (hd:zaZ v<=1000) :
  Calls Tryz.prog 44 #[pvA v sl] w fun e w'=>e=.returned (.int .i64 (zbG v))/\Below w.heap.size w w':=by
 have HD:=yb (fun (W:World) (h:Below w.heap.size w W)=>vdepth_any _ v sl W (yp _) hd (hv.below h))
 have Zr:=yb (fun (W:World) (p:Nat) (h:Below w.heap.size w W) (hp:w.heap.size<=p) (hb:W.heap[p]?=some (.cells #[.int .i64 0] 31 (0,0))) =>
  walk_any p _ v sl W (yp _) (IsV.keep (F:=fun b=>anyF b/\b<w.heap.size) (zaU.of_below h) (fun b hb=>by have:=hb.2;omega) _ (IsV.ltS v hv)) hb)
 obtain ⟨R,hR⟩:∃R,R=zbG v:=⟨_,rfl⟩;rw [<-hR];unfold zbG at hR;have HR:=yb hR;obtain ⟨a1,cap1,rfl,-,-,-⟩:=hv.len;unfold pvA at HD Zr |-;clear hv hR;generalize zaK v=fc at *;generalize zaZ v=d at *;generalize v.kind=k0 at *;generalize v.n=n0 at *;generalize mkB v.s=s0 at *;generalize v.l.length=m at *;go_enter Tryz.func44,Tryz.ntmps44
 obtain ⟨B,hB⟩:∃B,B=w.heap.size:=⟨_,rfl⟩;have Qe:=yb (zac (w:=w) (b:=B) (.cells #[.int .i64 k0,.int .i64 n0,.string s0,.slice a1 m cap1] 25) hB);have HW:=yb (zai w (.cells #[.int .i64 k0,.int .i64 n0,.string s0,.slice a1 m cap1] 25))
 go_upto_region 1 with fail
 rw [<-hB];clear hB;generalize w.alloc _=W1 at *;obtain ⟨⟨c0,c1,c2,c3⟩,-⟩:=zad Qe.out;go_wp2_with fail
 refine (HD.out _ HW.out).mono ?_;rintro e w2 ⟨rfl,Qa⟩;have QE:=yb (zab Qa Qe.out);have Qp:=yo HW Qa;clear Qa c0 c1 c2 c3 Qe HW HD;have hR:=HR.out
 by_cases h64:64<d
 ·have hd1:decide (64<d)=true:=yd h64
  have Q1:decide ((64:Int)<(d:Int))=true:=yd (by omega);rw [yg h64] at hR;subst hR;clear HR Zr h64;go_wp2;go_ret;exact ⟨rfl,Qp.out⟩
 have hd1:decide (64<d)=false:=ye h64;have Q1:decide ((64:Int)<(d:Int))=false:=ye (by omega);rw [yh h64] at hR;subst hR;clear HR h64;have Z5:=yb (zac (w:=w2) (b:=w2.heap.size) (.cells #[.int .i64 0] 31) rfl);have Zt:=yb (zal (.cells #[.int .i64 0] 31) QE.out);have ZO:=yb (Qp.out.alloc Qp.out.size (.cells #[.int .i64 0] 31));have ZP:=yb Qp.out.size
 go_upto_region 4 with fail
 obtain ⟨p,hp⟩:∃p,p=w2.heap.size:=⟨_,rfl⟩;rw [<-hp] at Z5 ZP |-;clear hp;generalize w2.alloc _=W3 at *;obtain ⟨⟨c0,c1,c2,c3⟩,-⟩:=zad Zt.out;go_wp2_with fail
 refine (Zr.out _ _ ZO.out ZP.out Z5.out).mono ?_;rintro e w4 ⟨rfl,Z6⟩;have QF:=yb Z6;clear Z6 c0 c1 c2 c3 Zr;have p0:w4.cell? ⟨p,0,none⟩=some (.int .i64 R):=by rw [cell_of_row w4 p 0 _ _ _ QF.out.blk];rfl
 have Zm:=yb (show Below w.heap.size w w4 from ZO.out.trans ⟨QF.out.keeps.os,QF.out.keeps.tape,QF.out.keeps.output,QF.out.keeps.size,fun b hb=>QF.out.keeps.block b (by have:=ZO.out.size;omega) (by have:=ZP.out;omega)⟩);go_wp2;go_ret;exact ⟨rfl,Zm.out⟩
theorem chk1_any (e:Ent) (w:World):Calls Tryz.prog 43 #[entA e] w fun x w'=>x=.returned (.bool (!zbK e))/\Below w.heap.size w w':=by
 have HM:=yb (fun (W:World)=>xmay_any e W);unfold entA at HM |-;obtain ⟨ea,eg,eu⟩:=e;simp only at HM |-;have Qb:=yb (zai w (.cells #[.int .i64 ea,.int .i64 eg,.bool eu] 45));generalize zbK ⟨ea,eg,eu⟩=ok at *;go_enter Tryz.func43,Tryz.ntmps43
 go_wp2_with (go_at_call 38;refine (HM.out _).mono ?_;rintro e w2 ⟨rfl,Qa⟩;have Zd:=yo Qb Qa)
 go_ret;exact ⟨rfl,Zd.out⟩
theorem idxE_any {w:World} {F:Nat->Prop} {es:List Ent} {v:Value} (h:IsE w F es v) :
  Calls Tryz.prog 74 #[v,.func (.func 43) #[] #[]] w fun e w'=>(∃r:Int,e=.returned (.int .i64 r)/\decide (0<=r)=!es.all zbK)/\Below w.heap.size w w':=by
 obtain ⟨ea,ec,rfl,g1,g2,-⟩:=h.len;have QP:(es.length:Int)<=9223372036854775807:=by unfold maxLen at g2;omega
 have HE:=yb h;clear h g1 g2;go_enter Tryz.func74,Tryz.ntmps74
 go_wp2_with fail
 go_loopw [8] (fun v wr=>∃j:Nat,v=.int .i64 j/\j<=es.length/\Hid (Below w.heap.size w wr)/\Hid ((es.take j).all zbK=true)) (fun v _=>es.length-(intOf v).toNat)
 case atStart=>exact ⟨0,rfl,Nat.zero_le _,yb (Below.refl _ _),yb rfl⟩
 case round =>
  obtain ⟨j,rfl,hj,HW,HA⟩:=hrel
  by_cases hlt:j<es.length
  case neg =>
   have ZB:j=es.length:=by omega
   subst ZB;have QO:decide ((es.length:Int)<(es.length:Int))=false:=ye (by omega);have Qi:decide (es.length<es.length)=false:=ye (by omega);have ha:=HA.out;rw [List.take_length] at ha;have HF:=yb ha;clear ha HA HE;go_wp2;go_ret;exact ⟨⟨_,rfl,by rw [HF.out];rfl⟩,HW.out⟩
  have QO:decide ((j:Int)<(es.length:Int))=true:=yd (by omega);have Qi:decide (j<es.length)=true:=yd hlt;have hjl:(j:Int)<(es.length:Int):=by omega
  obtain ⟨-,-,-,be,oe,Q5,Yk,-,Qn⟩:=(HE.out.below HW.out).at (by omega);subst Q5;obtain ⟨ee,QC⟩:∃ee,es[j]?=some ee:=⟨_,List.getElem?_eq_getElem hlt⟩;obtain ⟨z0,z1,z2⟩:=Qn j ee QC;have HU:=yb (fun h=>zft QC HA.out h);have HV:=yb (fun h=>zfO (p:=zbK) QC h);have HC:=yb (fun W=>chk1_any ee W);clear Qn QC HA;unfold entA at HC;obtain ⟨na,ng,nu⟩:=ee;simp only at *;generalize zbK ⟨na,ng,nu⟩=ok at *;go_wp2_with fail
  refine (HC.out _).mono ?_;rintro e w3 ⟨rfl,hb⟩;have Qp:=yo HW hb;clear hb HC z0 z1 z2
  cases ok
  ·have HF:=yb (HV.out rfl)
   have HP:=yb (show decide (0<=(j:Int))=true from yd (by omega));clear HV HU HE;go_wp2;go_ret;exact ⟨⟨_,rfl,by rw [HF.out];exact HP.out⟩,Qp.out⟩
  ·have Q4:=yb (HU.out rfl)
   clear HV HU;go_wp2
   go_roundw
   case rel=>exact ⟨j+1,by go_num,by omega,Qp,Q4⟩
   case measure=>simp [intOf];omega
theorem contE_any {w:World} {F:Nat->Prop} {es:List Ent} {v:Value} (h:IsE w F es v) :
  Calls Tryz.prog 42 #[v,.func (.func 43) #[] #[]] w fun e w'=>e=.returned (.bool (!es.all zbK))/\Below w.heap.size w w':=by
 have HI:=yb (idxE_any h);obtain ⟨ea,ec,rfl,-,-,-⟩:=h.len;clear h;generalize es.all zbK=ok at *;generalize es.length=el at *;go_enter Tryz.func42,Tryz.ntmps42
 go_wp2_with fail
 refine HI.out.mono ?_;rintro e w2 ⟨⟨r,rfl,hr⟩,hb⟩;have HB:=yb hb;have HR:=yb hr;clear hb hr HI;go_wp2;go_ret;exact ⟨by rw [<-HR.out];rfl,HB.out⟩
theorem grpOk_is (g:Grp):zcm g=(zdn g.first (g.es.length:Int)&&g.es.all zbK):=by
 unfold zcm zdn;rw [show decide (0<=(g.es.length:Int))=true from yd (by omega),Bool.and_true]
theorem xcheck_any {s:Sec} {gv sl:Value} {w:World} (h:zcj w anyF s gv sl) (hd:zaZ s.tr<=1000) :
  Calls Tryz.prog 17 #[secA s gv sl] w fun e w'=>e=.returned (.int .i64 (zbR s))/\Below w.heap.size w w':=by
 obtain ⟨gs,x⟩:=s;simp only at hd;obtain ⟨ga,gc,rfl,QW,QM,-⟩:=h.1.len;simp only at QW;have Qq:=yb (fun (W:World) (hb:Below w.heap.size w W)=>zg0 (h.2.below hb) hd);have Qx:=yb (fun (W:World) (hb:Below w.heap.size w W)=>(h.1.below hb));obtain ⟨R,hR⟩:∃R,R=zbR ⟨gs,x⟩:=⟨_,rfl⟩;rw [<-hR];unfold zbR at hR;simp only at hR;have HR:=yb hR;unfold secA;simp only at Qx |-;obtain ⟨sa,sc,rfl,-,-,-⟩:=h.2.len;simp only at Qq |-;unfold pvA at Qq;clear h hd hR;have Q0:(gs.length:Int)<=9223372036854775807:=by unfold maxLen at QM;omega
 generalize zbG x=cc at *;generalize x.kind=xk at *;generalize x.n=xn at *;generalize mkB x.s=xb at *;generalize x.l.length=xl at *;obtain ⟨B,hB⟩:∃B,B=w.heap.size:=⟨_,rfl⟩;have Qb:=yb (zai w (.cells #[.slice ga gs.length gc,.int .i64 xk,.int .i64 xn,.string xb,.slice sa xl sc] 34));have Qe:=yb (zac (w:=w) (b:=B) (.cells #[.slice ga gs.length gc,.int .i64 xk,.int .i64 xn,.string xb,.slice sa xl sc] 34) hB);go_enter Tryz.func17,Tryz.ntmps17
 go_upto_region 1 with fail
 try rw [<-hB]
 clear hB;generalize World.alloc _ _=W1 at *;obtain ⟨⟨x0,x1,x2,x3,x4⟩,-⟩:=zaW Qe.out
 by_cases h64:64<gs.length
 ·have hd1:decide (64<gs.length)=true:=yd h64
  have Q1:decide ((64:Int)<gs.length)=true:=yd (by omega);have hr:=HR.out;rw [yg (.inl h64)] at hr;subst hr;clear HR Qq Qx;go_wp2;go_ret;exact ⟨rfl,Qb.out⟩
 have hd1:decide (64<gs.length)=false:=ye h64;have Q1:decide ((64:Int)<gs.length)=false:=ye (by omega)
 by_cases hk:xk=7
 case neg =>
  have QN:(xk==7)=false:=by rw [yf];exact hk
  have Zx:(xk != 7)=true:=by simp only [bne,QN,yj]
  have hr:=HR.out;rw [yg (.inr hk)] at hr;subst hr;clear HR Qq Qx;go_wp2;go_ret;exact ⟨rfl,Qb.out⟩
 have QN:(xk==7)=true:=by rw [beq_iff_eq];exact hk
 have Zx:(xk != 7)=false:=by simp only [bne,QN,Bool.not_true]
 have hr:=HR.out;rw [yh (by omega)] at hr;have Qm:=yb hr;clear hr HR h64 hk;go_wp2_with fail
 clear x0 x1 x2 x3 x4
 go_loopw [18] (fun v wr=>∃c:Nat,v=.int .i64 c/\c<=gs.length/\Hid (Below W1.heap.size W1 wr)/\Hid ((gs.take c).all zcm=true)) (fun v _=>gs.length-(intOf v).toNat)
 case atStart=>exact ⟨0,rfl,Nat.zero_le _,yb (Below.refl _ _),yb rfl⟩
 case round =>
  obtain ⟨c,rfl,hc,HW,HA⟩:=hrel;have HB:=yb (Qb.out.trans (HW.out.mono Qb.out.size))
  by_cases hlt:c<gs.length
  case neg =>
   have Zy:c=gs.length:=by omega
   subst Zy;have QO:decide ((gs.length:Int)<(gs.length:Int))=false:=ye (by omega);have Qi:decide (gs.length<gs.length)=false:=ye (by omega);have ha:=HA.out;rw [List.take_length] at ha;have hr:=Qm.out;rw [yh (by rw [ha];decide)] at hr;subst hr;have HC:=yb (Qq.out wr HB.out);obtain ⟨⟨x0,x1,x2,x3,x4⟩,-⟩:=zaW (zab HW.out Qe.out);clear ha HA Qm Qx Qq;go_wp2_with fail
   refine HC.out.mono ?_;rintro e w3 ⟨rfl,hb⟩;have Q2:=yo HB hb;clear hb;go_wp2;go_ret;exact ⟨rfl,Q2.out⟩
  have QO:decide ((c:Int)<(gs.length:Int))=true:=yd (by omega);have Qi:decide (c<gs.length)=true:=yd (by omega);have Yi:(c:Int)<(gs.length:Int):=by omega
  obtain ⟨-,-,-,b,off,ha,-,-,Qn⟩:=(Qx.out wr HB.out).at (by omega);subst ha;obtain ⟨g,hg⟩:∃g,gs[c]?=some g:=⟨_,List.getElem?_eq_getElem hlt⟩;obtain ⟨v,hv,g0,g1⟩:=Qn c g hg;obtain ⟨ea,ec,rfl,Zz,QX,-⟩:=hv.len;have Qd:=yb (fun h=>zft hg HA.out h);have Qf:=yb (fun h=>Qm.out.trans (yg (zfO (p:=zcm) hg h)));have ZQ:=yb (grpOk_is g);have Q3:=yb hv;have QP:(g.es.length:Int)<=9223372036854775807:=by unfold maxLen at QX;omega
  clear Qn hv hg HA;obtain ⟨gf,ge⟩:=g;simp only at *;have QY:=yb (HW.out.alloc HW.out.size (.cells #[.int .i64 gf,.slice ea ge.length ec] 58));have Zn:=yb (zac (w:=wr) (.cells #[.int .i64 gf,.slice ea ge.length ec] 58) rfl);have Z7:=yb (fun (W:World) (hb:Below wr.heap.size wr W)=>contE_any (Q3.out.below hb));have Z8:=yb (zai wr (.cells #[.int .i64 gf,.slice ea ge.length ec] 58));have Yx:=yb (fun W=>fits_any gf (ge.length:Int) W);generalize zcm ⟨gf,ge⟩=gok at *;generalize zdn gf (ge.length:Int)=ft at *;generalize ge.all zbK=al at *
  go_upto_region 6 with fail
  clear Q3 g0 g1;generalize wr.heap.size=G at *;generalize World.alloc _ _=W2 at *;obtain ⟨⟨y0,y1⟩,-⟩:=zbL Zn.out;have Qu:=yb (Qb.out.trans (QY.out.mono Qb.out.size));have QT:=yb (Z7.out W2 Z8.out);clear Z7 Z8;go_wp2_with fail
  refine (Yx.out _).mono ?_;rintro e w3 ⟨rfl,rfl⟩
  cases ft
  ·have hr:=Qf.out (by rw [ZQ.out];rfl)
   subst hr;clear Qm Qf Qd QT;go_wp2;go_ret;exact ⟨rfl,Qu.out⟩
  go_wp2_with fail
  refine QT.out.mono ?_;rintro e w4 ⟨rfl,hb⟩;have Yy:=yo Qu hb;have Yz:=yo QY hb;clear hb QT y0 y1
  cases al
  ·have hr:=Qf.out (by rw [ZQ.out];rfl)
   subst hr;clear Qm Qf Qd;go_wp2;go_ret;exact ⟨rfl,Yy.out⟩
  ·have Q4:=yb (Qd.out (by rw [ZQ.out];rfl))
   clear Qf Qd;go_wp2
   go_roundw
   case rel=>exact ⟨c+1,by go_num,by omega,Yz,Q4⟩
   case measure=>simp [intOf];omega
def u8W (b:UInt8):Value:=.int .u8 b.toNat
structure IsWr (w:World) (S:Nat->Prop) (p:Nat) (out:List UInt8) (ad v:Value):Prop where
 blk:w.heap[p]?=some (.cells #[ad,v] 109 (0,0))
 ad_:ad=.pointer none\/ad=.pointer (some ⟨p,0,none⟩)
 row:w.ownsRow (p+1) 5 1 v out.length (out.map u8W)
 at_:∀b,v.ownBlock=some b->S b
 own:S p
 lt:∀b,S b->p<=b/\b<w.heap.size
def WrQ (w:World) (S:Nat->Prop) (p:Nat) (out:List UInt8):Prop:=∃ad v,IsWr w S p out ad v
def zap (w:World) (S:Nat->Prop) (p:Nat) (out:List UInt8) (w':World):Prop:=∃S',WrQ w' S' p out/\zak S w w'/\∀b,S' b->S b\/w.heap.size<=b
section
variable {w w1 w2 w' : World} {S S1 : Nat -> Prop} {p : Nat} {out : List UInt8} {ad v : Value}
theorem zap.refl (h:WrQ w S p out):zap w S p out w:=⟨S,h,zak.refl _ _,fun _ h=>.inl h⟩
theorem zap.trans (hk:zak S w w1) (hs:∀b,S1 b->S b\/w.heap.size<=b) (h2:zap w1 S1 p out w2):zap w S p out w2:=by
 obtain ⟨S2,q,k2,s⟩:=h2;exact ⟨S2,q,hk.trans k2 hs,fun b hb=>(s b hb).elim (hs b) (fun h=>.inr (Nat.le_trans hk.size h))⟩
theorem IsWr.keep (h:IsWr w S p out ad v) (hb:Below w.heap.size w w'):IsWr w' S p out ad v :=
 ⟨zab hb h.blk,h.ad_,zbh h.row hb,h.at_,h.own,fun b hS=>⟨(h.lt b hS).1,Nat.lt_of_lt_of_le (h.lt b hS).2 hb.size⟩⟩
theorem WrQ.keep (h:WrQ w S p out) (hb:Below w.heap.size w w'):WrQ w' S p out:=by obtain ⟨ad,v,h⟩:=h;exact ⟨ad,v,h.keep hb⟩
theorem IsWr.cells (h:IsWr w S p out ad v):w.cell? ⟨p,0,none⟩=some ad/\w.cell? ⟨p,1,none⟩=some v:=by
 refine ⟨?_,?_⟩<;>(rw [cell_of_row w p _ _ _ _ h.blk];rfl)
theorem IsWr.free (h:IsWr w S p out ad v) (j:Nat):w.frozen? ⟨p,j,none⟩=false:=frozen_of_row w p j _ _ h.blk
theorem keepsW (h:Below w.heap.size w w'):zak S w w':=⟨h.os,h.tape,h.output,h.size,fun b hb _=>h.block b hb⟩
theorem zap.above (hb:Below w.heap.size w w1) (h2:zap w1 S p out w2):zap w S p out w2:=zap.trans (keepsW hb) (fun _ h=>.inl h) h2
theorem zap.on (h:zap w S p out w1) (hb:Below w1.heap.size w1 w2):zap w S p out w2:=by
 obtain ⟨S2,q,k2,s⟩:=h;exact ⟨S2,q.keep hb,k2.trans (keepsW hb) (fun b hb=>s b hb),s⟩
end
theorem infoBuilderW:(Tryz.prog.info? 107).map (·.size)=some 2:=by kernel_rfl
theorem liesBuilderW:liesAt Tryz.prog Tryz.prog.depth 109 (2 / Tryz.prog.cellsOf 109) 0 107 1=true:=by kernel_rfl
theorem EByteW:zfo Tryz.prog 28 5 (.int .u8 0) 1 1:=⟨Tryz.underlying28,by kernel_rfl,rfl,by omega⟩
def ChkW (w:World) (S:Nat->Prop) (p:Nat) (out:List UInt8) (v:Value) (e:Ending) (w':World):Prop :=
 e=.returned (.tuple #[])/\IsWr w' S p out (.pointer (some ⟨p,0,none⟩)) v/\zak S w w'/\w'.heap.size=w.heap.size
theorem IsWr.mark {w:World} {S:Nat->Prop} {p:Nat} {out:List UInt8} {ad v:Value} (h:IsWr w S p out ad v) :
  IsWr (w.setCell ⟨p,0,none⟩ (.pointer (some ⟨p,0,none⟩))) S p out (.pointer (some ⟨p,0,none⟩)) v:=by
 refine ⟨?_,.inr rfl,ownsRow_setCell_other h.row (a:=⟨p,0,none⟩) (fun e=>by have:=(h.row.lt p e).1;omega) _,h.at_,h.own,fun b hS=>by have:=h.lt b hS;simpa using this⟩;rw [heap_setCell_same _ _ 0 _ _ _ h.blk];rfl
set_option maxRecDepth 100000 in
theorem zhi {w:World} {S:Nat->Prop} {p:Nat} {out:List UInt8} {ad v:Value} (h:IsWr w S p out ad v) :
  Calls Tryz.prog 128 #[.pointer (some ⟨p,0,none⟩)] w (ChkW w S p out v):=by
 obtain ⟨j,hj,YA⟩:=Option.map_eq_some_iff.1 infoBuilderW;obtain ⟨c0,-⟩:=h.cells;have Y4:=h.free 0;have Z9:w.shape? p=some (109,2):=by have:=h.blk;simp [World.shape?,this]
 rcases h.ad_ with rfl|rfl
 ·have HM:=yb h.mark
  have HK:=yb ((zak.refl S w).setCell (a:=⟨p,0,none⟩) (.inl h.own) (.pointer (some ⟨p,0,none⟩)));clear h;go_enter Tryz.func128,Tryz.ntmps128
  go_wp2;rw [Lib.run_to_unsafe w ⟨p,0,none⟩ Tryz.underlying105 Tryz.underlying209 hj (by rw [YA];decide) Z9 (Nat.succ_pos 1)];simp only [Result.andThen];rw [Oper.upon_value];go_wp2;rw [run_callFunc_extern Tryz.func156 (by kernel_rfl) (by kernel_rfl) (by kernel_rfl) (e:=Extern.AbiNoEscape.same) (by kernel_rfl)];rw [Lib.run_noEscape];simp only [Result.andThen];rw [Oper.upon_value];go_wp2;rw [Lib.run_from_unsafe w ⟨p,0,none⟩ Tryz.underlying209 Tryz.underlying105 hj Z9 liesBuilderW];simp only [Result.andThen];rw [Oper.upon_value];go_wp2;go_end0
  exact ⟨rfl,HM.out,HK.out,by simp⟩
 ·have HM:=yb h
  clear h;go_enter Tryz.func128,Tryz.ntmps128
  go_wp2;rw [Lib.run_neq_ptr_same w _ Tryz.underlying105 hj];go_wp2;go_end0
  exact ⟨rfl,HM.out,zak.refl _ _,rfl⟩
theorem IsWr.put {w W w2:World} {S:Nat->Prop} {p:Nat} {out news:List UInt8} {v v':Value} (h:IsWr w S p out (.pointer (some ⟨p,0,none⟩)) v) (hb:Below w.heap.size w W)
  (hr:w2.ownsRow (p+1) 5 1 v' (out.length+news.length) (out.map u8W++news.map u8W)) (hg:W.grownBy w2 v.ownBlock) (hn:NewAt W v v') :
  zap w S p (out++news) (w2.setCell ⟨p,1,none⟩ v'):=by
 have hp:=(h.lt p h.own).2;have YB:∀b,v.ownBlock=some b->p<b:=fun b hb=>(h.row.lt b hb).1
 have h1:w2.heap[p]?=some (.cells #[.pointer (some ⟨p,0,none⟩),v] 109 (0,0)) :=
  (hg.block p (Nat.lt_of_lt_of_le hp hb.size) (fun e=>by have:=YB p e.symm;omega)).trans (zab hb h.blk)
 have QG:zak S w w2:=(keepsW hb).grown hg (fun k hk=>.inl (h.at_ k hk));have Ya:=QG.setCell (a:=⟨p,1,none⟩) (.inl h.own) v';have Qt:=Ya.size;refine ⟨fun b=>S b\/(p<=b/\w.heap.size<=b/\b<(w2.setCell ⟨p,1,none⟩ v').heap.size),⟨.pointer (some ⟨p,0,none⟩),v',⟨?_,.inr rfl,?_,fun b Qa=>?_,.inl h.own,fun b Qa=>?_⟩⟩,Ya,fun b Qa=>?_⟩
 ·rw [heap_setCell_same _ _ 1 _ _ _ h1];rfl
 ·have:=ownsRow_setCell_other hr (a:=⟨p,1,none⟩) (fun e=>by have:=(hr.lt p e).1;omega) v'
  simpa using this
 ·have hlt:=(hr.lt b Qa)
  rcases hn b Qa with h2|h2
  ·exact .inl (h.at_ b h2)
  ·have:=hb.size
   exact .inr ⟨by omega,by omega,by simpa using hlt.2⟩
 ·rcases Qa with Qa|Qa
  ·have:=h.lt b Qa;omega
  ·exact ⟨Qa.1,Qa.2.2⟩
 ·rcases Qa with Qa|Qa
  ·exact .inl Qa
  ·exact .inr Qa.2.1
set_option maxRecDepth 100000 in
theorem za0 {w:World} {S:Nat->Prop} {p:Nat} {out:List UInt8} (h:WrQ w S p out) (c:UInt8) (x:Int) (hx:x=(c.toNat:Int)) (hl:out.length<=10000000) :
  Calls Tryz.prog 96 #[.pointer (some ⟨p,0,none⟩),.int .u8 x] w fun e w'=>e=.returned .nilIface/\zap w S p (out++[c]) w':=by
 obtain ⟨ad,v,h⟩:=h;have HC:=yb (zhi h);unfold ChkW at HC;have Yb:Value.int .u8 x=u8W c:=by rw [hx];rfl
 have HX:=yb Yb;clear h hx Yb;go_enter Tryz.func96,Tryz.ntmps96
 go_wp2_with fail
 refine HC.out.mono ?_;rintro e w1 ⟨rfl,h1,QG,QU⟩;have H1:=yb h1;have ZR:=yb QG;have YC:=yb QU;obtain ⟨-,c1⟩:=h1.cells;have YD:=h1.free 1;have Zg:=(h1.lt p h1.own).2;clear h1 QG QU;go_wp2_with (at_builtin;refine zcY EByteW rfl (.tmp 11) (.tmp 13) rfl (p+1) _ out.length _ rfl (H1.out.row.alloc _) _ 1 _ _ rfl (zbz _ _ _) (zbZ rfl) (by unfold maxLen;omega) (by omega) (by rw [zaq];omega) ?_;intro v' w2 hO2 hg2 hn2;obtain ⟨a',cap',QR,-⟩:=Row.of_owns hO2;subst QR;rw [HX.out] at hO2;have HN:=yb (H1.out.put (news:=[c]) (zai w1 _) hO2 hg2 hn2);have YE:p<w2.heap.size:=(by have:=hg2.size;rw [zaq] at this;omega);have ZS:w2.frozen? ⟨p,1,none⟩=false:=(frozen_of_row w2 p 1 _ _ ((hg2.block p (by rw [zaq];omega) (fun e=>by have:=(H1.out.row.lt p e.symm).1;omega)).trans ((Below.heap_alloc w1 _ p Zg).trans H1.out.blk)));have YF:w2.cell? ⟨p,1,none⟩=some v:=((cell_of_row w2 p 1 _ _ _ ((hg2.block p (by rw [zaq];omega) (fun e=>by have:=(H1.out.row.lt p e.symm).1;omega)).trans ((Below.heap_alloc w1 _ p Zg).trans H1.out.blk))).trans rfl);clear hO2 hg2 hn2)
 go_ret;exact ⟨rfl,zap.trans ZR.out (fun b hb=>.inl hb) HN.out⟩
theorem zfc (l:List UInt8):Lib.strCells (mkB l)=l.map u8W:=by unfold Lib.strCells mkB u8W;simp
theorem append_strW {P:Program} (w:World) {ops:Array Oper} {rest:List Oper} {o:Oper} {a:Act} {Q:Exit->Act->World->Prop} (hgd:o.guard=none) (sl x:Operand) (t u:TypeId)
  (ho:o.op=.call { callee:=.builtin .append,args:=#[sl,x],argTypes:=#[t,u] })
  (base:Nat) (e:TypeId) (i:TypeInfo) (ht:P.underlying t=some (.slice e)) (hu:P.underlying u=some .string) (hi:P.info? e=some i) (hz:i.zero=some (.int .u8 0))
  (hsize:i.size=1) (hby:i.bytes=1)
  (v:Value) (n:Nat) (xs:List Value) (hs:a.eval sl=v) (hown:w.ownsRow base e 1 v n xs) (s:ByteArray) (hx:a.eval x=.string s)
  (h63:n+s.size<=maxLen) (hbytes:n+s.size<=140737488355328) (hbase:base<=w.heap.size)
  (h:∀v' w',w'.ownsRow base e 1 v' (n+s.size) (xs++Lib.strCells s)->w.grownBy w' v.ownBlock->NewAt w v v'->wpList P ops Q rest (a.put o.dst v') w'):wpList P ops Q (o::rest) a w:=by
 refine wpList_plain hgd fun K hK=>?_;obtain ⟨v',w',hr,h2,h3,h4⟩:=Lib.run_append_own_string (P:=P) w base t u o.type e i ht hu hi hz hsize hby v n xs hown s h63 hbytes hbase
 have hn:NewAt w v v':=by
  have Qz:n+s.size<=9223372036854775807:=by simp only [maxLen] at h63;omega
  have YG:xs.length=n:=by simpa using hown.1
  rcases hown.2 with ⟨rfl,YH⟩|⟨g,cap,cur,rfl,Y5,hg,Y6,Yc,Y7,Yd⟩
  ·obtain ⟨v2,w2,QA,g2,_,_⟩:=Lib.run_append_own_string (P:=P) w w.heap.size t u o.type e i ht hu hi hz hsize hby _ n xs ⟨hown.1,.inl ⟨rfl,YH⟩⟩ s h63 hbytes (yp _)
   rw [hr] at QA;simp only [Result.ok.injEq] at QA;obtain ⟨rfl,rfl⟩:=QA;exact fun b hb=>.inr (g2.lt b hb).1
  ·by_cases hroom:n+s.size<=cap
   ·have QA:=Lib.run_append_room_string (P:=P) w t u o.type e i ht hu hi hsize g n cap cur hg s hroom (by omega)
    rw [hr] at QA;simp only [Result.ok.injEq] at QA;obtain ⟨rfl,rfl⟩:=QA;exact fun b hb=>.inl hb
   ·have Zh:∀j u,xs[j]?=some u->w.cell? ((⟨g,0,none⟩:Addr).add j)=some u:=hown.cells (g:=g) rfl
    have QA:=Lib.run_append_grow_string (P:=P) w t u o.type e i (.int .u8 0) ht hu hi hz ⟨g,0,none⟩ n cap xs (by rw [hsize];simpa using YG) Zh s (by omega) (by omega) (by rw [hby];exact growslice_fits (by omega) (by omega));rw [hr] at QA;simp only [Result.ok.injEq] at QA;obtain ⟨rfl,rfl⟩:=QA;intro b hb;simp [Value.ownBlock] at hb
    right;omega
 unfold Oper.wp execOp;simp only [ho,resolve,invoke,builtin,Sem.run_bind,Sem.run_pure,Result.andThen_ok,List.map_toArray,List.map_cons,List.map_nil,hs,hx,hr];exact hK _ _ (h v' w' h2 h3 hn)
set_option maxRecDepth 100000 in
theorem zcz {w:World} {S:Nat->Prop} {p:Nat} {out:List UInt8} (h:WrQ w S p out) (s:List UInt8) (hl:out.length+s.length<=10000000) :
  Calls Tryz.prog 92 #[.pointer (some ⟨p,0,none⟩),.string (mkB s)] w fun e w'=>e=.returned (.tuple #[.int .i64 s.length,.nilIface])/\zap w S p (out++s) w':=by
 obtain ⟨ad,v,h⟩:=h;obtain ⟨i0,hi,hz,hs,hb⟩:=info_parts EByteW.info;have HC:=yb (zhi h);unfold ChkW at HC;have Qt:(mkB s).size=s.length:=zaR s;have YI:=yb (zfc s);have Zi:=yb Qt;have YJ:((mkB s).size:Int)=s.length:=by rw [Qt]
 have HI:=yb (⟨hi,hz,hs,hb⟩:_/\_/\_/\_);clear h hi hz hs hb Qt;go_enter Tryz.func92,Tryz.ntmps92
 go_wp2_with fail
 refine HC.out.mono ?_;rintro e w1 ⟨rfl,h1,QG,QU⟩;have H1:=yb h1;have ZR:=yb QG;have YC:=yb QU;obtain ⟨-,c1⟩:=h1.cells;have YD:=h1.free 1;have Zg:=(h1.lt p h1.own).2;clear h1 QG QU;go_wp2_with (at_builtin;refine append_strW _ rfl (.tmp 12) (.tmp 13) 28 9 rfl (p+1) 5 i0 Tryz.underlying28 Tryz.underlying9 HI.out.1 HI.out.2.1 HI.out.2.2.1 HI.out.2.2.2 _ out.length _ rfl H1.out.row (mkB s) rfl (by rw [Zi.out];unfold maxLen;omega) (by rw [Zi.out];omega) (by omega) ?_;intro v' w2 hO2 hg2 hn2;obtain ⟨a',cap',QR,-⟩:=Row.of_owns hO2;subst QR;rw [YI.out,Zi.out] at hO2;have HN:=yb (H1.out.put (news:=s) (Below.refl _ _) (by rw [Zi.out] at *;exact hO2) hg2 (by rw [Zi.out] at *;exact hn2));have YE:p<w2.heap.size:=(by have:=hg2.size;omega);have ZS:w2.frozen? ⟨p,1,none⟩=false:=(frozen_of_row w2 p 1 _ _ ((hg2.block p Zg (fun e=>by have:=(H1.out.row.lt p e.symm).1;omega)).trans H1.out.blk));have YF:w2.cell? ⟨p,1,none⟩=some v:=((cell_of_row w2 p 1 _ _ _ ((hg2.block p Zg (fun e=>by have:=(H1.out.row.lt p e.symm).1;omega)).trans H1.out.blk)).trans rfl);clear hO2 hg2 hn2)
 go_ret2;exact ⟨rfl,zap.trans ZR.out (fun b hb=>.inl hb) HN.out⟩
def OutQ (e:TypeId) (base:Nat) (W:World) (v:Value) (o:List UInt8):Prop :=
 W.ownsRow base e 1 v o.length (o.map u8W) \/
 (∃g,v=.slice (some ⟨g,0,none⟩) o.length o.length/\0<o.length/\base<=g/\g<W.heap.size/\∀j u,(o.map u8W)[j]?=some u->W.cell? ⟨g,j,none⟩=some u)
theorem OutQ.lt {e:TypeId} {base:Nat} {W:World} {v:Value} {o:List UInt8} (h:OutQ e base W v o):∀b,v.ownBlock=some b->base<=b/\b<W.heap.size:=by
 rcases h with h|⟨g,rfl,-,h1,h2,-⟩
 ·exact fun b hb=>h.lt b hb
 ·intro b hb
  simp [Value.ownBlock] at hb;omega
theorem OutQ.keep {e:TypeId} {base:Nat} {W W':World} {v:Value} {o:List UInt8} (h:OutQ e base W v o) (hb:Below W.heap.size W W'):OutQ e base W' v o:=by
 rcases h with h|⟨g,rfl,h0,h1,h2,h3⟩
 ·exact .inl (zbh h hb)
 ·exact .inr ⟨g,rfl,h0,h1,Nat.lt_of_lt_of_le h2 hb.size,fun j u hj=>cell?_keep hb (h3 j u hj)⟩
theorem zdV {P:Program} (w:World) {o:Oper} {a:Act} {K:Act->World->Prop} {Q:Exit->Act->World->Prop} (sl x:Operand) (t u:TypeId)
  (ho:o.op=.call { callee:=.builtin .append,args:=#[sl,x],argTypes:=#[t,u] })
  (base:Nat) (e:TypeId) (i:TypeInfo) (ht:P.underlying t=some (.slice e)) (hu:P.underlying u=some .string) (hi:P.info? e=some i) (hz:i.zero=some (.int .u8 0))
  (hsize:i.size=1) (hby:i.bytes=1)
  (v:Value) (bs:List UInt8) (hs:a.eval sl=v) (hq:OutQ e base w v bs) (s:List UInt8) (hx:a.eval x=.string (mkB s)) (hne:0<s.length)
  (hl:bs.length+s.length<=10000000) (hbase:base<=w.heap.size)
  (h:∀v' w',w'.ownsRow base e 1 v' (bs++s).length ((bs++s).map u8W)->w.grownBy w' v.ownBlock->K (a.put o.dst v') w'):Oper.wp P o a w K Q:=by
 have Qt:(mkB s).size=s.length:=zaR s;have YK:(bs++s).length=bs.length+(mkB s).size:=by rw [List.length_append,Qt]
 have YL:(bs++s).map u8W=bs.map u8W++Lib.strCells (mkB s):=by rw [List.map_append,zfc]
 rw [YK,YL] at h;rcases hq with hown|⟨g,rfl,h0,h1,h2,h3⟩
 ·obtain ⟨v',w',hr,h2,h3,-⟩:=Lib.run_append_own_string (P:=P) w base t u o.type e i ht hu hi hz hsize hby v bs.length _ hown (mkB s) (by rw [Qt];unfold maxLen;omega) (by rw [Qt];omega) hbase
  unfold Oper.wp execOp;simp only [ho,resolve,invoke,builtin,Sem.run_bind,Sem.run_pure,Result.andThen_ok,List.map_toArray,List.map_cons,List.map_nil,hs,hx,hr];exact h v' w' h2 h3
 ·have Qz:bs.length+(mkB s).size<=maxLen:=by rw [Qt];unfold maxLen;omega
  have hr:=Lib.run_append_grow_string (P:=P) (w:=w) t u o.type e i (.int .u8 0) ht hu hi hz ⟨g,0,none⟩ bs.length bs.length (bs.map u8W) (by rw [hsize];simp) (fun j v hj=>by rw [show (⟨g,0,none⟩:Addr).add j=⟨g,j,none⟩ by unfold Addr.add;split<;>simp_all];exact h3 j v hj) (mkB s) (by rw [Qt];omega) (by rw [Qt];omega) (by rw [hby];exact growslice_fits (by rw [Qt];omega) (by rw [Qt];omega))
  have YM:=grownCap_ge w (bs.length+(mkB s).size) bs.length e;have Yc:=grownCap_le_maxLen w (bs.length+(mkB s).size) bs.length e Qz;have Zj:(bs.map u8W++Lib.strCells (mkB s)).length=(bs.length+(mkB s).size)*1:=by rw [List.length_append,List.length_map,Lib.strCells_length,Nat.mul_one]
  unfold Oper.wp execOp;simp only [ho,resolve,invoke,builtin,Sem.run_bind,Sem.run_pure,Result.andThen_ok,List.map_toArray,List.map_cons,List.map_nil,hs,hx,hr];refine h _ _ ⟨Zj,.inr ⟨w.heap.size,_,_,rfl,hbase,heap_alloc_new w.drew _,YM,Yc,?_,?_⟩⟩ ⟨rfl,rfl,rfl,by simp,fun k hk _=>by show (w.heap.push _)[k]?=w.heap[k]?;rw [Array.getElem?_push,yh (by omega)]⟩
  ·have YN:(Value.int IntKind.u8 0).cells.size=1:=rfl
   simp only [Array.size_append,List.size_toArray,size_zeroCells,YN,List.length_map,Lib.strCells_length];omega
  ·simp only [Array.toList_append,List.append_assoc]
   rw [<-List.append_assoc,<-Zj];exact List.take_left
theorem zf9 {P:Program} (w:World) {ops:Array Oper} {rest:List Oper} {o:Oper} {a:Act} {Q:Exit->Act->World->Prop} (hgd:o.guard=none) (sl x:Operand) (t u:TypeId)
  (ho:o.op=.call { callee:=.builtin .append,args:=#[sl,x],argTypes:=#[t,u] })
  (base:Nat) (e:TypeId) (i:TypeInfo) (ht:P.underlying t=some (.slice e)) (hu:P.underlying u=some .string) (hi:P.info? e=some i) (hz:i.zero=some (.int .u8 0))
  (hsize:i.size=1) (hby:i.bytes=1)
  (v:Value) (bs:List UInt8) (hs:a.eval sl=v) (hq:OutQ e base w v bs) (s:List UInt8) (hx:a.eval x=.string (mkB s)) (hne:0<s.length)
  (hl:bs.length+s.length<=10000000) (hbase:base<=w.heap.size)
  (h:∀v' w',w'.ownsRow base e 1 v' (bs++s).length ((bs++s).map u8W)->w.grownBy w' v.ownBlock->wpList P ops Q rest (a.put o.dst v') w'):wpList P ops Q (o::rest) a w :=
 wpList_plain hgd fun _ hK=>zdV w sl x t u ho base e i ht hu hi hz hsize hby v bs hs hq s hx hne hl hbase fun v' w' a1 a2=>hK _ _ (h v' w' a1 a2)
theorem zfm {P:Program} (w:World) {ops:Array Oper} {o:Oper} {a:Act} {K:Act->World->Prop} {Q:Exit->Act->World->Prop} {E:Prop} (hgd:o.guard=none) (sl x:Operand) (t u:TypeId)
  (ho:o.op=.call { callee:=.builtin .append,args:=#[sl,x],argTypes:=#[t,u] })
  (base:Nat) (e:TypeId) (i:TypeInfo) (ht:P.underlying t=some (.slice e)) (hu:P.underlying u=some .string) (hi:P.info? e=some i) (hz:i.zero=some (.int .u8 0))
  (hsize:i.size=1) (hby:i.bytes=1)
  (v:Value) (bs:List UInt8) (hs:a.eval sl=v) (hq:OutQ e base w v bs) (s:List UInt8) (hx:a.eval x=.string (mkB s)) (hne:0<s.length)
  (hl:bs.length+s.length<=10000000) (hbase:base<=w.heap.size)
  (h:∀v' w',w'.ownsRow base e 1 v' (bs++s).length ((bs++s).map u8W)->w.grownBy w' v.ownBlock->K (a.put o.dst v') w') :
  if Region.wanted o (yielded ops a.tmps)=true then Oper.wp P o a w K Q else E:=by
 have hw:Region.wanted o (yielded ops a.tmps)=true:=by simp [Region.wanted,hgd]
 rw [yg hw];exact zdV w sl x t u ho base e i ht hu hi hz hsize hby v bs hs hq s hx hne hl hbase h
end Go.Proofs.YtcmoehknppjkiaaGreatDoor
namespace Go.Proofs.YtcmoehknppjkiaaGreatDoor
theorem zgO {α β:Type} {f:α->List β} {l:List α} {k:Nat} {x:α} (h:l[k]?=some x):(l.take (k+1)).flatMap f=(l.take k).flatMap f++f x:=by
 rw [List.take_add_one,h,List.flatMap_append];simp
theorem zgg {α β:Type} {f:α->List β} {M:Nat}:∀l:List α,(∀x∈l,(f x).length<=M)->(l.flatMap f).length<=M*l.length
 | [],_=>by simp
 | x::l,h=>by
  have h1:=h x (List.mem_cons_self ..);have h2:=zgg l fun y hy=>h y (List.mem_cons_of_mem _ hy);rw [List.flatMap_cons,List.length_append,List.length_cons,Nat.mul_succ];omega
theorem flatB_le {α β:Type} {f:α->List β} (l:List α) (k:Nat):((l.take k).flatMap f).length<=(l.flatMap f).length:=by
 conv=>rhs;rw [<-List.take_append_drop k l,List.flatMap_append]
 rw [List.length_append];omega
theorem zdg (n:Int):(numF n).length<=40:=by
 unfold numF;have:=zdQ 2 n true
 simpa [zat] using this
theorem entL_len {e:Ent} (h:zbK e=true):(entL e).length=20:=by
 unfold entL;rw [List.length_append,entB_len h];rfl
theorem ents_len {es:List Ent} (h:es.all zbK=true):(es.flatMap entL).length<=20*es.length :=
 zgg es fun e he=>by rw [entL_len (List.all_eq_true.1 h e he)];omega
theorem zhI {g:Grp} (h:zcm g=true):g.es.all zbK=true:=by
 unfold zcm at h;simp only [Bool.and_eq_true] at h;exact h.2
theorem grpL_len {g:Grp} (h:zcm g=true) (h2:g.es.length<=100):(grpL g).length<=2100:=by
 have h3:=ents_len (zhI h);have h4:=zdg g.first;have h5:=zdg (g.es.length:Int);unfold grpL;simp only [List.length_append,List.length_cons];omega
theorem grps_len {gs:List Grp} (h:gs.all zcm=true) (h2:∀g∈gs,g.es.length<=100):(gs.flatMap grpL).length<=2100*gs.length :=
 zgg gs fun g hg=>grpL_len (List.all_eq_true.1 h g hg) (h2 g hg)
theorem secL_len {s:Sec} (h:zbR s=0) (h2:∀g∈s.gs,g.es.length<=100) (h3:(zat s.tr).length<=3000):(secL s).length<=150000:=by
 have hs:s.gs.length<=64/\s.gs.all zcm=true:=by
  unfold zbR at h
  split at h
  ·cases h
  ·rename_i h1
   split at h
   ·cases h
   ·rename_i h4
    exact ⟨by omega,by simpa using h4⟩
 have h4:=grps_len hs.2 h2;have h5:=Nat.mul_le_mul_left 2100 hs.1;unfold secL;simp only [List.length_append,List.length_cons,List.length_nil];omega
def preG (gs:List Grp) (c:Nat):List UInt8:=[120,114,101,102,10]++(gs.take c).flatMap grpL
def zdq (g:Grp):List UInt8:=numF g.first++[32]++numF (g.es.length:Int)++[10]
theorem preG_next {gs:List Grp} {c:Nat} {g:Grp} (h:gs[c]?=some g):preG gs c++zdq g++(g.es.take g.es.length).flatMap entL=preG gs (c+1):=by
 unfold preG zdq;rw [zgO h,List.take_length];unfold grpL;simp
theorem preG_end (s:Sec):preG s.gs s.gs.length++([116,114,97,105,108,101,114,10]++zat s.tr++[10])=secL s:=by
 unfold preG secL;rw [List.take_length];simp
theorem headG_len (g:Grp):(zdq g).length<=82:=by
 have h1:=zdg g.first;have h2:=zdg (g.es.length:Int);unfold zdq;simp only [List.length_append,List.length_cons,List.length_nil];omega
theorem preG_len {gs:List Grp} (h:gs.all zcm=true) (h2:∀g∈gs,g.es.length<=100) (h64:gs.length<=64) (c:Nat):(preG gs c).length<=140000:=by
 have h3:=grps_len h h2;have h4:=flatB_le (f:=grpL) gs c;have h5:=Nat.mul_le_mul_left 2100 h64;unfold preG;simp only [List.length_append,List.length_cons,List.length_nil];omega
theorem entsT_len {es:List Ent} (h:es.all zbK=true) (h2:es.length<=100) (j:Nat):((es.take j).flatMap entL).length<=2000:=by
 have h3:=ents_len h;have h4:=flatB_le (f:=entL) es j;omega
end Go.Proofs.YtcmoehknppjkiaaGreatDoor
namespace Go.Proofs.YtcmoehknppjkiaaGreatDoor
open Go.RowKit
theorem hexW {w:World} {S:Nat->Prop} {p:Nat} {out:List UInt8} (h:WrQ w S p out) (c:UInt8) (hl:out.length+2<=10000000) :
  Calls Tryz.prog 131 #[.pointer (some ⟨p,0,none⟩),.int .u8 c.toNat] w fun e w'=>e=.returned (.tuple #[])/\zap w S p (out++hexB c) w':=by
 obtain ⟨q,hq⟩:∃q,q=c.toNat / 16:=⟨_,rfl⟩;obtain ⟨r,hr⟩:∃r,r=c.toNat % 16:=⟨_,rfl⟩;have hc:=c.toNat_lt;have hx:hexB c=[hexG q,hexG r]:=by rw [hq,hr];rfl
 rw [hx];have HA:=yb (fun (W:World) (hb:Below w.heap.size w W) (x:Int) (hx:x=((hexG q).toNat:Int))=>za0 (h.keep hb) _ x hx (by omega));obtain ⟨n,hn⟩:∃n,n=c.toNat:=⟨_,rfl⟩;rw [<-hn] at hq hr hc |-;have e1:(n:Int) / 16=(q:Int):=by omega
 have e2:(n:Int) % 16=(r:Int):=by omega
 have e3:n / 16=q:=hq.symm;have e4:n % 16=r:=hr.symm;have Qc:(0:Int)<=(q:Int):=by omega
 have Qa:(q:Int)<16:=by omega
 have Y8:q<16:=by omega
 have Zl:(0:Int)<=(r:Int):=by omega
 have Y9:(r:Int)<16:=by omega
 have Xa:r<16:=by omega
 have YO:((0:Int)<=(n:Int) / 16/\(n:Int) / 16<16)=True:=eq_true ⟨by omega,by omega⟩;have HQ:=yb (show ((n:Int) / 16).toNat=q by omega);have Ye:bits .and .u8 (n:Int) 15=(r:Int):=by rw [u8_and15 n hc,hr]
 clear h hx hn hq hr e1 e2 e3 e4;go_enter Tryz.func131,Tryz.ntmps131
 go_wp2
 go_region_with ((go_at_call 96;refine (HA.out _ (Below.refl _ _).drew _ (sgI _ _ HQ.out)).mono ?_;rintro e w1 ⟨rfl,YP⟩))
 have HB:=yb (fun (S1:Nat->Prop) (W:World) (h:WrQ W S1 p (out++[hexG q])) (x:Int) (hx:x=((hexG r).toNat:Int))=>za0 h _ x hx (by simp;omega));obtain ⟨S1,YQ,QG,QU⟩:=YP;go_wp2
 go_region_with ((go_at_call 96;refine (HB.out S1 _ (YQ.keep (Below.refl _ _).drew) _ (sg_n r)).mono ?_;rintro e w2 ⟨rfl,YR⟩))
 go_wp2;go_end0
 refine ⟨rfl,?_⟩
 have h2:zap w1 S1 p (out++[hexG q,hexG r]) w2:=by
  have h3:=zap.above (Below.refl _ _).drew YR
  rwa [List.append_assoc] at h3
 exact zap.above (Below.refl _ _).drew (zap.trans QG QU h2)
end Go.Proofs.YtcmoehknppjkiaaGreatDoor
