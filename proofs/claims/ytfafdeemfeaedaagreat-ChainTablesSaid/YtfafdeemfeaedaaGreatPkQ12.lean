/-
  Our texts Sr2 to VaM, in one.
-/
import Derived.Test.YtfafdeemfeaedaaGreatPkQ11
import Derived.ProofKit
import Derived.OpenShut
import Derived.Deep.Slices
import Derived.Test.YtfafdeemfeaedaaGreatRows
import Derived.Lib.SmallJoins
import Derived.SizedLaws
set_option maxRecDepth 8000
set_option maxHeartbeats 8000000
namespace Go.Proofs.YtfafdeemfeaedaaGreat
open Go.RowKit
set_option linter.unusedSimpArgs false
set_option linter.unusedVariables false
theorem rown_k0 {n:Int} {s:List UInt8} {l:List PV} {a1:Option Addr} {cap1:Nat} {w:World} (_m1:(l.length:Int)<=9223372036854775807) :
  Calls Tryz.prog 140 #[.agg #[.int .i64 0,.int .i64 n,.string (mkB s),.slice a1 l.length cap1]] w fun e w'=>e=.returned (.int .i64 (if n=0/\s=[]/\l=[] then 0 else 2))/\Below w.heap.size w w':=by
 obtain ⟨R,hR⟩:∃R,R=(if n=0/\s=[]/\l=[] then 0 else 2:Int):=⟨_,rfl⟩
 rw [<-hR]
 have HR:=ya hR
 have HB:=ya (zag w (.cells #[.int .i64 0,.int .i64 n,.string (mkB s),.slice a1 l.length cap1] 27))
 clear hR
 by_cases hs0:s=[]
 ·have es0:(mkB s).toList=[]:=by rw [zal];exact hs0
  have es0b:((mkB s).toList==[])=true:=by rw [beq_iff_eq];exact es0
  have es0c:((mkB s).toList != [])=false:=by simp only [bne,es0b,Bool.not_true]
  by_cases hm0:l=[]
  ·have em0:(l.length==0)=true:=by rw [hm0];rfl
   have em0':((l.length:Int)==0)=true:=by rw [hm0];rfl
   by_cases hn0:n=0
   ·have en0:(n==0)=true:=by rw [beq_iff_eq];exact hn0
    have en0':(n != 0)=false:=by simp only [bne,en0,Bool.not_true]
    have hr:=HR.out
    obtain rfl:R=0:=by rw [hr];simp [hs0,hm0,hn0]
    clear HR hr hs0 hm0 hn0
    generalize l.length=m at *
    generalize mkB s=S at *
    go_enter Tryz.func140,Tryz.ntmps140
    go_wp2
    go_ret
    exact ⟨rfl,HB.out⟩
   ·have en0:(n==0)=false:=by rw [ye];exact hn0
    have en0':(n != 0)=true:=by simp only [bne,en0,yi]
    have hr:=HR.out
    obtain rfl:R=2:=by rw [hr];simp [hs0,hm0,hn0]
    clear HR hr hs0 hm0 hn0
    generalize l.length=m at *
    generalize mkB s=S at *
    go_enter Tryz.func140,Tryz.ntmps140
    go_wp2
    go_ret
    exact ⟨rfl,HB.out⟩
  ·have em0:(l.length==0)=false:=by rw [ye];exact fun e=>hm0 (List.eq_nil_of_length_eq_zero e)
   have em0':((l.length:Int)==0)=false:=by rw [ye];exact fun e=>hm0 (List.eq_nil_of_length_eq_zero (by omega))
   have hr:=HR.out
   obtain rfl:R=2:=by rw [hr];simp [hs0,hm0]
   clear HR hr hs0 hm0
   generalize l.length=m at *
   generalize mkB s=S at *
   go_enter Tryz.func140,Tryz.ntmps140
   go_wp2
   go_ret
   exact ⟨rfl,HB.out⟩
 ·have es0b:((mkB s).toList==[])=false:=by rw [ye,zal];exact hs0
  have es0c:((mkB s).toList != [])=true:=by simp only [bne,es0b,yi]
  have hr:=HR.out
  obtain rfl:R=2:=by rw [hr];simp [hs0]
  clear HR hr hs0
  generalize l.length=m at *
  generalize mkB s=S at *
  go_enter Tryz.func140,Tryz.ntmps140
  go_wp2
  go_ret
  exact ⟨rfl,HB.out⟩
theorem rown_k1 {n:Int} {s:List UInt8} {l:List PV} {a1:Option Addr} {cap1:Nat} {w:World} (_m1:(l.length:Int)<=9223372036854775807) :
  Calls Tryz.prog 140 #[.agg #[.int .i64 1,.int .i64 n,.string (mkB s),.slice a1 l.length cap1]] w fun e w'=>e=.returned (.int .i64 (if (n=0\/n=1)/\s=[]/\l=[] then 0 else 2))/\Below w.heap.size w w':=by
 obtain ⟨R,hR⟩:∃R,R=(if (n=0\/n=1)/\s=[]/\l=[] then 0 else 2:Int):=⟨_,rfl⟩
 rw [<-hR]
 have HR:=ya hR
 have HB:=ya (zag w (.cells #[.int .i64 1,.int .i64 n,.string (mkB s),.slice a1 l.length cap1] 27))
 clear hR
 by_cases hs0:s=[]
 ·have es0:(mkB s).toList=[]:=by rw [zal];exact hs0
  have es0b:((mkB s).toList==[])=true:=by rw [beq_iff_eq];exact es0
  have es0c:((mkB s).toList != [])=false:=by simp only [bne,es0b,Bool.not_true]
  by_cases hm0:l=[]
  ·have em0:(l.length==0)=true:=by rw [hm0];rfl
   have em0':((l.length:Int)==0)=true:=by rw [hm0];rfl
   by_cases hn0:n=0
   ·have en0:(n==0)=true:=by rw [beq_iff_eq];exact hn0
    have en0':(n != 0)=false:=by simp only [bne,en0,Bool.not_true]
    have hr:=HR.out
    obtain rfl:R=0:=by rw [hr];simp [hs0,hm0,hn0]
    clear HR hr hs0 hm0 hn0
    generalize l.length=m at *
    generalize mkB s=S at *
    go_enter Tryz.func140,Tryz.ntmps140
    go_wp2
    go_ret
    exact ⟨rfl,HB.out⟩
   ·have en0:(n==0)=false:=by rw [ye];exact hn0
    have en0':(n != 0)=true:=by simp only [bne,en0,yi]
    by_cases hn1:n=1
    ·have en1:(n==1)=true:=by rw [beq_iff_eq];exact hn1
     have hr:=HR.out
     obtain rfl:R=0:=by rw [hr];simp [hs0,hm0,hn1]
     clear HR hr hs0 hm0 hn0 hn1
     generalize l.length=m at *
     generalize mkB s=S at *
     go_enter Tryz.func140,Tryz.ntmps140
     go_wp2
     go_ret
     exact ⟨rfl,HB.out⟩
    ·have en1:(n==1)=false:=by rw [ye];exact hn1
     have hr:=HR.out
     obtain rfl:R=2:=by rw [hr];simp [hs0,hm0,hn0,hn1]
     clear HR hr hs0 hm0 hn0 hn1
     generalize l.length=m at *
     generalize mkB s=S at *
     go_enter Tryz.func140,Tryz.ntmps140
     go_wp2
     go_ret
     exact ⟨rfl,HB.out⟩
  ·have em0:(l.length==0)=false:=by rw [ye];exact fun e=>hm0 (List.eq_nil_of_length_eq_zero e)
   have em0':((l.length:Int)==0)=false:=by rw [ye];exact fun e=>hm0 (List.eq_nil_of_length_eq_zero (by omega))
   have hr:=HR.out
   obtain rfl:R=2:=by rw [hr];simp [hs0,hm0]
   clear HR hr hs0 hm0
   generalize l.length=m at *
   generalize mkB s=S at *
   go_enter Tryz.func140,Tryz.ntmps140
   go_wp2
   go_ret
   exact ⟨rfl,HB.out⟩
 ·have es0b:((mkB s).toList==[])=false:=by rw [ye,zal];exact hs0
  have es0c:((mkB s).toList != [])=true:=by simp only [bne,es0b,yi]
  have hr:=HR.out
  obtain rfl:R=2:=by rw [hr];simp [hs0]
  clear HR hr hs0
  generalize l.length=m at *
  generalize mkB s=S at *
  go_enter Tryz.func140,Tryz.ntmps140
  go_wp2
  go_ret
  exact ⟨rfl,HB.out⟩
theorem rown_k4 {n:Int} {s:List UInt8} {l:List PV} {a1:Option Addr} {cap1:Nat} {w:World} (_m1:(l.length:Int)<=9223372036854775807) :
  Calls Tryz.prog 140 #[.agg #[.int .i64 4,.int .i64 n,.string (mkB s),.slice a1 l.length cap1]] w fun e w'=>e=.returned (.int .i64 (if n=0/\l=[] then 0 else 2))/\Below w.heap.size w w':=by
 obtain ⟨R,hR⟩:∃R,R=(if n=0/\l=[] then 0 else 2:Int):=⟨_,rfl⟩
 rw [<-hR]
 have HR:=ya hR
 have HB:=ya (zag w (.cells #[.int .i64 4,.int .i64 n,.string (mkB s),.slice a1 l.length cap1] 27))
 clear hR
 by_cases hs0:s=[]
 ·have es0:(mkB s).toList=[]:=by rw [zal];exact hs0
  have es0b:((mkB s).toList==[])=true:=by rw [beq_iff_eq];exact es0
  have es0c:((mkB s).toList != [])=false:=by simp only [bne,es0b,Bool.not_true]
  by_cases hm0:l=[]
  ·have em0:(l.length==0)=true:=by rw [hm0];rfl
   have em0':((l.length:Int)==0)=true:=by rw [hm0];rfl
   by_cases hn0:n=0
   ·have en0:(n==0)=true:=by rw [beq_iff_eq];exact hn0
    have en0':(n != 0)=false:=by simp only [bne,en0,Bool.not_true]
    have hr:=HR.out
    obtain rfl:R=0:=by rw [hr];simp [hs0,hm0,hn0]
    clear HR hr hs0 hm0 hn0
    generalize l.length=m at *
    generalize mkB s=S at *
    go_enter Tryz.func140,Tryz.ntmps140
    go_wp2
    go_ret
    exact ⟨rfl,HB.out⟩
   ·have en0:(n==0)=false:=by rw [ye];exact hn0
    have en0':(n != 0)=true:=by simp only [bne,en0,yi]
    have hr:=HR.out
    obtain rfl:R=2:=by rw [hr];simp [hs0,hm0,hn0]
    clear HR hr hs0 hm0 hn0
    generalize l.length=m at *
    generalize mkB s=S at *
    go_enter Tryz.func140,Tryz.ntmps140
    go_wp2
    go_ret
    exact ⟨rfl,HB.out⟩
  ·have em0:(l.length==0)=false:=by rw [ye];exact fun e=>hm0 (List.eq_nil_of_length_eq_zero e)
   have em0':((l.length:Int)==0)=false:=by rw [ye];exact fun e=>hm0 (List.eq_nil_of_length_eq_zero (by omega))
   by_cases hn0:n=0
   ·have en0:(n==0)=true:=by rw [beq_iff_eq];exact hn0
    have en0':(n != 0)=false:=by simp only [bne,en0,Bool.not_true]
    have hr:=HR.out
    obtain rfl:R=2:=by rw [hr];simp [hs0,hm0,hn0]
    clear HR hr hs0 hm0 hn0
    generalize l.length=m at *
    generalize mkB s=S at *
    go_enter Tryz.func140,Tryz.ntmps140
    go_wp2
    go_ret
    exact ⟨rfl,HB.out⟩
   ·have en0:(n==0)=false:=by rw [ye];exact hn0
    have en0':(n != 0)=true:=by simp only [bne,en0,yi]
    have hr:=HR.out
    obtain rfl:R=2:=by rw [hr];simp [hs0,hm0,hn0]
    clear HR hr hs0 hm0 hn0
    generalize l.length=m at *
    generalize mkB s=S at *
    go_enter Tryz.func140,Tryz.ntmps140
    go_wp2
    go_ret
    exact ⟨rfl,HB.out⟩
 ·have es0b:((mkB s).toList==[])=false:=by rw [ye,zal];exact hs0
  have es0c:((mkB s).toList != [])=true:=by simp only [bne,es0b,yi]
  by_cases hn0:n=0
  ·have en0:(n==0)=true:=by rw [beq_iff_eq];exact hn0
   have en0':(n != 0)=false:=by simp only [bne,en0,Bool.not_true]
   by_cases hm0:l=[]
   ·have em0:(l.length==0)=true:=by rw [hm0];rfl
    have em0':((l.length:Int)==0)=true:=by rw [hm0];rfl
    have hr:=HR.out
    obtain rfl:R=0:=by rw [hr];simp [hs0,hn0,hm0]
    clear HR hr hs0 hn0 hm0
    generalize l.length=m at *
    generalize mkB s=S at *
    go_enter Tryz.func140,Tryz.ntmps140
    go_wp2
    go_ret
    exact ⟨rfl,HB.out⟩
   ·have em0:(l.length==0)=false:=by rw [ye];exact fun e=>hm0 (List.eq_nil_of_length_eq_zero e)
    have em0':((l.length:Int)==0)=false:=by rw [ye];exact fun e=>hm0 (List.eq_nil_of_length_eq_zero (by omega))
    have hr:=HR.out
    obtain rfl:R=2:=by rw [hr];simp [hs0,hn0,hm0]
    clear HR hr hs0 hn0 hm0
    generalize l.length=m at *
    generalize mkB s=S at *
    go_enter Tryz.func140,Tryz.ntmps140
    go_wp2
    go_ret
    exact ⟨rfl,HB.out⟩
  ·have en0:(n==0)=false:=by rw [ye];exact hn0
   have en0':(n != 0)=true:=by simp only [bne,en0,yi]
   have hr:=HR.out
   obtain rfl:R=2:=by rw [hr];simp [hs0,hn0]
   clear HR hr hs0 hn0
   generalize l.length=m at *
   generalize mkB s=S at *
   go_enter Tryz.func140,Tryz.ntmps140
   go_wp2
   go_ret
   exact ⟨rfl,HB.out⟩
theorem rown_k6 {n:Int} {s:List UInt8} {l:List PV} {a1:Option Addr} {cap1:Nat} {w:World} (_m1:(l.length:Int)<=9223372036854775807) :
  Calls Tryz.prog 140 #[.agg #[.int .i64 6,.int .i64 n,.string (mkB s),.slice a1 l.length cap1]] w fun e w'=>e=.returned (.int .i64 (if n=0/\s=[] then 0 else 2))/\Below w.heap.size w w':=by
 obtain ⟨R,hR⟩:∃R,R=(if n=0/\s=[] then 0 else 2:Int):=⟨_,rfl⟩
 rw [<-hR]
 have HR:=ya hR
 have HB:=ya (zag w (.cells #[.int .i64 6,.int .i64 n,.string (mkB s),.slice a1 l.length cap1] 27))
 clear hR
 by_cases hs0:s=[]
 ·have es0:(mkB s).toList=[]:=by rw [zal];exact hs0
  have es0b:((mkB s).toList==[])=true:=by rw [beq_iff_eq];exact es0
  have es0c:((mkB s).toList != [])=false:=by simp only [bne,es0b,Bool.not_true]
  by_cases hm0:l=[]
  ·have em0:(l.length==0)=true:=by rw [hm0];rfl
   have em0':((l.length:Int)==0)=true:=by rw [hm0];rfl
   by_cases hn0:n=0
   ·have en0:(n==0)=true:=by rw [beq_iff_eq];exact hn0
    have en0':(n != 0)=false:=by simp only [bne,en0,Bool.not_true]
    have hr:=HR.out
    obtain rfl:R=0:=by rw [hr];simp [hs0,hm0,hn0]
    clear HR hr hs0 hm0 hn0
    generalize l.length=m at *
    generalize mkB s=S at *
    go_enter Tryz.func140,Tryz.ntmps140
    go_wp2
    go_ret
    exact ⟨rfl,HB.out⟩
   ·have en0:(n==0)=false:=by rw [ye];exact hn0
    have en0':(n != 0)=true:=by simp only [bne,en0,yi]
    have hr:=HR.out
    obtain rfl:R=2:=by rw [hr];simp [hs0,hm0,hn0]
    clear HR hr hs0 hm0 hn0
    generalize l.length=m at *
    generalize mkB s=S at *
    go_enter Tryz.func140,Tryz.ntmps140
    go_wp2
    go_ret
    exact ⟨rfl,HB.out⟩
  ·have em0:(l.length==0)=false:=by rw [ye];exact fun e=>hm0 (List.eq_nil_of_length_eq_zero e)
   have em0':((l.length:Int)==0)=false:=by rw [ye];exact fun e=>hm0 (List.eq_nil_of_length_eq_zero (by omega))
   by_cases hn0:n=0
   ·have en0:(n==0)=true:=by rw [beq_iff_eq];exact hn0
    have en0':(n != 0)=false:=by simp only [bne,en0,Bool.not_true]
    have hr:=HR.out
    obtain rfl:R=0:=by rw [hr];simp [hs0,hm0,hn0]
    clear HR hr hs0 hm0 hn0
    generalize l.length=m at *
    generalize mkB s=S at *
    go_enter Tryz.func140,Tryz.ntmps140
    go_wp2
    go_ret
    exact ⟨rfl,HB.out⟩
   ·have en0:(n==0)=false:=by rw [ye];exact hn0
    have en0':(n != 0)=true:=by simp only [bne,en0,yi]
    have hr:=HR.out
    obtain rfl:R=2:=by rw [hr];simp [hs0,hm0,hn0]
    clear HR hr hs0 hm0 hn0
    generalize l.length=m at *
    generalize mkB s=S at *
    go_enter Tryz.func140,Tryz.ntmps140
    go_wp2
    go_ret
    exact ⟨rfl,HB.out⟩
 ·have es0b:((mkB s).toList==[])=false:=by rw [ye,zal];exact hs0
  have es0c:((mkB s).toList != [])=true:=by simp only [bne,es0b,yi]
  by_cases hn0:n=0
  ·have en0:(n==0)=true:=by rw [beq_iff_eq];exact hn0
   have en0':(n != 0)=false:=by simp only [bne,en0,Bool.not_true]
   have hr:=HR.out
   obtain rfl:R=2:=by rw [hr];simp [hs0,hn0]
   clear HR hr hs0 hn0
   generalize l.length=m at *
   generalize mkB s=S at *
   go_enter Tryz.func140,Tryz.ntmps140
   go_wp2
   go_ret
   exact ⟨rfl,HB.out⟩
  ·have en0:(n==0)=false:=by rw [ye];exact hn0
   have en0':(n != 0)=true:=by simp only [bne,en0,yi]
   have hr:=HR.out
   obtain rfl:R=2:=by rw [hr];simp [hs0,hn0]
   clear HR hr hs0 hn0
   generalize l.length=m at *
   generalize mkB s=S at *
   go_enter Tryz.func140,Tryz.ntmps140
   go_wp2
   go_ret
   exact ⟨rfl,HB.out⟩
theorem rown_k8 {n:Int} {s:List UInt8} {l:List PV} {a1:Option Addr} {cap1:Nat} {w:World} (_m1:(l.length:Int)<=9223372036854775807) :
  Calls Tryz.prog 140 #[.agg #[.int .i64 8,.int .i64 n,.string (mkB s),.slice a1 l.length cap1]] w fun e w'=>e=.returned (.int .i64 (if 1<=n/\n<=4096/\s=[]/\l=[] then 0 else 2))/\Below w.heap.size w w':=by
 obtain ⟨R,hR⟩:∃R,R=(if 1<=n/\n<=4096/\s=[]/\l=[] then 0 else 2:Int):=⟨_,rfl⟩
 rw [<-hR]
 have HR:=ya hR
 have HB:=ya (zag w (.cells #[.int .i64 8,.int .i64 n,.string (mkB s),.slice a1 l.length cap1] 27))
 clear hR
 by_cases hs0:s=[]
 ·have es0:(mkB s).toList=[]:=by rw [zal];exact hs0
  have es0b:((mkB s).toList==[])=true:=by rw [beq_iff_eq];exact es0
  have es0c:((mkB s).toList != [])=false:=by simp only [bne,es0b,Bool.not_true]
  by_cases hm0:l=[]
  ·have em0:(l.length==0)=true:=by rw [hm0];rfl
   have em0':((l.length:Int)==0)=true:=by rw [hm0];rfl
   by_cases hg1:1<=n
   ·have eg1:decide (1<=n)=true:=yb hg1
    by_cases hle:n<=4096
    ·have ele:decide (n<=4096)=true:=yb hle
     have hr:=HR.out
     obtain rfl:R=0:=by rw [hr];simp [hs0,hm0,hg1,hle]
     clear HR hr hs0 hm0 hg1 hle
     generalize l.length=m at *
     generalize mkB s=S at *
     go_enter Tryz.func140,Tryz.ntmps140
     go_wp2
     go_ret
     exact ⟨rfl,HB.out⟩
    ·have ele:decide (n<=4096)=false:=yd hle
     have hr:=HR.out
     obtain rfl:R=2:=by rw [hr];simp [hs0,hm0,hg1,hle]
     clear HR hr hs0 hm0 hg1 hle
     generalize l.length=m at *
     generalize mkB s=S at *
     go_enter Tryz.func140,Tryz.ntmps140
     go_wp2
     go_ret
     exact ⟨rfl,HB.out⟩
   ·have eg1:decide (1<=n)=false:=yd hg1
    have hr:=HR.out
    obtain rfl:R=2:=by rw [hr];simp [hs0,hm0,hg1]
    clear HR hr hs0 hm0 hg1
    generalize l.length=m at *
    generalize mkB s=S at *
    go_enter Tryz.func140,Tryz.ntmps140
    go_wp2
    go_ret
    exact ⟨rfl,HB.out⟩
  ·have em0:(l.length==0)=false:=by rw [ye];exact fun e=>hm0 (List.eq_nil_of_length_eq_zero e)
   have em0':((l.length:Int)==0)=false:=by rw [ye];exact fun e=>hm0 (List.eq_nil_of_length_eq_zero (by omega))
   have hr:=HR.out
   obtain rfl:R=2:=by rw [hr];simp [hs0,hm0]
   clear HR hr hs0 hm0
   generalize l.length=m at *
   generalize mkB s=S at *
   go_enter Tryz.func140,Tryz.ntmps140
   go_wp2
   go_ret
   exact ⟨rfl,HB.out⟩
 ·have es0b:((mkB s).toList==[])=false:=by rw [ye,zal];exact hs0
  have es0c:((mkB s).toList != [])=true:=by simp only [bne,es0b,yi]
  have hr:=HR.out
  obtain rfl:R=2:=by rw [hr];simp [hs0]
  clear HR hr hs0
  generalize l.length=m at *
  generalize mkB s=S at *
  go_enter Tryz.func140,Tryz.ntmps140
  go_wp2
  go_ret
  exact ⟨rfl,HB.out⟩
theorem rown_k2 {n:Int} {s:List UInt8} {l:List PV} {a1:Option Addr} {cap1:Nat} {w:World} (_m1:(l.length:Int)<=9223372036854775807) :
  Calls Tryz.prog 140 #[.agg #[.int .i64 2,.int .i64 n,.string (mkB s),.slice a1 l.length cap1]] w fun e w'=>e=.returned (.int .i64 (zaI 2 n (zbn (mkB s) l.length)))/\Below w.heap.size w w':=by
 obtain ⟨R,hR⟩:∃R,R=(zaI 2 n (zbn (mkB s) l.length):Int):=⟨_,rfl⟩
 rw [<-hR]
 have HR:=ya hR
 have HB:=ya (zag w (.cells #[.int .i64 2,.int .i64 n,.string (mkB s),.slice a1 l.length cap1] 27))
 clear hR
 have HP:=ya (fun W=>zdz 2 n (mkB s) a1 l.length cap1 W _m1)
 rw [<-HR.out] at HP
 clear HR
 by_cases hs0:s=[]
 ·have es0:(mkB s).toList=[]:=by rw [zal];exact hs0
  have es0b:((mkB s).toList==[])=true:=by rw [beq_iff_eq];exact es0
  have es0c:((mkB s).toList != [])=false:=by simp only [bne,es0b,Bool.not_true]
  by_cases hm0:l=[]
  ·have em0:(l.length==0)=true:=by rw [hm0];rfl
   have em0':((l.length:Int)==0)=true:=by rw [hm0];rfl
   clear hs0 hm0
   generalize l.length=m at *
   generalize mkB s=S at *
   go_enter Tryz.func140,Tryz.ntmps140
   go_wp2_with (go_at_call 131;refine (HP.out _).mono ?_;rintro e w1 ⟨rfl,hb1⟩)
   go_ret
   exact ⟨rfl,HB.out.trans (hb1.mono HB.out.size)⟩
  ·have em0:(l.length==0)=false:=by rw [ye];exact fun e=>hm0 (List.eq_nil_of_length_eq_zero e)
   have em0':((l.length:Int)==0)=false:=by rw [ye];exact fun e=>hm0 (List.eq_nil_of_length_eq_zero (by omega))
   clear hs0 hm0
   generalize l.length=m at *
   generalize mkB s=S at *
   go_enter Tryz.func140,Tryz.ntmps140
   go_wp2_with (go_at_call 131;refine (HP.out _).mono ?_;rintro e w1 ⟨rfl,hb1⟩)
   go_ret
   exact ⟨rfl,HB.out.trans (hb1.mono HB.out.size)⟩
 ·have es0b:((mkB s).toList==[])=false:=by rw [ye,zal];exact hs0
  have es0c:((mkB s).toList != [])=true:=by simp only [bne,es0b,yi]
  clear hs0
  generalize l.length=m at *
  generalize mkB s=S at *
  go_enter Tryz.func140,Tryz.ntmps140
  go_wp2_with (go_at_call 131;refine (HP.out _).mono ?_;rintro e w1 ⟨rfl,hb1⟩)
  go_ret
  exact ⟨rfl,HB.out.trans (hb1.mono HB.out.size)⟩
theorem rown_k3 {n:Int} {s:List UInt8} {l:List PV} {a1:Option Addr} {cap1:Nat} {w:World} (_m1:(l.length:Int)<=9223372036854775807) :
  Calls Tryz.prog 140 #[.agg #[.int .i64 3,.int .i64 n,.string (mkB s),.slice a1 l.length cap1]] w fun e w'=>e=.returned (.int .i64 (zaI 3 n (zbn (mkB s) l.length)))/\Below w.heap.size w w':=by
 obtain ⟨R,hR⟩:∃R,R=(zaI 3 n (zbn (mkB s) l.length):Int):=⟨_,rfl⟩
 rw [<-hR]
 have HR:=ya hR
 have HB:=ya (zag w (.cells #[.int .i64 3,.int .i64 n,.string (mkB s),.slice a1 l.length cap1] 27))
 clear hR
 have HP:=ya (fun W=>zdz 3 n (mkB s) a1 l.length cap1 W _m1)
 rw [<-HR.out] at HP
 clear HR
 by_cases hs0:s=[]
 ·have es0:(mkB s).toList=[]:=by rw [zal];exact hs0
  have es0b:((mkB s).toList==[])=true:=by rw [beq_iff_eq];exact es0
  have es0c:((mkB s).toList != [])=false:=by simp only [bne,es0b,Bool.not_true]
  by_cases hm0:l=[]
  ·have em0:(l.length==0)=true:=by rw [hm0];rfl
   have em0':((l.length:Int)==0)=true:=by rw [hm0];rfl
   clear hs0 hm0
   generalize l.length=m at *
   generalize mkB s=S at *
   go_enter Tryz.func140,Tryz.ntmps140
   go_wp2_with (go_at_call 131;refine (HP.out _).mono ?_;rintro e w1 ⟨rfl,hb1⟩)
   go_ret
   exact ⟨rfl,HB.out.trans (hb1.mono HB.out.size)⟩
  ·have em0:(l.length==0)=false:=by rw [ye];exact fun e=>hm0 (List.eq_nil_of_length_eq_zero e)
   have em0':((l.length:Int)==0)=false:=by rw [ye];exact fun e=>hm0 (List.eq_nil_of_length_eq_zero (by omega))
   clear hs0 hm0
   generalize l.length=m at *
   generalize mkB s=S at *
   go_enter Tryz.func140,Tryz.ntmps140
   go_wp2_with (go_at_call 131;refine (HP.out _).mono ?_;rintro e w1 ⟨rfl,hb1⟩)
   go_ret
   exact ⟨rfl,HB.out.trans (hb1.mono HB.out.size)⟩
 ·have es0b:((mkB s).toList==[])=false:=by rw [ye,zal];exact hs0
  have es0c:((mkB s).toList != [])=true:=by simp only [bne,es0b,yi]
  clear hs0
  generalize l.length=m at *
  generalize mkB s=S at *
  go_enter Tryz.func140,Tryz.ntmps140
  go_wp2_with (go_at_call 131;refine (HP.out _).mono ?_;rintro e w1 ⟨rfl,hb1⟩)
  go_ret
  exact ⟨rfl,HB.out.trans (hb1.mono HB.out.size)⟩
theorem rown_k5 {n:Int} {s:List UInt8} {l:List PV} {a1:Option Addr} {cap1:Nat} {w:World} (hsl:s.length<=288230376151711744) (_m1:(l.length:Int)<=9223372036854775807) :
  Calls Tryz.prog 140 #[.agg #[.int .i64 5,.int .i64 n,.string (mkB s),.slice a1 l.length cap1]] w fun e w'=>e=.returned (.int .i64 (if 127<s.length\/(0:UInt8)∈s then 17 else if n=0/\l=[] then 0 else 2))/\Below w.heap.size w w':=by
 obtain ⟨R,hR⟩:∃R,R=(if 127<s.length\/(0:UInt8)∈s then 17 else if n=0/\l=[] then 0 else 2:Int):=⟨_,rfl⟩
 rw [<-hR]
 have HR:=ya hR
 have HB:=ya (zag w (.cells #[.int .i64 5,.int .i64 n,.string (mkB s),.slice a1 l.length cap1] 27))
 clear hR
 have HT:=ya (fun W=>rtext11 s W (by omega))
 have hq:R=if zeW s=false then 17 else if n=0/\l=[] then 0 else 2:=by
  rw [HR.out,nameC_is]
 have HX1:=ya (zac (w:=w) (.cells #[.int .i64 5,.int .i64 n,.string (mkB s),.slice a1 l.length cap1] 27) rfl)
 clear HR
 generalize zeW s=nc at *
 have HR:=ya hq
 clear hq hsl
 cases nc
 ·by_cases hs0:s=[]
  ·have es0:(mkB s).toList=[]:=by rw [zal];exact hs0
   have es0b:((mkB s).toList==[])=true:=by rw [beq_iff_eq];exact es0
   have es0c:((mkB s).toList != [])=false:=by simp only [bne,es0b,Bool.not_true]
   by_cases hm0:l=[]
   ·have em0:(l.length==0)=true:=by rw [hm0];rfl
    have em0':((l.length:Int)==0)=true:=by rw [hm0];rfl
    have hr:=HR.out
    obtain rfl:R=17:=by rw [hr];simp [hs0,hm0]
    clear HR hr hs0 hm0
    generalize l.length=m at *
    generalize mkB s=S at *
    go_enter Tryz.func140,Tryz.ntmps140
    go_wp2_with (go_at_call 134;refine (HT.out _).mono ?_;rintro e w1 ⟨rfl,rfl⟩)
    go_ret
    exact ⟨rfl,HB.out⟩
   ·have em0:(l.length==0)=false:=by rw [ye];exact fun e=>hm0 (List.eq_nil_of_length_eq_zero e)
    have em0':((l.length:Int)==0)=false:=by rw [ye];exact fun e=>hm0 (List.eq_nil_of_length_eq_zero (by omega))
    have hr:=HR.out
    obtain rfl:R=17:=by rw [hr];simp [hs0,hm0]
    clear HR hr hs0 hm0
    generalize l.length=m at *
    generalize mkB s=S at *
    go_enter Tryz.func140,Tryz.ntmps140
    go_wp2_with (go_at_call 134;refine (HT.out _).mono ?_;rintro e w1 ⟨rfl,rfl⟩)
    go_ret
    exact ⟨rfl,HB.out⟩
  ·have es0b:((mkB s).toList==[])=false:=by rw [ye,zal];exact hs0
   have es0c:((mkB s).toList != [])=true:=by simp only [bne,es0b,yi]
   have hr:=HR.out
   obtain rfl:R=17:=by rw [hr];simp [hs0]
   clear HR hr hs0
   generalize l.length=m at *
   generalize mkB s=S at *
   go_enter Tryz.func140,Tryz.ntmps140
   go_wp2_with (go_at_call 134;refine (HT.out _).mono ?_;rintro e w1 ⟨rfl,rfl⟩)
   go_ret
   exact ⟨rfl,HB.out⟩
 ·by_cases hs0:s=[]
  ·have es0:(mkB s).toList=[]:=by rw [zal];exact hs0
   have es0b:((mkB s).toList==[])=true:=by rw [beq_iff_eq];exact es0
   have es0c:((mkB s).toList != [])=false:=by simp only [bne,es0b,Bool.not_true]
   by_cases hm0:l=[]
   ·have em0:(l.length==0)=true:=by rw [hm0];rfl
    have em0':((l.length:Int)==0)=true:=by rw [hm0];rfl
    by_cases hn0:n=0
    ·have en0:(n==0)=true:=by rw [beq_iff_eq];exact hn0
     have en0':(n != 0)=false:=by simp only [bne,en0,Bool.not_true]
     have hr:=HR.out
     obtain rfl:R=0:=by rw [hr];simp [hs0,hm0,hn0]
     clear HR hr hs0 hm0 hn0
     generalize l.length=m at *
     generalize mkB s=S at *
     go_enter Tryz.func140,Tryz.ntmps140
     go_wp2_with (go_at_call 134;refine (HT.out _).mono ?_;rintro e w1 ⟨rfl,rfl⟩)
     go_ret
     exact ⟨rfl,HB.out⟩
    ·have en0:(n==0)=false:=by rw [ye];exact hn0
     have en0':(n != 0)=true:=by simp only [bne,en0,yi]
     have hr:=HR.out
     obtain rfl:R=2:=by rw [hr];simp [hs0,hm0,hn0]
     clear HR hr hs0 hm0 hn0
     generalize l.length=m at *
     generalize mkB s=S at *
     go_enter Tryz.func140,Tryz.ntmps140
     go_wp2_with (go_at_call 134;refine (HT.out _).mono ?_;rintro e w1 ⟨rfl,rfl⟩)
     go_ret
     exact ⟨rfl,HB.out⟩
   ·have em0:(l.length==0)=false:=by rw [ye];exact fun e=>hm0 (List.eq_nil_of_length_eq_zero e)
    have em0':((l.length:Int)==0)=false:=by rw [ye];exact fun e=>hm0 (List.eq_nil_of_length_eq_zero (by omega))
    by_cases hn0:n=0
    ·have en0:(n==0)=true:=by rw [beq_iff_eq];exact hn0
     have en0':(n != 0)=false:=by simp only [bne,en0,Bool.not_true]
     have hr:=HR.out
     obtain rfl:R=2:=by rw [hr];simp [hs0,hm0,hn0]
     clear HR hr hs0 hm0 hn0
     generalize l.length=m at *
     generalize mkB s=S at *
     go_enter Tryz.func140,Tryz.ntmps140
     go_wp2_with (go_at_call 134;refine (HT.out _).mono ?_;rintro e w1 ⟨rfl,rfl⟩)
     go_ret
     exact ⟨rfl,HB.out⟩
    ·have en0:(n==0)=false:=by rw [ye];exact hn0
     have en0':(n != 0)=true:=by simp only [bne,en0,yi]
     have hr:=HR.out
     obtain rfl:R=2:=by rw [hr];simp [hs0,hm0,hn0]
     clear HR hr hs0 hm0 hn0
     generalize l.length=m at *
     generalize mkB s=S at *
     go_enter Tryz.func140,Tryz.ntmps140
     go_wp2_with (go_at_call 134;refine (HT.out _).mono ?_;rintro e w1 ⟨rfl,rfl⟩)
     go_ret
     exact ⟨rfl,HB.out⟩
  ·have es0b:((mkB s).toList==[])=false:=by rw [ye,zal];exact hs0
   have es0c:((mkB s).toList != [])=true:=by simp only [bne,es0b,yi]
   by_cases hn0:n=0
   ·have en0:(n==0)=true:=by rw [beq_iff_eq];exact hn0
    have en0':(n != 0)=false:=by simp only [bne,en0,Bool.not_true]
    by_cases hm0:l=[]
    ·have em0:(l.length==0)=true:=by rw [hm0];rfl
     have em0':((l.length:Int)==0)=true:=by rw [hm0];rfl
     have hr:=HR.out
     obtain rfl:R=0:=by rw [hr];simp [hs0,hn0,hm0]
     clear HR hr hs0 hn0 hm0
     generalize l.length=m at *
     generalize mkB s=S at *
     go_enter Tryz.func140,Tryz.ntmps140
     go_wp2_with (go_at_call 134;refine (HT.out _).mono ?_;rintro e w1 ⟨rfl,rfl⟩)
     go_ret
     exact ⟨rfl,HB.out⟩
    ·have em0:(l.length==0)=false:=by rw [ye];exact fun e=>hm0 (List.eq_nil_of_length_eq_zero e)
     have em0':((l.length:Int)==0)=false:=by rw [ye];exact fun e=>hm0 (List.eq_nil_of_length_eq_zero (by omega))
     have hr:=HR.out
     obtain rfl:R=2:=by rw [hr];simp [hs0,hn0,hm0]
     clear HR hr hs0 hn0 hm0
     generalize l.length=m at *
     generalize mkB s=S at *
     go_enter Tryz.func140,Tryz.ntmps140
     go_wp2_with (go_at_call 134;refine (HT.out _).mono ?_;rintro e w1 ⟨rfl,rfl⟩)
     go_ret
     exact ⟨rfl,HB.out⟩
   ·have en0:(n==0)=false:=by rw [ye];exact hn0
    have en0':(n != 0)=true:=by simp only [bne,en0,yi]
    have hr:=HR.out
    obtain rfl:R=2:=by rw [hr];simp [hs0,hn0]
    clear HR hr hs0 hn0
    generalize l.length=m at *
    generalize mkB s=S at *
    go_enter Tryz.func140,Tryz.ntmps140
    go_wp2_with (go_at_call 134;refine (HT.out _).mono ?_;rintro e w1 ⟨rfl,rfl⟩)
    go_ret
    exact ⟨rfl,HB.out⟩
theorem rown_k7 {n:Int} {s:List UInt8} {l:List PV} {a1:Option Addr} {cap1:Nat} {w:World} (hv:IsV w anyF (.mk 7 n s l) (.slice a1 l.length cap1)) :
  Calls Tryz.prog 140 #[.agg #[.int .i64 7,.int .i64 n,.string (mkB s),.slice a1 l.length cap1]] w fun e w'=>e=.returned (.int .i64 (if n=0/\s=[] then dictC l else 2))/\Below w.heap.size w w':=by
 have HB:=ya (zag w (.cells #[.int .i64 7,.int .i64 n,.string (mkB s),.slice a1 l.length cap1] 27))
 have HD:=ya (fun (W:World) (h:Below w.heap.size w W)=>rdictA (hv.below h))
 clear hv
 simp only [pvA,PV.kind,PV.n,PV.s,PV.l] at HD
 generalize (if n=0/\s=[] then dictC l else 2:Int)=R at *
 by_cases hs0:s=[]
 ·have es0:(mkB s).toList=[]:=by rw [zal];exact hs0
  have es0b:((mkB s).toList==[])=true:=by rw [beq_iff_eq];exact es0
  have es0c:((mkB s).toList != [])=false:=by simp only [bne,es0b,Bool.not_true]
  by_cases hm0:l=[]
  ·have em0:(l.length==0)=true:=by rw [hm0];rfl
   have em0':((l.length:Int)==0)=true:=by rw [hm0];rfl
   clear hs0 hm0
   generalize l.length=m at *
   generalize mkB s=S at *
   go_enter Tryz.func140,Tryz.ntmps140
   go_wp2_with (go_at_call 169;refine (HD.out _ HB.out).mono ?_;rintro e w1 ⟨rfl,hb1⟩)
   go_ret
   exact ⟨rfl,HB.out.trans (hb1.mono HB.out.size)⟩
  ·have em0:(l.length==0)=false:=by rw [ye];exact fun e=>hm0 (List.eq_nil_of_length_eq_zero e)
   have em0':((l.length:Int)==0)=false:=by rw [ye];exact fun e=>hm0 (List.eq_nil_of_length_eq_zero (by omega))
   clear hs0 hm0
   generalize l.length=m at *
   generalize mkB s=S at *
   go_enter Tryz.func140,Tryz.ntmps140
   go_wp2_with (go_at_call 169;refine (HD.out _ HB.out).mono ?_;rintro e w1 ⟨rfl,hb1⟩)
   go_ret
   exact ⟨rfl,HB.out.trans (hb1.mono HB.out.size)⟩
 ·have es0b:((mkB s).toList==[])=false:=by rw [ye,zal];exact hs0
  have es0c:((mkB s).toList != [])=true:=by simp only [bne,es0b,yi]
  clear hs0
  generalize l.length=m at *
  generalize mkB s=S at *
  go_enter Tryz.func140,Tryz.ntmps140
  go_wp2_with (go_at_call 169;refine (HD.out _ HB.out).mono ?_;rintro e w1 ⟨rfl,hb1⟩)
  go_ret
  exact ⟨rfl,HB.out.trans (hb1.mono HB.out.size)⟩
theorem rown_kx {k n:Int} {s:List UInt8} {l:List PV} {a1:Option Addr} {cap1:Nat} {w:World} (_m1:(l.length:Int)<=9223372036854775807) (hk:k≠0/\k≠1/\k≠2/\k≠3/\k≠4/\k≠5/\k≠6/\k≠7/\k≠8) :
  Calls Tryz.prog 140 #[.agg #[.int .i64 k,.int .i64 n,.string (mkB s),.slice a1 l.length cap1]] w fun e w'=>e=.returned (.int .i64 2)/\Below w.heap.size w w':=by
 obtain ⟨h0,h1,h2,h3,h4,h5,h6,h7,h8⟩:=hk
 have e0:(k==0)=false:=by rw [ye];exact h0
 have e1:(k==1)=false:=by rw [ye];exact h1
 have e2:(k==2)=false:=by rw [ye];exact h2
 have e3:(k==3)=false:=by rw [ye];exact h3
 have e4:(k==4)=false:=by rw [ye];exact h4
 have e5:(k==5)=false:=by rw [ye];exact h5
 have e6:(k==6)=false:=by rw [ye];exact h6
 have e7:(k==7)=false:=by rw [ye];exact h7
 have e8:(k==8)=false:=by rw [ye];exact h8
 have HB:=ya (zag w (.cells #[.int .i64 k,.int .i64 n,.string (mkB s),.slice a1 l.length cap1] 27))
 clear h0 h1 h2 h3 h4 h5 h6 h7 h8
 by_cases hs0:s=[]
 ·have es0:(mkB s).toList=[]:=by rw [zal];exact hs0
  have es0b:((mkB s).toList==[])=true:=by rw [beq_iff_eq];exact es0
  have es0c:((mkB s).toList != [])=false:=by simp only [bne,es0b,Bool.not_true]
  by_cases hm0:l=[]
  ·have em0:(l.length==0)=true:=by rw [hm0];rfl
   have em0':((l.length:Int)==0)=true:=by rw [hm0];rfl
   clear hs0 hm0
   generalize l.length=m at *
   generalize mkB s=S at *
   go_enter Tryz.func140,Tryz.ntmps140
   go_wp2
   go_ret
   exact ⟨rfl,HB.out⟩
  ·have em0:(l.length==0)=false:=by rw [ye];exact fun e=>hm0 (List.eq_nil_of_length_eq_zero e)
   have em0':((l.length:Int)==0)=false:=by rw [ye];exact fun e=>hm0 (List.eq_nil_of_length_eq_zero (by omega))
   clear hs0 hm0
   generalize l.length=m at *
   generalize mkB s=S at *
   go_enter Tryz.func140,Tryz.ntmps140
   go_wp2
   go_ret
   exact ⟨rfl,HB.out⟩
 ·have es0b:((mkB s).toList==[])=false:=by rw [ye,zal];exact hs0
  have es0c:((mkB s).toList != [])=true:=by simp only [bne,es0b,yi]
  clear hs0
  generalize l.length=m at *
  generalize mkB s=S at *
  go_enter Tryz.func140,Tryz.ntmps140
  go_wp2
  go_ret
  exact ⟨rfl,HB.out⟩
theorem rown_any {v:PV} {sl:Value} {w:World} (hv:IsV w anyF v sl) (hsl:v.s.length<=288230376151711744) :
  Calls Tryz.prog 140 #[pvA v sl] w fun e w'=>e=.returned (.int .i64 (ownC v))/\Below w.heap.size w w':=by
 obtain ⟨a1,cap1,e1,g1,g2,-⟩:=hv.len
 subst e1
 have m1:(v.l.length:Int)<=9223372036854775807:=by unfold maxLen at g2;omega
 obtain ⟨k,n,s,l⟩:=v
 simp only [pvA,PV.kind,PV.n,PV.s,PV.l] at m1 g1 hv hsl |-
 simp only [ownC]
 by_cases h0:k=0
 ·subst h0;rw [yf rfl];exact rown_k0 m1
 rw [yg h0]
 by_cases h1:k=1
 ·subst h1;rw [yf rfl];exact rown_k1 m1
 rw [yg h1]
 by_cases h2:k=2
 ·subst h2;rw [yf (.inl rfl),<-own_numS];exact rown_k2 m1
 by_cases h3:k=3
 ·subst h3;rw [yf (.inr rfl),<-own_numS];exact rown_k3 m1
 rw [yg (by omega)]
 by_cases h4:k=4
 ·subst h4;rw [yf rfl];exact rown_k4 m1
 rw [yg h4]
 by_cases h5:k=5
 ·subst h5;rw [yf rfl];exact rown_k5 hsl m1
 rw [yg h5]
 by_cases h6:k=6
 ·subst h6;rw [yf rfl];exact rown_k6 m1
 rw [yg h6]
 by_cases h7:k=7
 ·subst h7
  rw [yf rfl]
  have e:(if n≠0\/s≠[]\/l.length % 2≠0 then 2 else if zby l=false then 2 else if ascV (twoV l)=true then 0 else 16:Int)=if n=0/\s=[] then dictC l else 2:=by
   unfold dictC
   by_cases hn:n=0
   ·by_cases hs:s=[]
    ·by_cases hl:l.length % 2=0
     ·rw [yg (show ¬(n≠0\/s≠[]\/l.length % 2≠0) from by simp [hn,hs,hl]),yf (show n=0/\s=[] from ⟨hn,hs⟩),yg (show ¬l.length % 2≠0 from by simp [hl])]
     ·rw [yf (.inr (.inr hl)),yf (show n=0/\s=[] from ⟨hn,hs⟩),yf hl]
    ·rw [yf (.inr (.inl hs)),yg (fun h=>hs h.2)]
   ·rw [yf (.inl hn),yg (fun h=>hn h.1)]
  rw [e]
  exact rown_k7 hv
 rw [yg h7]
 by_cases h8:k=8
 ·subst h8;rw [yf rfl];exact rown_k8 m1
 rw [yg h8]
 exact rown_kx m1 ⟨h0,h1,by omega,by omega,h4,h5,h6,h7,h8⟩
end Go.Proofs.YtfafdeemfeaedaaGreat
namespace Go.Proofs.YtfafdeemfeaedaaGreat
mutual
def bndV:PV->Nat
 | .mk _ _ s l=>100+4*s.length+bndL l
def bndL:List PV->Nat
 | []=>0
 | v::l=>bndV v+2+bndL l
end
mutual
def txM (M:Nat):PV->Prop
 | .mk _ _ s l=>s.length<=M/\txMs M l
def txMs (M:Nat):List PV->Prop
 | []=>True
 | v::l=>txM M v/\txMs M l
end
theorem bndV_is (v:PV):bndV v=100+4*v.s.length+bndL v.l:=by cases v;rfl
mutual
theorem bndV_cnt {M:Nat}:∀v:PV,txM M v->bndV v+2<=nodeV v*(102+4*M)
 | .mk _ _ s l,h=>by
  have h1:=bndL_cnt l h.2
  have h2:=h.1
  unfold bndV nodeV
  rw [Nat.add_mul]
  omega
theorem bndL_cnt {M:Nat}:∀l:List PV,txMs M l->bndL l<=zfj l*(102+4*M)
 | [],_=>by simp [bndL]
 | v::l,h=>by
  have h1:=bndV_cnt v h.1
  have h2:=bndL_cnt l h.2
  unfold bndL zfj
  rw [Nat.add_mul]
  omega
end
theorem bnd_few {v:PV} (h:0<=fewV v 100) (ht:txM 140737488355328 v):bndV v<=1152921504606846976:=by
 have h1:=(zeJ v 100 (by omega)).2.2 h
 have h2:=bndV_cnt v ht
 have h3:nodeV v<=100:=by omega
 have h4:=Nat.mul_le_mul_right (102+4*140737488355328) h3
 omega
theorem depth_few {v:PV} (h:0<=fewV v 100):zaJ v<=1000:=by
 have h1:=(zeJ v 100 (by omega)).2.2 h
 have h2:=ze0 v
 omega
mutual
theorem txM_le {M N:Nat} (hM:M<=N):∀v:PV,txM M v->txM N v
 | .mk _ _ _ l,h=>⟨Nat.le_trans h.1 hM,txMs_le hM l h.2⟩
theorem txMs_le {M N:Nat} (hM:M<=N):∀l:List PV,txMs M l->txMs N l
 | [],_=>trivial
 | v::l,h=>⟨txM_le hM v h.1,txMs_le hM l h.2⟩
end
theorem txM_is {M:Nat} {v:PV} (h:txM M v):v.s.length<=M/\txMs M v.l:=by cases v;exact h
theorem txM_mem {M:Nat}:∀ {l:List PV} {k:Nat} {x:PV},txMs M l->l[k]?=some x->txM M x
 | [],_,_,_,h=>by simp at h
 | y::l,0,x,h,hx=>by
  simp at hx;subst hx;exact h.1
 | y::l,k+1,x,h,hx=>txM_mem (l:=l) (k:=k) h.2 (by simpa using hx)
theorem zeN:∀ {l:List PV} {j:Nat} {x:PV},l[j]?=some x->bndL (l.take (j+1))=bndL (l.take j)+(bndV x+2)
 | [],_,_,h=>by simp at h
 | v::l,0,x,h=>by
  simp at h;subst h
  simp [bndL]
 | v::l,j+1,x,h=>by
  have:=zeN (l:=l) (j:=j) (x:=x) (by simpa using h)
  rw [List.take_succ_cons,List.take_succ_cons,bndL,bndL,this]
  omega
theorem bndL_le:∀(l:List PV) (j:Nat),bndL (l.take j)<=bndL l
 | [],j=>by simp
 | v::l,0=>by simp [bndL]
 | v::l,j+1=>by
  have:=bndL_le l j
  rw [List.take_succ_cons,bndL,bndL]
  omega
theorem bndL_mem {l:List PV} {j:Nat} {x:PV} (h:l[j]?=some x):bndV x+2<=bndL l:=by
 have h1:=zeN h
 have h2:=bndL_le l (j+1)
 omega
end Go.Proofs.YtfafdeemfeaedaaGreat
namespace Go.Proofs.YtfafdeemfeaedaaGreat
open Go.RowKit
theorem firstL_drop {l:List PV} {k:Nat} {x:PV} (hx:l[k]?=some x):zdd (l.drop k)=if zaX x≠0 then zaX x else zdd (l.drop (k+1)):=by
 obtain ⟨h,e⟩:=List.getElem?_eq_some_iff.1 hx
 rw [List.drop_eq_getElem_cons h,e]
 simp only [zdd]
theorem rfirst_any:∀(N:Nat) (v:PV) (sl:Value) (w:World),SizeOf.sizeOf v<=N->txM 288230376151711744 v->IsV w anyF v sl ->
  Calls Tryz.prog 103 #[pvA v sl] w fun e w'=>e=.returned (.int .i64 (zaX v))/\Below w.heap.size w w':=by
 intro N
 induction N with
 | zero=>intro v sl w h;obtain ⟨_,_,_,_⟩:=v;simp at h
 | succ N ih =>
 intro v sl w hN hd hv
 obtain ⟨a1,cap1,e1,g1,g2,g3⟩:=hv.len
 subst e1
 have HA:=ya hv
 have HIH:=ya ih
 have HN:=ya hN
 have HSA:=ya (fun (k:Nat) (x:PV) (h:v.l[k]?=some x)=>zcE h)
 have m1:(v.l.length:Int)<=9223372036854775807:=by unfold maxLen at g2;omega
 have HO:=ya (fun (W:World) (h:Below w.heap.size w W)=>rown_any (hv.below h) (txM_is hd).1)
 have HH:=ya (fun W=>zfx v (.slice a1 v.l.length cap1) W)
 have HDM:=ya (fun (k:Nat) (x:PV) (hx:v.l[k]?=some x)=>txM_mem (txM_is hd).2 hx)
 have hfr:=zfa v
 obtain ⟨R,hR⟩:∃R,R=zaX v:=⟨_,rfl⟩
 rw [<-hR] at hfr |-
 clear hR
 unfold pvA at HH HO |-
 clear ih hN hd hv
 generalize ownC v=oc at *
 obtain ⟨B,hB⟩:∃B,B=w.heap.size:=⟨_,rfl⟩
 have HX1:=ya (zac (w:=w) (b:=B) (.cells #[.int .i64 v.kind,.int .i64 v.n,.string (mkB v.s),.slice a1 v.l.length cap1] 27) hB)
 have HW:=ya (zag w (.cells #[.int .i64 v.kind,.int .i64 v.n,.string (mkB v.s),.slice a1 v.l.length cap1] 27))
 have HBB:=ya hB
 clear hB
 by_cases ho:oc=0
 case neg =>
  have en:(oc==0)=false:=by rw [ye];exact ho
  have en':(oc != 0)=true:=by simp only [bne,en,yi]
  rw [yf ho] at hfr
  obtain rfl:R=oc:=hfr
  clear ho HH HA HIH HDM HN HSA
  generalize v.kind=k0 at *
  generalize v.n=n0 at *
  generalize mkB v.s=s0 at *
  generalize v.l.length=l0 at *
  go_enter Tryz.func103,Tryz.ntmps103
  go_wp2_with (go_at_call 140;refine (HO.out _ HW.out).mono ?_;rintro e w1 ⟨rfl,hb1⟩;have HB1:=ya hb1)
  go_ret
  exact ⟨rfl,HW.out.trans (HB1.out.mono HW.out.size)⟩
 subst ho
 rw [yg (by simp)] at hfr
 by_cases hk:v.kind=6\/v.kind=7
 case neg =>
  rw [yg hk] at hfr
  subst hfr
  have hb:(v.kind==6||v.kind==7)=false:=by
   simp only [Bool.or_eq_false_iff,ye];omega
  rw [hb] at HH
  clear hk hb HA HIH HDM HN HSA
  generalize v.kind=k0 at *
  generalize v.n=n0 at *
  generalize mkB v.s=s0 at *
  generalize v.l.length=l0 at *
  go_enter Tryz.func103,Tryz.ntmps103
  go_wp2_with (first|(go_at_call 140;refine (HO.out _ HW.out).mono ?_;rintro e w1 ⟨rfl,hb1⟩;have HB1:=ya hb1;obtain ⟨⟨c0,c1,c2,c3⟩,-⟩:=zaj (zaa hb1 HX1.out);rw [HBB.out] at c0 c1 c2 c3)|(go_at_call 139;refine (HH.out _).mono ?_;rintro e w2 ⟨rfl,hb2⟩))
  all_goals
   go_ret
   exact ⟨rfl,HW.out.trans ((HB1.out.trans (hb2.mono HB1.out.size)).mono HW.out.size)⟩
 rw [yf hk] at hfr
 have hb:(v.kind==6||v.kind==7)=true:=by
  rcases hk with h|h<;>rw [h]<;>rfl
 rw [hb] at HH
 have HDM2:=HDM
 clear hk hb HDM
 obtain ⟨la,hla⟩:∃la,la=v.l:=⟨_,rfl⟩
 have HLA:=ya hla
 rw [<-hla] at HH HO HDM2 HA HX1 HW m1 g1 hfr |-
 clear hla
 have HFR:=ya hfr
 clear hfr
 generalize v.kind=k0 at *
 generalize v.n=n0 at *
 generalize mkB v.s=s0 at *
 go_enter Tryz.func103,Tryz.ntmps103
 go_wp2_with (first|(go_at_call 140;refine (HO.out _ HW.out).mono ?_;rintro e w1 ⟨rfl,hb1⟩;have HB1:=ya hb1;have HX2:=ya (zaa hb1 HX1.out);obtain ⟨⟨c0,c1,c2,c3⟩,-⟩:=zaj HX2.out;rw [HBB.out] at c0 c1 c2 c3)|(go_at_call 139;refine (HH.out _).mono ?_;rintro e w2 ⟨rfl,hb2⟩))
 have HX3:=ya (zaa hb2 HX2.out)
 have HW2:=ya (HW.out.trans ((HB1.out.trans (hb2.mono HB1.out.size)).mono HW.out.size))
 rw [<-HBB.out]
 clear c0 c1 c2 c3 hb1 hb2 HB1 HW HX1 HX2 HO HH
 go_loopw [3,4] (fun ve vk wr=>∃(k:Nat),vk=.int .i64 k/\ve=.int .i64 0/\k<=la.length/\Hid (Below w.heap.size w wr)/\Hid (Below w2.heap.size w2 wr)/\Hid (R=zdd (la.drop k))) (fun _ vk _=>la.length-(intOf vk).toNat)
 case atStart=>exact ⟨0,rfl,rfl,Nat.zero_le _,HW2,Below.refl _ _,HFR⟩
 case round =>
  obtain ⟨k,rfl,rfl,hk,HWR,HWR1,HV⟩:=hrel
  obtain ⟨⟨c0,c1,c2,c3⟩,-⟩:=zaj (zaa HWR1.out HX3.out)
  by_cases q1:k<la.length
  case neg =>
   have hd1:decide (k<la.length)=false:=yd q1
   have hq2:¬(k:Int)<(la.length:Int):=by omega
   have hv:=HV.out
   rw [List.drop_eq_nil_of_le (by omega)] at hv
   obtain rfl:R=0:=hv
   clear HA HIH HDM2 HV HFR
   go_wp2
   go_ret
   exact ⟨rfl,HWR.out⟩
  obtain ⟨x,hx⟩:∃x,la[k]?=some x:=⟨_,List.getElem?_eq_getElem q1⟩
  obtain ⟨-,-,-,b1,o1,rfl,-,-,hax⟩:=(HA.out.below HWR.out).at (by omega)
  rw [<-HLA.out] at hax
  obtain ⟨sx,hsx,x0,x1,x2,x3⟩:=hax k x hx
  have hlt:SizeOf.sizeOf x<SizeOf.sizeOf v:=HSA.out k x (by rw [<-HLA.out];exact hx)
  have hN:=HN.out
  have hcall:=HIH.out x sx wr (by omega) (HDM2.out k x hx) hsx
  unfold pvA at hcall
  obtain ⟨sa',sc',rfl,-,-,-⟩:=hsx.len
  have HCALL:=ya hcall
  have hv:=HV.out
  rw [firstL_drop hx] at hv
  have HV2:=ya hv
  clear hcall hsx hlt hN hax hx HA HIH HSA HLA HN HDM2 HV HFR hv
  have hkl:(0:Int)<=(k:Int):=by omega
  have hki:(k:Int)<(la.length:Int):=by omega
  generalize zaX x=fc at *
  go_wp2_with fail
  refine HCALL.out.mono ?_
  rintro e w4 ⟨rfl,hb4⟩
  have HW4:=yl HWR hb4
  have HW5:=yl HWR1 hb4
  clear hb4 x0 x1 x2 x3 c0 c1 c2 c3 HCALL
  by_cases hf:fc=0
  ·subst hf
   have hv:=HV2.out
   rw [yg (by simp)] at hv
   have HV3:=ya hv
   clear hv HV2
   go_wp2
   go_roundw
   case rel=>exact ⟨k+1,by go_num,rfl,by omega,HW4,HW5,HV3⟩
   case measure=>simp [intOf];omega
  ·have en:(fc==0)=false:=by rw [ye];exact hf
   have en':(fc != 0)=true:=by simp only [bne,en,yi]
   have hv:=HV2.out
   rw [yf hf] at hv
   obtain rfl:R=fc:=hv
   clear HV2 hf
   go_wp2
   go_ret
   exact ⟨rfl,HW4.out⟩
theorem rcheck11_any {v:PV} {sl:Value} {w:World} (hv:IsV w anyF v sl) (ht:txM 288230376151711744 v) (hd:zaJ v<=1000) :
  Calls Tryz.prog 67 #[pvA v sl] w fun e w'=>e=.returned (.int .i64 (zcl v))/\Below w.heap.size w w':=by
 have HD:=ya (fun (W:World) (h:Below w.heap.size w W)=>rdepth_any _ v sl W (ym _) hd (hv.below h))
 have HF:=ya (fun (W:World) (h1:Below w.heap.size w W)=>rfirst_any _ v sl W (ym _) ht (hv.below h1))
 obtain ⟨a1,cap1,rfl,g1,g2,g3⟩:=hv.len
 have hr:zcl v=if 64<zaJ v then 15 else zaX v:=by unfold zcl;rfl
 rw [hr]
 unfold pvA at HD HF |-
 have HW:=ya (zag w (.cells #[.int .i64 v.kind,.int .i64 v.n,.string (mkB v.s),.slice a1 v.l.length cap1] 27))
 have HX1:=ya (zac (w:=w) (.cells #[.int .i64 v.kind,.int .i64 v.n,.string (mkB v.s),.slice a1 v.l.length cap1] 27) rfl)
 clear hv hr ht
 generalize v.kind=k0 at *
 generalize v.n=n0 at *
 generalize mkB v.s=s0 at *
 generalize v.l.length=l0 at *
 generalize zaJ v=d at *
 generalize zaX v=fc at *
 by_cases h64:64<d
 ·rw [yf h64]
  have hdd:decide (64<(d:Int))=true:=yb (by omega)
  have hdd2:(64:Int)<(d:Int):=by omega
  clear HF
  go_enter Tryz.func67,Tryz.ntmps67
  go_wp2_with (go_at_call 102;refine (HD.out _ HW.out).mono ?_;rintro e w1 ⟨rfl,hb1⟩;have HB1:=yl HW hb1;obtain ⟨⟨c0,c1,c2,c3⟩,-⟩:=zaj (zaa hb1 HX1.out))
  go_ret
  exact ⟨rfl,HB1.out⟩
 ·rw [yg h64]
  have hdd:decide (64<(d:Int))=false:=yd (by omega)
  have hdd2:¬(64:Int)<(d:Int):=by omega
  go_enter Tryz.func67,Tryz.ntmps67
  go_wp2_with (first|(go_at_call 102;refine (HD.out _ HW.out).mono ?_;rintro e w1 ⟨rfl,hb1⟩;have HB1:=yl HW hb1;obtain ⟨⟨c0,c1,c2,c3⟩,-⟩:=zaj (zaa hb1 HX1.out))|(go_at_call 103;refine (HF.out _ HB1.out).mono ?_;rintro e w2 ⟨rfl,hb2⟩))
  go_ret
  exact ⟨rfl,HB1.out.trans (hb2.mono HB1.out.size)⟩
theorem rmay_any (e:Ent) (w:World):Calls Tryz.prog 66 #[entA e] w fun x w'=>x=.returned (.bool (zce e))/\Below w.heap.size w w':=by
 obtain ⟨a,g,u⟩:=e
 unfold entA zce
 simp only
 by_cases h1:0<=a
 ·by_cases h2:a<=2147483647
  ·by_cases h3:0<=g
   ·go_enter Tryz.func66,Tryz.ntmps66
    go_wp2
    go_ret
    exact ⟨by simp [h1,h2,h3],zag w _⟩
   ·go_enter Tryz.func66,Tryz.ntmps66
    go_wp2
    go_ret
    exact ⟨by simp;omega,zag w _⟩
  ·go_enter Tryz.func66,Tryz.ntmps66
   go_wp2
   go_ret
   exact ⟨by simp;omega,zag w _⟩
 ·go_enter Tryz.func66,Tryz.ntmps66
  go_wp2
  go_ret
  exact ⟨by simp;omega,zag w _⟩
theorem all_upto {α:Type} {p:α->Bool} {l:List α} {c:Nat} {x:α} (hx:l[c]?=some x) (h:(l.take c).all p=true) (hp:p x=true):(l.take (c+1)).all p=true:=by
 rw [List.take_add_one,hx,List.all_append,h];simp [hp]
theorem all_bad {α:Type} {p:α->Bool} {l:List α} {c:Nat} {x:α} (hx:l[c]?=some x) (hp:p x=false):l.all p=false:=by
 rw [Bool.eq_false_iff];intro h;rw [List.all_eq_true] at h;have:=h x (List.mem_of_getElem? hx);rw [hp] at this;cases this
theorem grp_bad1 {g:Grp} (h:g.first<0\/4097<g.first\/4097-g.first<(g.es.length:Int)):zfl g=false:=by
 unfold zfl
 rw [Bool.eq_false_iff];intro h2
 simp only [Bool.and_eq_true,decide_eq_true_eq] at h2
 omega
theorem grp_bad2 {g:Grp} (h:g.es.all zce=false):zfl g=false:=by unfold zfl;rw [h,Bool.and_false]
theorem grp_good {g:Grp} (h:¬(g.first<0\/4097<g.first\/4097-g.first<(g.es.length:Int))) (h2:g.es.all zce=true):zfl g=true:=by
 unfold zfl
 rw [h2]
 simp only [Bool.and_eq_true,decide_eq_true_eq,and_true]
 omega
theorem zd9 {s:Sec} (h:zd5 s=0):s.gs.length<=64/\s.gs.all zfl=true/\zcl s.tr=0/\s.tr.kind=7:=by
 unfold zd5 at h
 split at h
 ·cases h
 ·rename_i h1
  split at h
  ·cases h
  ·rename_i h2
   exact ⟨by omega,by simpa using h2,h,by omega⟩
theorem check_smallG {s:Sec} (h:zd5 s=0):zcR s.gs:=fun g hg=>by
 have h2:=List.all_eq_true.1 (zd9 h).2.1 g hg
 unfold zfl at h2
 simp only [Bool.and_eq_true,decide_eq_true_eq] at h2
 exact ⟨by omega,by omega,by omega⟩
theorem rcheck15_any {s:Sec} {gv sl:Value} {w:World} (h:zbe w anyF s gv sl) (ht:txM 288230376151711744 s.tr) (hd:zaJ s.tr<=1000) :
  Calls Tryz.prog 28 #[secA s gv sl] w fun e w'=>e=.returned (.int .i64 (zd5 s))/\Below w.heap.size w w':=by
 obtain ⟨gs,x⟩:=s
 simp only at ht hd
 obtain ⟨ga,gc,rfl,hgc,hgm,-⟩:=h.1.len
 simp only at hgc
 have HCK:=ya (fun (W:World) (hb:Below w.heap.size w W)=>rcheck11_any (h.2.below hb) ht hd)
 have HGA:=ya (fun (W:World) (hb:Below w.heap.size w W)=>(h.1.below hb))
 obtain ⟨R,hR⟩:∃R,R=zd5 ⟨gs,x⟩:=⟨_,rfl⟩
 rw [<-hR]
 unfold zd5 at hR
 simp only at hR
 have HR:=ya hR
 unfold secA
 simp only at HGA |-
 obtain ⟨sa,sc,rfl,-,-,-⟩:=h.2.len
 simp only at HCK |-
 unfold pvA at HCK
 clear h ht hd hR
 have hg63:(gs.length:Int)<=9223372036854775807:=by unfold maxLen at hgm;omega
 generalize zcl x=cc at *
 generalize x.kind=xk at *
 generalize x.n=xn at *
 generalize mkB x.s=xb at *
 generalize x.l.length=xl at *
 obtain ⟨B,hB⟩:∃B,B=w.heap.size:=⟨_,rfl⟩
 have HB1:=ya (zag w (.cells #[.slice ga gs.length gc,.int .i64 xk,.int .i64 xn,.string xb,.slice sa xl sc] 33))
 have HX1:=ya (zac (w:=w) (b:=B) (.cells #[.slice ga gs.length gc,.int .i64 xk,.int .i64 xn,.string xb,.slice sa xl sc] 33) hB)
 go_enter Tryz.func28,Tryz.ntmps28
 go_upto_region 1 with fail
 try rw [<-hB]
 clear hB
 generalize World.alloc _ _=W1 at *
 obtain ⟨⟨x0,x1,x2,x3,x4⟩,-⟩:=za1 HX1.out
 by_cases h64:64<gs.length
 ·have hd1:decide (64<gs.length)=true:=yb h64
  have hd2:decide ((64:Int)<gs.length)=true:=yb (by omega)
  have hr:=HR.out
  rw [yf (.inl h64)] at hr
  subst hr
  clear HR HCK HGA
  go_wp2
  go_ret
  exact ⟨rfl,HB1.out⟩
 have hd1:decide (64<gs.length)=false:=yd h64
 have hd2:decide ((64:Int)<gs.length)=false:=yd (by omega)
 by_cases hk:xk=7
 case neg =>
  have hd3:(xk==7)=false:=by rw [ye];exact hk
  have hd4:(xk != 7)=true:=by simp only [bne,hd3,yi]
  have hr:=HR.out
  rw [yf (.inr hk)] at hr
  subst hr
  clear HR HCK HGA
  go_wp2
  go_ret
  exact ⟨rfl,HB1.out⟩
 have hd3:(xk==7)=true:=by rw [beq_iff_eq];exact hk
 have hd4:(xk != 7)=false:=by simp only [bne,hd3,Bool.not_true]
 have hr:=HR.out
 rw [yg (by omega)] at hr
 have HR2:=ya hr
 clear hr HR h64 hk
 go_wp2_with fail
 clear x0 x1 x2 x3 x4
 go_loopw [3] (fun v wr=>∃c:Nat,v=.int .i64 c/\c<=gs.length/\Hid (Below W1.heap.size W1 wr)/\Hid ((gs.take c).all zfl=true)) (fun v _=>gs.length-(intOf v).toNat)
 case atStart=>exact ⟨0,rfl,Nat.zero_le _,ya (Below.refl _ _),ya rfl⟩
 case round =>
  obtain ⟨c,rfl,hc,HW,HA⟩:=hrel
  have HB:=ya (HB1.out.trans (HW.out.mono HB1.out.size))
  have HX:=ya (zaa HW.out HX1.out)
  obtain ⟨⟨x0,x1,x2,x3,x4⟩,-⟩:=za1 HX.out
  by_cases hlt:c<gs.length
  case neg =>
   have hce:c=gs.length:=by omega
   subst hce
   have hcd:decide ((gs.length:Int)<(gs.length:Int))=false:=yd (by omega)
   have hcd2:decide (gs.length<gs.length)=false:=yd (by omega)
   have ha:=HA.out
   rw [List.take_length] at ha
   have hr:=HR2.out
   rw [yg (by rw [ha];decide)] at hr
   subst hr
   have HC:=ya (HCK.out wr HB.out)
   clear ha HA HR2 HGA HCK
   go_wp2_with fail
   refine HC.out.mono ?_
   rintro e w3 ⟨rfl,hb⟩
   have HB3:=yl HB hb
   clear hb
   go_wp2
   go_ret
   exact ⟨rfl,HB3.out⟩
  have hcd:decide ((c:Int)<(gs.length:Int))=true:=yb (by omega)
  have hcd2:decide (c<gs.length)=true:=yb (by omega)
  have hlj:(c:Int)<(gs.length:Int):=by omega
  obtain ⟨-,-,-,b,off,ha,-,-,hat⟩:=(HGA.out wr HB.out).at (by omega)
  subst ha
  obtain ⟨g,hg⟩:∃g,gs[c]?=some g:=⟨_,List.getElem?_eq_getElem hlt⟩
  obtain ⟨v,hv,g0,g1⟩:=hat c g hg
  obtain ⟨ea,ec,rfl,hel,hec,-⟩:=hv.len
  have HGOOD:=ya (fun h1 h2=>all_upto hg HA.out (grp_good h1 h2))
  have HBAD:=ya (fun h=>HR2.out.trans (yf (all_bad hg (grp_bad1 h))))
  have HBAD2:=ya (fun h=>HR2.out.trans (yf (all_bad hg (grp_bad2 h))))
  have HIE:=ya hv
  have he63:(g.es.length:Int)<=9223372036854775807:=by unfold maxLen at hec;omega
  clear hat hv hg HA
  obtain ⟨gf,ge⟩:=g
  simp only at *
  have HBA:=ya (HW.out.alloc HW.out.size (.cells #[.int .i64 gf,.slice ea ge.length ec] 42))
  have HGB:=ya (zac (w:=wr) (.cells #[.int .i64 gf,.slice ea ge.length ec] 42) rfl)
  have HIE2:=ya (HIE.out.below (zag wr (.cells #[.int .i64 gf,.slice ea ge.length ec] 42)))
  go_upto_region 7 with fail
  clear x0 x1 x2 x3 x4 HIE HX g0 g1
  generalize wr.heap.size=G at *
  generalize World.alloc _ _=W2 at *
  obtain ⟨⟨y0,y1⟩,-⟩:=zax HGB.out
  have HBB:=ya (HB1.out.trans (HBA.out.mono HB1.out.size))
  by_cases h1:gf<0
  ·have e1:decide (gf<0)=true:=yb h1
   have hr:=HBAD.out (.inl h1)
   subst hr
   clear HR2 HBAD HBAD2 HGOOD
   go_wp2
   go_ret
   exact ⟨rfl,HBB.out⟩
  have e1:decide (gf<0)=false:=yd h1
  by_cases h2:4097<gf
  ·have e2:decide (4097<gf)=true:=yb h2
   have hr:=HBAD.out (.inr (.inl h2))
   subst hr
   clear HR2 HBAD HBAD2 HGOOD
   go_wp2
   go_ret
   exact ⟨rfl,HBB.out⟩
  have e2:decide (4097<gf)=false:=yd h2
  have hw4:IntKind.i64.wrap (4097-gf)=4097-gf:=IntWalk.i64_in _ (by omega)
  by_cases h3:4097-gf<(ge.length:Int)
  ·have e3:decide (4097-gf<(ge.length:Int))=true:=yb h3
   have hr:=HBAD.out (.inr (.inr h3))
   subst hr
   clear HR2 HBAD HBAD2 HGOOD
   go_wp2
   go_ret
   exact ⟨rfl,HBB.out⟩
  have e3:decide (4097-gf<(ge.length:Int))=false:=yd h3
  have HGOOD2:=ya (HGOOD.out (by omega))
  clear HGOOD HBAD h1 h2 h3
  go_wp2_with fail
  clear y0 y1
  go_loopw [5] (fun v wq=>∃j:Nat,v=.int .i64 j/\j<=ge.length/\Hid (Below W2.heap.size W2 wq)/\Hid ((ge.take j).all zce=true)) (fun v _=>ge.length-(intOf v).toNat)
  case atStart=>exact ⟨0,rfl,Nat.zero_le _,ya (Below.refl _ _),ya rfl⟩
  case round =>
   obtain ⟨j,rfl,hj,HWQ,HE⟩:=hrel
   obtain ⟨⟨y0,y1⟩,-⟩:=zax (zaa HWQ.out HGB.out)
   by_cases hjl:j<ge.length
   case neg =>
    have hje:j=ge.length:=by omega
    subst hje
    have hjd:decide ((ge.length:Int)<(ge.length:Int))=false:=yd (by omega)
    have hjd2:decide (ge.length<ge.length)=false:=yd (by omega)
    have he:=HE.out
    rw [List.take_length] at he
    have HA2:=ya (HGOOD2.out he)
    have HW2:=ya (HBA.out.trans (HWQ.out.mono HBA.out.size))
    clear he HE HGOOD2 HBAD2
    go_wp2
    go_roundw
    case rel=>exact ⟨c+1,by go_num,by omega,HW2,HA2⟩
    case measure=>simp [intOf];omega
   have hjd:decide ((j:Int)<(ge.length:Int))=true:=yb (by omega)
   have hjd2:decide (j<ge.length)=true:=yb (by omega)
   have hjj:(j:Int)<(ge.length:Int):=by omega
   obtain ⟨-,-,-,be,oe,hae,hbe,-,hae2⟩:=(HIE2.out.below HWQ.out).at (by omega)
   subst hae
   obtain ⟨ee,hee⟩:∃ee,ge[j]?=some ee:=⟨_,List.getElem?_eq_getElem hjl⟩
   obtain ⟨z0,z1,z2⟩:=hae2 j ee hee
   have HU:=ya (fun h=>all_upto hee HE.out h)
   have HV:=ya (fun h=>HBAD2.out (all_bad hee h))
   have HM:=ya (fun W=>rmay_any ee W)
   clear hae2 hee HE HGOOD2 HBAD2
   unfold entA at HM
   obtain ⟨eat,egen,eus⟩:=ee
   simp only at *
   generalize zce ⟨eat,egen,eus⟩=ok at *
   go_wp2_with fail
   refine (HM.out _).mono ?_
   rintro e w3 ⟨rfl,hb⟩
   have HWQ2:=yl HWQ hb
   clear hb HM y0 y1 z0 z1 z2
   cases ok
   ·have hr:=HV.out rfl
    subst hr
    clear HV HU HR2
    go_wp2
    go_ret
    exact ⟨rfl,HBB.out.trans (HWQ2.out.mono HBB.out.size)⟩
   ·have HE2:=ya (HU.out rfl)
    clear HV HU
    go_wp2
    go_roundw
    case rel=>exact ⟨j+1,by go_num,by omega,HWQ2,HE2⟩
    case measure=>simp [intOf];omega
theorem ext_one {s:List UInt8} {k:Nat} {c:UInt8} (h:s[k]?=some c):(mkB s).extract k (k+1)=mkB [c]:=by
 apply ByteArray.ext
 rw [ByteArray.data_extract]
 apply Array.ext'
 rw [Array.toList_extract]
 show ((s.drop k).take (k+1-k))=[c]
 rw [show k+1-k=1 by omega]
 have hk:=(List.getElem?_eq_some_iff.1 h)
 obtain ⟨hl,he⟩:=hk
 rw [List.drop_eq_getElem_cons hl,he]
 rfl
theorem zf8 (s:List UInt8):showV (.mk 5 0 s [])=if zeW s=true then (47::zcP s,0) else ([],17):=by
 have e:formV (.mk 5 0 s [])=47::zcP s:=by simp [formV]
 have ho:ownC (.mk 5 0 s [])=if 127<s.length\/(0:UInt8)∈s then 17 else 0:=by simp [ownC]
 have hf:zaX (.mk 5 0 s [])=if 127<s.length\/(0:UInt8)∈s then 17 else 0:=by
  rw [zfa,ho]
  by_cases h:127<s.length\/(0:UInt8)∈s
  ·rw [yf h,yf (by decide)]
  ·rw [yg h,yg (by decide)];simp [PV.kind]
 have hc:zcl (.mk 5 0 s [])=if 127<s.length\/(0:UInt8)∈s then 17 else 0:=by
  unfold zcl
  rw [depthV_is,yg (by simp [PV.kind]),hf]
  all_goals (try rfl)
 unfold showV
 rw [hc,e]
 unfold zeW
 by_cases h:127<s.length\/(0:UInt8)∈s
 ·rw [yf h,yf (by decide),yg (by rcases h with h|h<;>simp [h])]
 ·rw [yg h,yg (by decide),yf (by rw [not_or] at h;rw [yd h.1,yd h.2];rfl)]
theorem rname13 (s:List UInt8) (w:World) (hl:s.length<=288230376151711744) :
  Calls Tryz.prog 91 #[.string (mkB s)] w fun e w'=>e=.returned (.tuple #[.string (mkB (showV (.mk 5 0 s [])).1),.int .i64 (showV (.mk 5 0 s [])).2])/\Below w.heap.size w w':=by
 rw [zf8]
 have HT:=ya (fun W=>rtext11 s W (by omega))
 have hsz:(mkB s).size=s.length:=zaE s
 have hszi:((mkB s).size:Int)=s.length:=by rw [hsz]
 by_cases hb:zeW s=true
 case neg =>
  have hb':zeW s=false:=by simpa using hb
  rw [hb'] at HT |-
  clear hb hb'
  go_enter Tryz.func91,Tryz.ntmps91
  go_wp2_with (go_at_call 134;refine (HT.out _).mono ?_;rintro e w' ⟨rfl,rfl⟩)
  go_ret2
  exact ⟨rfl,Below.refl _ _⟩
 rw [hb] at HT |-
 rw [yf rfl]
 have hm:(s.length:Int)<=288230376151711744:=by omega
 obtain ⟨R,hR⟩:∃R,R=mkB (47::zcP s):=⟨_,rfl⟩
 have HR:=ya hR
 simp only
 rw [<-hR]
 clear hb hR
 go_enter Tryz.func91,Tryz.ntmps91
 go_wp2_with (go_at_call 134;refine (HT.out _).mono ?_;rintro e w' ⟨rfl,rfl⟩)
 go_loopw [4,5] (fun vo vk wr=>∃(k:Nat) (O:ByteArray),vk=.int .i64 k/\vo=.string O/\k<=s.length/\O.size<=1152921504606846976/\Hid (O=mkB (47::zcP (s.take k)))/\Hid (Below w.heap.size w wr)) (fun _ vk _=>s.length-(intOf vk).toNat)
 case atStart=>exact ⟨0,_,rfl,rfl,Nat.zero_le _,by decide,ya rfl,Below.refl _ _⟩
 case round =>
  obtain ⟨k,O,rfl,rfl,hk,hO,HO,HB⟩:=hrel
  by_cases q1:k<s.length
  case neg =>
   have hd1:decide (k<s.length)=false:=yd q1
   have hd2:decide ((k:Int)<(s.length:Int))=false:=yd (by omega)
   have hq2:¬(k:Int)<(s.length:Int):=by omega
   obtain rfl:R=O:=by rw [HR.out,HO.out,List.take_of_length_le (by omega)]
   clear HR HO
   go_wp2
   go_ret2
   exact ⟨rfl,HB.out⟩
  have hd1:decide (k<s.length)=true:=yb q1
  have hd2:decide ((k:Int)<(s.length:Int))=true:=yb (by omega)
  have hk0:(0:Int)<=(k:Int):=by omega
  have hk1:(k:Int)<(s.length:Int):=by omega
  have hk2:k<(mkB s).size:=by omega
  have hk3:(k:Int)+1<=(s.length:Int):=by omega
  have hk4:k+1<=(mkB s).size:=by omega
  have hkw:IntKind.i64.wrap ((k:Int)+1)=(k:Int)+1:=IntWalk.i64_in _ (by omega)
  obtain ⟨c,hc⟩:∃c,c=s[k]'q1:=⟨_,rfl⟩
  have hcs:s[k]?=some c:=by rw [hc];exact List.getElem?_eq_getElem q1
  obtain ⟨n,hn⟩:∃n,n=c.toNat:=⟨_,rfl⟩
  have hat:((mkB s)[k]'hk2).toNat=n:=by rw [hn,hc];exact at_mkB q1 hk2
  have hext:=ext_one hcs
  have HH:=ya (fun W=>rhex13 c W)
  rw [<-hn] at HH
  have HD:=ya (fun W=>rdelim_any (n:Int) W)
  have hT:=zfw hcs
  have hch:chF c=if n<33\/126<n\/n=35\/dlI (n:Int)=true then 35::hexB c else [c]:=by
   unfold chF;rw [hn,dlI_eq];simp only [eq35]
  have hbd:∀t:List UInt8,(mkB (47::zcP (s.take t.length))).size<=1152921504606846976\/288230376151711744<t.length:=fun t=>by
   by_cases h:288230376151711744<t.length
   ·exact .inr h
   ·left
    have h1:=zc5 (s.take t.length)
    rw [List.length_take] at h1
    rw [zaE]
    simp
    omega
  have hbn:(mkB (47::zcP (s.take (k+1)))).size<=1152921504606846976:=by
   have h1:=zc5 (s.take (k+1))
   rw [List.length_take] at h1
   rw [zaE]
   simp
   omega
  have HBN:=ya hbn
  have HC1:=ya (show chF c=[c]->O++mkB [c]=mkB (47::zcP (s.take (k+1))) from fun h=>by rw [hT,h,HO.out,zbX];rfl)
  have HC2:=ya (show chF c=35::hexB c->O++⟨#[35]⟩++mkB (hexB c)=mkB (47::zcP (s.take (k+1))) from fun h=>by
   rw [hT,h,HO.out,show (⟨#[35]⟩:ByteArray)=mkB [35] from rfl,zbX,zbX]
   simp)
  have hos:O.size+1<=9223372036854775807:=by omega
  have HCH:=ya hch
  have HN:=ya hn
  have hhs:(mkB (hexB c)).size=2:=by rw [zaE];rfl
  have hcz:(mkB [c]).size=1:=rfl
  clear hT hch hbd hbn hcs hc hn HO
  generalize mkB (hexB c)=HX at *
  generalize mkB [c]=CX at *
  generalize dlI (n:Int)=d at *
  by_cases h1:n<33
  ·have b1:decide (32<n)=false:=yd (by omega)
   have b1':decide ((32:Int)<(n:Int))=false:=yd (by omega)
   have HC2:=ya (HC2.out (by rw [HCH.out,yf (.inl h1)]))
   clear HCH h1 HC1
   go_wp2_with (first|(go_at_call 133;refine (HH.out _).mono ?_;rintro e w' ⟨rfl,q,rfl⟩))
   go_roundw
   case rel=>exact ⟨k+1,_,by go_num,rfl,by omega,by rw [HC2.out];exact HBN.out,HC2,ya (zad HB.out _)⟩
   case measure=>simp [intOf];omega
  have b1:decide (32<n)=true:=yb (by omega)
  have b1':decide ((32:Int)<(n:Int))=true:=yb (by omega)
  by_cases h2:126<n
  ·have b2:decide (n<127)=false:=yd (by omega)
   have b2':decide ((n:Int)<127)=false:=yd (by omega)
   have HC2:=ya (HC2.out (by rw [HCH.out,yf (.inr (.inl h2))]))
   clear HCH h1 h2 HC1
   go_wp2_with (first|(go_at_call 133;refine (HH.out _).mono ?_;rintro e w' ⟨rfl,q,rfl⟩))
   go_roundw
   case rel=>exact ⟨k+1,_,by go_num,rfl,by omega,by rw [HC2.out];exact HBN.out,HC2,ya (zad HB.out _)⟩
   case measure=>simp [intOf];omega
  have b2:decide (n<127)=true:=yb (by omega)
  have b2':decide ((n:Int)<127)=true:=yb (by omega)
  by_cases h3:n=35
  ·have b3:((n:Int)==35)=true:=by rw [h3];rfl
   have b3':((n:Int) != 35)=false:=by simp only [bne,b3,Bool.not_true]
   have b3n:(n==35)=true:=by rw [h3];rfl
   have HC2:=ya (HC2.out (by rw [HCH.out,yf (.inr (.inr (.inl h3)))]))
   have H3:=ya h3
   clear HCH h1 h2 h3 HC1
   go_wp2_with (first|(go_at_call 133;refine (HH.out _).mono ?_;rintro e w' ⟨rfl,q,rfl⟩))
   go_roundw
   case rel=>exact ⟨k+1,_,by go_num,rfl,by omega,by rw [HC2.out];exact HBN.out,HC2,ya (zad HB.out _)⟩
   case measure=>simp [intOf];omega
  have b3:((n:Int)==35)=false:=by rw [ye];omega
  have b3':((n:Int) != 35)=true:=by simp only [bne,b3,yi]
  have b3n:(n==35)=false:=by rw [ye];exact h3
  cases d with
  | true =>
   have HC2:=ya (HC2.out (by rw [HCH.out,yf (.inr (.inr (.inr rfl)))]))
   clear HCH h1 h2 h3 HC1
   go_wp2_with (first|(go_at_call 133;refine (HH.out _).mono ?_;rintro e w' ⟨rfl,q,rfl⟩)|(go_at_call 126;refine (HD.out _).mono ?_;rintro e w' ⟨rfl,rfl⟩))
   go_roundw
   case rel=>exact ⟨k+1,_,by go_num,rfl,by omega,by rw [HC2.out];exact HBN.out,HC2,ya (zad HB.out _)⟩
   case measure=>simp [intOf];omega
  | false =>
   have HC1:=ya (HC1.out (by rw [HCH.out,yg (by rintro (h|h|h|h);exact h1 h;exact h2 h;exact h3 h;cases h)]))
   clear HCH h1 h2 h3 HC2
   go_wp2_with (go_at_call 126;refine (HD.out _).mono ?_;rintro e w' ⟨rfl,rfl⟩)
   go_roundw
   case rel=>exact ⟨k+1,_,by go_num,rfl,by omega,by rw [HC1.out];exact HBN.out,HC1,HB⟩
   case measure=>simp [intOf];omega
theorem rtext13 (s:List UInt8) (w:World) (hl:s.length<=288230376151711744) :
  Calls Tryz.prog 90 #[.string (mkB s)] w fun e w'=>e=.returned (.string (mkB (textF s)))/\Below w.heap.size w w':=by
 have hsz:(mkB s).size=s.length:=zaE s
 have hszi:((mkB s).size:Int)=s.length:=by rw [hsz]
 have hm:(s.length:Int)<=288230376151711744:=by omega
 obtain ⟨R,hR⟩:∃R,R=mkB (textF s):=⟨_,rfl⟩
 have HR:=ya hR
 rw [<-hR]
 clear hR
 go_enter Tryz.func90,Tryz.ntmps90
 go_wp2
 go_loopw [3,4,5,6] (fun va vb vf vk wr=>∃(k:Nat) (A B:ByteArray) (f:Bool),vk=.int .i64 k/\va=.string A/\vb=.string B/\vf=.bool f/\k<=s.length/\A.size<=1152921504606846976/\B.size<=1152921504606846976/\Hid (A=mkB (40::zei (s.take k)))/\Hid (B=mkB (60::hexF (s.take k)))/\Hid (f=zdB (s.take k))/\Hid (Below w.heap.size w wr)) (fun _ _ _ vk _=>s.length-(intOf vk).toNat)
 case atStart=>exact ⟨0,_,_,true,rfl,rfl,rfl,rfl,Nat.zero_le _,by decide,by decide,ya rfl,ya rfl,ya rfl,Below.refl _ _⟩
 case round =>
  obtain ⟨k,A,B,f,rfl,rfl,rfl,rfl,hk,hA,hB,HA,HBB,HF,HB⟩:=hrel
  by_cases q1:k<s.length
  case neg =>
   have hd1:decide (k<s.length)=false:=yd q1
   have hd2:decide ((k:Int)<(s.length:Int))=false:=yd (by omega)
   have hq2:¬(k:Int)<(s.length:Int):=by omega
   have hf:=HF.out
   have htk:s.take k=s:=List.take_of_length_le (by omega)
   rw [htk] at hf
   cases f with
   | true =>
    have HX:=ya (show A++⟨#[41]⟩=R by
     rw [HR.out,HA.out,htk]
     unfold textF
     rw [yf hf.symm,show (⟨#[41]⟩:ByteArray)=mkB [41] from rfl,zbX];rfl)
    clear HR HA HBB HF hf htk
    go_wp2
    go_ret
    exact ⟨by rw [<-HX.out];rfl,HB.out⟩
   | false =>
    have HX:=ya (show B++⟨#[62]⟩=R by
     rw [HR.out,HBB.out,htk]
     unfold textF
     rw [yg (by rw [<-hf];decide),show (⟨#[62]⟩:ByteArray)=mkB [62] from rfl,zbX];rfl)
    clear HR HA HBB HF hf htk
    go_wp2
    go_ret
    exact ⟨by rw [<-HX.out];rfl,HB.out⟩
  have hd1:decide (k<s.length)=true:=yb q1
  have hd2:decide ((k:Int)<(s.length:Int))=true:=yb (by omega)
  have hk0:(0:Int)<=(k:Int):=by omega
  have hk1:(k:Int)<(s.length:Int):=by omega
  have hk2:k<(mkB s).size:=by omega
  have hk3:(k:Int)+1<=(s.length:Int):=by omega
  have hk4:k+1<=(mkB s).size:=by omega
  have hkw:IntKind.i64.wrap ((k:Int)+1)=(k:Int)+1:=IntWalk.i64_in _ (by omega)
  obtain ⟨c,hc⟩:∃c,c=s[k]'q1:=⟨_,rfl⟩
  have hcs:s[k]?=some c:=by rw [hc];exact List.getElem?_eq_getElem q1
  obtain ⟨n,hn⟩:∃n,n=c.toNat:=⟨_,rfl⟩
  have hat:((mkB s)[k]'hk2).toNat=n:=by rw [hn,hc];exact at_mkB q1 hk2
  have hext:=ext_one hcs
  have HH:=ya (fun W=>rhex13 c W)
  rw [<-hn] at HH
  have hT:=zfI hcs
  have hT2:=hexF_take hcs
  have hT3:=readF_take hcs
  have hbr:brF c=if n=40\/n=41\/n=92 then [92,c] else [c]:=by unfold brF;rw [hn];simp only [eqn 40,eqn 41,eqn 92];rfl
  have hbn:(mkB (40::zei (s.take (k+1)))).size<=1152921504606846976:=by
   have h1:=zeM (s.take (k+1))
   rw [List.length_take] at h1
   rw [zaE]
   simp
   omega
  have hbn2:(mkB (60::hexF (s.take (k+1)))).size<=1152921504606846976:=by
   have h1:=zgN (s.take (k+1))
   rw [List.length_take] at h1
   rw [zaE]
   simp
   omega
  have HBN:=ya hbn
  have HBN2:=ya hbn2
  have HC1:=ya (show brF c=[c]->A++mkB [c]=mkB (40::zei (s.take (k+1))) from fun h=>by rw [hT,h,HA.out,zbX];rfl)
  have HC2:=ya (show brF c=[92,c]->A++⟨#[92]⟩++mkB [c]=mkB (40::zei (s.take (k+1))) from fun h=>by
   rw [hT,h,HA.out,show (⟨#[92]⟩:ByteArray)=mkB [92] from rfl,zbX,zbX]
   simp)
  have HC3:=ya (show B++mkB (hexB c)=mkB (60::hexF (s.take (k+1))) by rw [hT2,HBB.out,zbX];rfl)
  have HF2:=ya (show zdB (s.take (k+1))=(f&&(decide (32<=n)&&decide (n<=126))) by rw [hT3,<-HF.out,<-hn])
  have hos:A.size+2<=9223372036854775807:=by omega
  have HBR:=ya hbr
  have hhs:(mkB (hexB c)).size=2:=by rw [zaE];rfl
  have hcz:(mkB [c]).size=1:=rfl
  clear hT hT2 hT3 hbr hbn hbn2 hcs hc hn HA HBB HF
  generalize mkB (hexB c)=HX at *
  generalize mkB [c]=CX at *
  by_cases h1:n=40
  ·subst h1
   have HCC:=ya (HC2.out (by rw [HBR.out,yf (.inl rfl)]))
   have HFF:=ya (show f=zdB (s.take (k+1)) by rw [HF2.out];cases f<;>rfl)
   clear HBR HC1 HC2 HF2
   cases f
   all_goals
    go_wp2_with (go_at_call 133;refine (HH.out _).mono ?_;rintro e w' ⟨rfl,q,rfl⟩)
    go_roundw
    case rel=>exact ⟨k+1,_,_,_,by go_num,rfl,rfl,rfl,by omega,by rw [HCC.out];exact HBN.out,by rw [HC3.out];exact HBN2.out,HCC,HC3,HFF,ya (zad HB.out _)⟩
    case measure=>simp [intOf];omega
  have b40:((n:Int)==40)=false:=by rw [ye];omega
  have b40n:(n==40)=false:=by rw [ye];exact h1
  by_cases h2:n=41
  ·subst h2
   have HCC:=ya (HC2.out (by rw [HBR.out,yf (.inr (.inl rfl))]))
   have HFF:=ya (show f=zdB (s.take (k+1)) by rw [HF2.out];cases f<;>rfl)
   clear HBR HC1 HC2 HF2
   cases f
   all_goals
    go_wp2_with (go_at_call 133;refine (HH.out _).mono ?_;rintro e w' ⟨rfl,q,rfl⟩)
    go_roundw
    case rel=>exact ⟨k+1,_,_,_,by go_num,rfl,rfl,rfl,by omega,by rw [HCC.out];exact HBN.out,by rw [HC3.out];exact HBN2.out,HCC,HC3,HFF,ya (zad HB.out _)⟩
    case measure=>simp [intOf];omega
  have b41:((n:Int)==41)=false:=by rw [ye];omega
  have b41n:(n==41)=false:=by rw [ye];exact h2
  by_cases h3:n=92
  ·subst h3
   have HCC:=ya (HC2.out (by rw [HBR.out,yf (.inr (.inr rfl))]))
   have HFF:=ya (show f=zdB (s.take (k+1)) by rw [HF2.out];cases f<;>rfl)
   clear HBR HC1 HC2 HF2
   cases f
   all_goals
    go_wp2_with (go_at_call 133;refine (HH.out _).mono ?_;rintro e w' ⟨rfl,q,rfl⟩)
    go_roundw
    case rel=>exact ⟨k+1,_,_,_,by go_num,rfl,rfl,rfl,by omega,by rw [HCC.out];exact HBN.out,by rw [HC3.out];exact HBN2.out,HCC,HC3,HFF,ya (zad HB.out _)⟩
    case measure=>simp [intOf];omega
  have b92:((n:Int)==92)=false:=by rw [ye];omega
  have b92n:(n==92)=false:=by rw [ye];exact h3
  have HCC:=ya (HC1.out (by rw [HBR.out,yg (by omega)]))
  clear h1 h2 h3
  cases f with
  | false =>
   have HFF:=ya (show false=zdB (s.take (k+1)) by rw [HF2.out,Bool.false_and])
   clear HBR HC1 HC2 HF2
   go_wp2_with (go_at_call 133;refine (HH.out _).mono ?_;rintro e w' ⟨rfl,q,rfl⟩)
   go_roundw
   case rel=>exact ⟨k+1,_,_,_,by go_num,rfl,rfl,rfl,by omega,by rw [HCC.out];exact HBN.out,by rw [HC3.out];exact HBN2.out,HCC,HC3,HFF,ya (zad HB.out _)⟩
   case measure=>simp [intOf];omega
  | true =>
   by_cases g1:n<32
   ·have d1:decide (32<=n)=false:=yd (by omega)
    have d1':decide ((32:Int)<=(n:Int))=false:=yd (by omega)
    have HFF:=ya (show false=zdB (s.take (k+1)) by rw [HF2.out,d1];rfl)
    clear HBR HC1 HC2 HF2 g1
    go_wp2_with (go_at_call 133;refine (HH.out _).mono ?_;rintro e w' ⟨rfl,q,rfl⟩)
    go_roundw
    case rel=>exact ⟨k+1,_,_,_,by go_num,rfl,rfl,rfl,by omega,by rw [HCC.out];exact HBN.out,by rw [HC3.out];exact HBN2.out,HCC,HC3,HFF,ya (zad HB.out _)⟩
    case measure=>simp [intOf];omega
   have d1:decide (32<=n)=true:=yb (by omega)
   have d1':decide ((32:Int)<=(n:Int))=true:=yb (by omega)
   by_cases g2:126<n
   ·have d2:decide (n<=126)=false:=yd (by omega)
    have d2':decide ((n:Int)<=126)=false:=yd (by omega)
    have HFF:=ya (show false=zdB (s.take (k+1)) by rw [HF2.out,d2,Bool.and_false,Bool.and_false])
    clear HBR HC1 HC2 HF2 g1 g2
    go_wp2_with (go_at_call 133;refine (HH.out _).mono ?_;rintro e w' ⟨rfl,q,rfl⟩)
    go_roundw
    case rel=>exact ⟨k+1,_,_,_,by go_num,rfl,rfl,rfl,by omega,by rw [HCC.out];exact HBN.out,by rw [HC3.out];exact HBN2.out,HCC,HC3,HFF,ya (zad HB.out _)⟩
    case measure=>simp [intOf];omega
   have d2:decide (n<=126)=true:=yb (by omega)
   have d2':decide ((n:Int)<=126)=true:=yb (by omega)
   have HFF:=ya (show true=zdB (s.take (k+1)) by rw [HF2.out,d1,d2];rfl)
   clear HBR HC1 HC2 HF2 g1 g2
   go_wp2_with (go_at_call 133;refine (HH.out _).mono ?_;rintro e w' ⟨rfl,q,rfl⟩)
   go_roundw
   case rel=>exact ⟨k+1,_,_,_,by go_num,rfl,rfl,rfl,by omega,by rw [HCC.out];exact HBN.out,by rw [HC3.out];exact HBN2.out,HCC,HC3,HFF,ya (zad HB.out _)⟩
   case measure=>simp [intOf];omega
def FormB (v:PV):Prop:=∀(sl:Value) (w:World),IsV w anyF v sl->Calls Tryz.prog 53 #[pvA v sl] w fun e w'=>∃s:ByteArray,e=.returned (.string s)/\s.size<=bndV v/\Below w.heap.size w w'
theorem rform_rowB {k n:Int} {s:List UInt8} {l:List PV} (hk:k≠0/\k≠1/\k≠2/\k≠3/\k≠4/\k≠5/\k≠8) (hx:∀(j:Nat) (x:PV),l[j]?=some x->FormB x) (hl:bndV (.mk k n s l)<=1152921504606846976):FormB (.mk k n s l):=by
 intro sl w hv
 obtain ⟨a1,cap1,e1,g1,g2,g3⟩:=hv.len
 subst e1
 have HA:=ya hv
 have HX:=ya hx
 have m1:(l.length:Int)<=9223372036854775807:=by have g1':l.length<=cap1:=g1;unfold maxLen at g2;omega
 obtain ⟨R,hR⟩:∃R,R=bndV (.mk k n s l):=⟨_,rfl⟩
 rw [<-hR]
 have hrb:bndL l+100<=R:=by rw [hR,bndV_is];simp only [PV.l];omega
 have hr2:R<=1152921504606846976:=by rw [hR];exact hl
 have HLE:=ya (fun (j:Nat)=>bndL_le l j)
 simp only [PV.l] at g1
 simp only [pvA,PV.kind,PV.n,PV.s,PV.l]
 obtain ⟨hk0,hk1,hk2,hk3,hk4,hk5,hk8⟩:=hk
 have e0:(k==0)=false:=by rw [ye];exact hk0
 have e1:(k==1)=false:=by rw [ye];exact hk1
 have e2:(k==2)=false:=by rw [ye];exact hk2
 have e3:(k==3)=false:=by rw [ye];exact hk3
 have e4:(k==4)=false:=by rw [ye];exact hk4
 have e5:(k==5)=false:=by rw [ye];exact hk5
 have e8:(k==8)=false:=by rw [ye];exact hk8
 have HRB:=ya hrb
 have HR2:=ya hr2
 clear hv hx hR hl g2 g3 hk0 hk1 hk2 hk3 hk4 hk5 hk8 hrb hr2
 generalize mkB s=S at *
 go_enter Tryz.func53,Tryz.ntmps53
 obtain ⟨B,hB⟩:∃B,B=w.heap.size:=⟨_,rfl⟩
 have HX1:=ya (zac (w:=w) (b:=B) (.cells #[.int .i64 k,.int .i64 n,.string S,.slice a1 l.length cap1] 27) hB)
 have HW:=ya (zag w (.cells #[.int .i64 k,.int .i64 n,.string S,.slice a1 l.length cap1] 27))
 go_upto_region 1 with fail
 rw [<-hB]
 clear hB
 generalize w.alloc _=W1 at *
 obtain ⟨⟨c0,c1,c2,c3⟩,-⟩:=zaj HX1.out
 go_wp2
 clear c0 c1 c2 c3
 go_loopw [9,10] (fun vo vj wr=>∃(j:Nat) (O:ByteArray),vj=.int .i64 j/\vo=.string O/\j<=l.length/\O.size<=1152921504606846976/\Hid (O.size<=bndL (l.take j))/\Hid (Below W1.heap.size W1 wr)) (fun _ vj _=>l.length-(intOf vj).toNat)
 case atStart=>exact ⟨0,_,rfl,rfl,Nat.zero_le _,by decide,ya (Nat.zero_le _),Below.refl _ _⟩
 case round =>
  obtain ⟨j,O,rfl,rfl,hj,hO,HO,HWR1⟩:=hrel
  have HWR:=ya (HW.out.trans (HWR1.out.mono HW.out.size))
  obtain ⟨⟨c0,c1,c2,c3⟩,-⟩:=zaj (zaa HWR1.out HX1.out)
  by_cases q1:j<l.length
  case neg =>
   have hd1:decide (j<l.length)=false:=yd q1
   have hd2:decide ((j:Int)<(l.length:Int))=false:=yd (by omega)
   have hq2:¬(j:Int)<(l.length:Int):=by omega
   have hoo:O.size<=bndL l:=Nat.le_trans HO.out (HLE.out j)
   have hO2:2+O.size<=9223372036854775807:=by omega
   have HEE:=ya (show ∀a b:ByteArray,a.size<=2->b.size<=2->(a++O++b).size<=R from fun a b h1 h2=>by
    rw [ByteArray.size_append,ByteArray.size_append];have:=HRB.out;omega)
   by_cases hk:k=6
   ·have e6:(k==6)=true:=by rw [beq_iff_eq];exact hk
    clear HA HX HO hoo HLE hk HRB HR2
    go_wp2
    go_ret
    exact ⟨_,rfl,HEE.out _ _ (by decide) (by decide),HWR.out⟩
   ·have e6:(k==6)=false:=by rw [ye];exact hk
    clear HA HX HO hoo HLE hk HRB HR2
    go_wp2
    go_ret
    exact ⟨_,rfl,HEE.out _ _ (by decide) (by decide),HWR.out⟩
  have hd1:decide (j<l.length)=true:=yb q1
  have hd2:decide ((j:Int)<(l.length:Int))=true:=yb (by omega)
  obtain ⟨x,hx⟩:∃x,l[j]?=some x:=⟨_,List.getElem?_eq_getElem q1⟩
  obtain ⟨-,-,-,b1,o1,rfl,-,-,hax⟩:=(HA.out.below HWR.out).at (by simp only [PV.l];omega)
  simp only [PV.l] at hax
  obtain ⟨sx,hsx,x0,x1,x2,x3⟩:=hax j x hx
  obtain ⟨sa',sc',rfl,-,-,-⟩:=hsx.len
  have HCALL:=ya (HX.out j x hx _ wr hsx)
  simp only [pvA] at HCALL
  have HT:=ya (zeN hx)
  have HL2:=ya (HLE.out (j+1))
  clear hsx hax hx HA HX HLE
  have hjl:(0:Int)<=(j:Int):=by omega
  have hji:(j:Int)<(l.length:Int):=by omega
  have hjw:IntKind.i64.wrap ((j:Int)+1)=(j:Int)+1:=IntWalk.i64_in _ (by omega)
  have hoT:O.size+1<=9223372036854775807:=by omega
  have HSZ:=ya (show ∀a fx:ByteArray,a.size<=1->fx.size<=bndV x->(O++a++fx).size<=bndL (l.take (j+1)) from fun a fx h1 h2=>by
   rw [ByteArray.size_append,ByteArray.size_append,HT.out];have:=HO.out;omega)
  have HSZ2:=ya (show ∀fx:ByteArray,fx.size<=bndV x->(O++fx).size<=bndL (l.take (j+1)) from fun fx h2=>by
   rw [ByteArray.size_append,HT.out];have:=HO.out;omega)
  have HLL:=ya (show bndL (l.take (j+1))<=1152921504606846976 by have:=HL2.out;have:=HRB.out;have:=HR2.out;omega)
  have HFX:=ya (show bndV x<=1152921504606846976 by have:=HT.out;have:=HLL.out;omega)
  generalize bndV x=bx at *
  generalize x.kind=xk at *
  generalize x.n=xn at *
  generalize mkB x.s=xs at *
  generalize x.l.length=xl at *
  clear HT HO HL2
  by_cases j0:j=0
  ·have hj3:decide (0<j)=false:=yd (by omega)
   have hj4:decide ((0:Int)<(j:Int))=false:=yd (by omega)
   clear j0
   go_wp2_with fail
   refine HCALL.out.mono ?_
   rintro e w5 ⟨fx,rfl,hfx,hb5⟩
   have hfx2:O.size+fx.size<=9223372036854775807:=by have:=HFX.out;omega
   have HN:=ya (HSZ2.out fx hfx)
   have HW5:=yl HWR1 hb5
   clear hb5 x0 x1 x2 x3 HCALL c0 c1 c2 c3
   go_wp2
   go_roundw
   case rel=>exact ⟨j+1,_,by go_num,rfl,by omega,Nat.le_trans HN.out HLL.out,HN,HW5⟩
   case measure=>simp [intOf];omega
  ·have hj3:decide (0<j)=true:=yb (by omega)
   have hj4:decide ((0:Int)<(j:Int))=true:=yb (by omega)
   go_wp2_with fail
   refine HCALL.out.mono ?_
   rintro e w5 ⟨fx,rfl,hfx,hb5⟩
   have hfx2:O.size+1+fx.size<=9223372036854775807:=by have:=HFX.out;omega
   have HN:=ya (HSZ.out ⟨#[32]⟩ fx (by decide) hfx)
   have HW5:=yl HWR1 hb5
   clear hb5 x0 x1 x2 x3 HCALL c0 c1 c2 c3
   go_wp2
   go_roundw
   case rel=>exact ⟨j+1,_,by go_num,rfl,by omega,Nat.le_trans HN.out HLL.out,HN,HW5⟩
   case measure=>simp [intOf];omega
theorem rform_leafB {v:PV} (hk:v.kind=0\/v.kind=1\/v.kind=2\/v.kind=3\/v.kind=4\/v.kind=5\/v.kind=8) (ht:bndV v<=1152921504606846976):FormB v:=by
 intro sl w hv
 obtain ⟨a1,cap1,e1,g1,g2,g3⟩:=hv.len
 subst e1
 have m1:(v.l.length:Int)<=9223372036854775807:=by unfold maxLen at g2;omega
 have HB:=ya (zag w (.cells #[.int .i64 v.kind,.int .i64 v.n,.string (mkB v.s),.slice a1 v.l.length cap1] 27))
 have HX1:=ya (zac (w:=w) (.cells #[.int .i64 v.kind,.int .i64 v.n,.string (mkB v.s),.slice a1 v.l.length cap1] 27) rfl)
 have hs:4*v.s.length+100<=bndV v:=by rw [bndV_is];omega
 clear hv g1 g2 g3
 generalize bndV v=R at *
 obtain ⟨k,n,s,l⟩:=v
 simp only [PV.kind,PV.n,PV.s,PV.l,pvA] at m1 HB HX1 hs hk |-
 generalize l.length=ll at *
 rcases hk with rfl|rfl|hk2|hk2|rfl|rfl|rfl
 ·have HR:=ya (show (⟨#[110,117,108,108]⟩:ByteArray).size<=R from Nat.le_trans (show _<=100 by decide) (by omega))
  clear hs ht
  generalize mkB s=S at *
  go_enter Tryz.func53,Tryz.ntmps53
  go_wp2
  go_ret
  exact ⟨_,rfl,HR.out,HB.out⟩
 ·have HR:=ya (show 100<=R by omega)
  clear hs ht
  generalize mkB s=S at *
  by_cases h1:n=1
  ·have e1:(n==1)=true:=by rw [beq_iff_eq];exact h1
   clear h1
   go_enter Tryz.func53,Tryz.ntmps53
   go_wp2
   go_ret
   exact ⟨_,rfl,Nat.le_trans (show _<=100 by decide) HR.out,HB.out⟩
  ·have e1:(n==1)=false:=by rw [ye];exact h1
   clear h1
   go_enter Tryz.func53,Tryz.ntmps53
   go_wp2
   go_ret
   exact ⟨_,rfl,Nat.le_trans (show _<=100 by decide) HR.out,HB.out⟩
 ·have HP:=ya (fun W=>zdJ 2 n (mkB s) a1 ll cap1 W m1)
  subst hk2
  unfold zdn at HP
  have hpl:=zdP 2 n (zbn (mkB s) ll)
  generalize zbF 2 n (zbn (mkB s) ll)=p at *
  obtain ⟨t,er⟩:=p
  simp only at hpl
  have HSZ:=ya (show (mkS t).size<=R by rw [zbr];omega)
  clear hs ht hpl
  generalize mkB s=S at *
  simp only at HP
  generalize mkS t=T at *
  go_enter Tryz.func53,Tryz.ntmps53
  go_wp2_with (go_at_call 89;refine (HP.out _).mono ?_;rintro e w1 ⟨rfl,hb1⟩)
  go_ret
  exact ⟨_,rfl,HSZ.out,HB.out.trans (hb1.mono HB.out.size)⟩
 ·have HP:=ya (fun W=>zdJ 3 n (mkB s) a1 ll cap1 W m1)
  subst hk2
  unfold zdn at HP
  have hpl:=zdP 3 n (zbn (mkB s) ll)
  generalize zbF 3 n (zbn (mkB s) ll)=p at *
  obtain ⟨t,er⟩:=p
  simp only at hpl
  have HSZ:=ya (show (mkS t).size<=R by rw [zbr];omega)
  clear hs ht hpl
  generalize mkB s=S at *
  simp only at HP
  generalize mkS t=T at *
  go_enter Tryz.func53,Tryz.ntmps53
  go_wp2_with (go_at_call 89;refine (HP.out _).mono ?_;rintro e w1 ⟨rfl,hb1⟩)
  go_ret
  exact ⟨_,rfl,HSZ.out,HB.out.trans (hb1.mono HB.out.size)⟩
 ·have HT:=ya (fun W=>rtext13 s W (by omega))
  have htl:(mkB (textF s)).size<=R:=by
   rw [zaE]
   have h1:=zeM s
   have h2:=zgN s
   unfold textF
   split
   ·simp;omega
   ·simp;omega
  have HSZ:=ya htl
  clear hs ht htl
  generalize mkB (textF s)=T at *
  generalize mkB s=S at *
  go_enter Tryz.func53,Tryz.ntmps53
  go_wp2_with (go_at_call 90;refine (HT.out _).mono ?_;rintro e w1 ⟨rfl,hb1⟩)
  go_ret
  exact ⟨_,rfl,HSZ.out,HB.out.trans (hb1.mono HB.out.size)⟩
 ·have HT:=ya (fun W=>rname13 s W (by omega))
  have htl:(mkB (showV (.mk 5 0 s [])).1).size<=R:=by
   rw [zaE,zf8]
   have h1:=zc5 s
   split
   ·simp;omega
   ·simp
  have HSZ:=ya htl
  clear hs ht htl
  generalize showV (.mk 5 0 s [])=p at *
  obtain ⟨t,er⟩:=p
  simp only at HT HSZ
  generalize mkB t=T at *
  generalize mkB s=S at *
  go_enter Tryz.func53,Tryz.ntmps53
  go_wp2_with (go_at_call 91;refine (HT.out _).mono ?_;rintro e w1 ⟨rfl,hb1⟩)
  go_ret
  exact ⟨_,rfl,HSZ.out,HB.out.trans (hb1.mono HB.out.size)⟩
 ·have HP:=ya (fun W=>zdJ 2 n ⟨#[]⟩ none 0 0 W (by decide))
  unfold zdn at HP
  have hpl:=zdP 2 n (zbn ⟨#[]⟩ 0)
  generalize zbF 2 n (zbn ⟨#[]⟩ 0)=p at *
  obtain ⟨t,er⟩:=p
  simp only at hpl HP
  have hsz:(mkS t).size<=40:=by rw [zbr];exact hpl
  have HR:=ya (show 100<=R by omega)
  clear hs ht hpl
  generalize mkB s=S at *
  generalize mkS t=T at *
  go_enter Tryz.func53,Tryz.ntmps53
  go_wp2_with (go_at_call 89;refine (HP.out _).mono ?_;rintro e w1 ⟨rfl,hb1⟩)
  go_ret
  exact ⟨_,rfl,by rw [ByteArray.size_append];exact Nat.le_trans (Nat.add_le_add_right hsz _) (Nat.le_trans (show _<=100 by decide) HR.out),HB.out.trans (hb1.mono HB.out.size)⟩
theorem rform_b:∀(N:Nat) (v:PV),SizeOf.sizeOf v<=N->bndV v<=1152921504606846976->FormB v:=by
 intro N
 induction N with
 | zero=>intro v h;obtain ⟨_,_,_,_⟩:=v;simp at h
 | succ N ih =>
 intro v hN hl
 by_cases hk:v.kind=0\/v.kind=1\/v.kind=2\/v.kind=3\/v.kind=4\/v.kind=5\/v.kind=8
 ·exact rform_leafB hk hl
 ·have hx:∀(j:Nat) (x:PV),v.l[j]?=some x->FormB x:=fun j x hx =>
   ih x (by have:=zcE hx;omega) (by have:=bndL_mem hx;rw [bndV_is] at hl;omega)
  obtain ⟨k,n,s,l⟩:=v
  simp only [PV.kind,PV.l] at hk hx
  exact rform_rowB (by omega) hx hl
def zfg (s:Sec):Prop:=s.gs.length<=80/\0<=fewV s.tr 100/\∀g∈s.gs,g.es.length<=100
theorem few_upto {gs:List Grp} {c:Nat} {g:Grp} (hg:gs[c]?=some g) (h:∀x∈gs.take c,x.es.length<=100) (hx:g.es.length<=100):∀x∈gs.take (c+1),x.es.length<=100:=by
 intro x hm
 rw [List.take_add_one,hg] at hm
 rcases List.mem_append.1 hm with h1|h1
 ·exact h x h1
 ·simp at h1;subst h1;exact hx
theorem zfz {s:Sec} {gv sl:Value} {w:World} (h:zbe w anyF s gv sl) (ht:txM 140737488355328 s.tr) :
  Calls Tryz.prog 15 #[secA s gv sl] w fun e w'=>(∃b,e=.returned (.bool b)/\(b=true->zfg s))/\Below w.heap.size w w':=by
 obtain ⟨gs,x⟩:=s
 simp only at ht
 obtain ⟨ga,gc,rfl,hgc,hgm,-⟩:=h.1.len
 simp only at hgc
 have HF:=ya (fun (W:World) (hb:Below w.heap.size w W)=>few_any _ x sl W 100 (ym _) (by decide) (by decide) (h.2.below hb))
 have HFM:=ya (fun (h0:0<=fewV x 100) (W:World) (hb:Below w.heap.size w W)=>rform_b _ x (ym _) (bnd_few h0 ht) sl W (h.2.below hb))
 have HGA:=ya (fun (W:World) (hb:Below w.heap.size w W)=>(h.1.below hb))
 have HOK:=ya (show gs.length<=80->0<=fewV x 100->(∀g∈gs.take gs.length,g.es.length<=100)->zfg ⟨gs,x⟩ from fun h1 h2 h3=>⟨h1,h2,by rw [List.take_length] at h3;exact h3⟩)
 have hbd:=zeJ x 100 (by decide)
 have hf1:-1<=fewV x 100:=hbd.1
 have hf2:fewV x 100<=100:=hbd.2.1
 unfold secA
 simp only at HGA |-
 obtain ⟨sa,sc,rfl,-,-,-⟩:=h.2.len
 simp only at HF HFM |-
 unfold pvA at HF HFM
 clear h ht hbd
 have hg63:(gs.length:Int)<=9223372036854775807:=by unfold maxLen at hgm;omega
 generalize zfg ⟨gs,x⟩=OK at *
 generalize bndV x=bx at *
 generalize fewV x 100=m2 at *
 generalize x.kind=xk at *
 generalize x.n=xn at *
 generalize mkB x.s=xb at *
 generalize x.l.length=xl at *
 obtain ⟨B,hB⟩:∃B,B=w.heap.size:=⟨_,rfl⟩
 have HB1:=ya (zag w (.cells #[.slice ga gs.length gc,.int .i64 xk,.int .i64 xn,.string xb,.slice sa xl sc] 33))
 have HX1:=ya (zac (w:=w) (b:=B) (.cells #[.slice ga gs.length gc,.int .i64 xk,.int .i64 xn,.string xb,.slice sa xl sc] 33) hB)
 go_enter Tryz.func15,Tryz.ntmps15
 go_upto_region 1 with fail
 try rw [<-hB]
 clear hB
 generalize World.alloc _ _=W1 at *
 obtain ⟨⟨x0,x1,x2,x3,x4⟩,-⟩:=za1 HX1.out
 by_cases h80:gs.length<=80
 case neg =>
  have hd1:decide (80<gs.length)=true:=yb (by omega)
  have hd2:decide ((80:Int)<gs.length)=true:=yb (by omega)
  clear HF HFM HGA HOK
  go_wp2
  go_ret
  exact ⟨⟨false,rfl,fun h=>(by cases h)⟩,HB1.out⟩
 have hd1:decide (80<gs.length)=false:=yd (by omega)
 have hd2:decide ((80:Int)<gs.length)=false:=yd (by omega)
 have HC1:=ya (HF.out W1 HB1.out)
 go_wp2_with fail
 refine HC1.out.mono ?_
 rintro e w2 ⟨rfl,hb⟩
 have HB2:=yl HB1 hb
 have HX2:=ya (zaa hb HX1.out)
 clear hb HF HC1 x0 x1 x2 x3 x4 HX1 HB1
 obtain ⟨⟨x0,x1,x2,x3,x4⟩,-⟩:=za1 HX2.out
 by_cases hm:0<=m2
 case neg =>
  have hd3:decide (m2<0)=true:=yb (by omega)
  clear HFM HGA HOK
  go_wp2
  go_ret
  exact ⟨⟨false,rfl,fun h=>(by cases h)⟩,HB2.out⟩
 have hd3:decide (m2<0)=false:=yd (by omega)
 have HC2:=ya (HFM.out hm w2 HB2.out)
 go_wp2_with fail
 refine HC2.out.mono ?_
 rintro e w3 ⟨fs,rfl,-,hb⟩
 have HB3:=yl HB2 hb
 have HX3:=ya (zaa hb HX2.out)
 clear hb HFM HC2 x0 x1 x2 x3 x4 HX2 HB2
 obtain ⟨⟨x0,x1,x2,x3,x4⟩,-⟩:=za1 HX3.out
 by_cases h3:3000<fs.size
 ·have hd4:decide (3000<fs.size)=true:=yb h3
  have hd5:decide ((3000:Int)<fs.size)=true:=yb (by omega)
  clear HGA HOK
  go_wp2
  go_ret
  exact ⟨⟨false,rfl,fun h=>(by cases h)⟩,HB3.out⟩
 have hd4:decide (3000<fs.size)=false:=yd h3
 have hd5:decide ((3000:Int)<fs.size)=false:=yd (by omega)
 have HOK2:=ya (HOK.out h80 hm)
 clear HOK hm h80
 go_wp2_with fail
 clear x0 x1 x2 x3 x4
 go_loopw [3] (fun v wr=>∃c:Nat,v=.int .i64 c/\c<=gs.length/\Hid (Below w3.heap.size w3 wr)/\Hid (∀x∈gs.take c,x.es.length<=100)) (fun v _=>gs.length-(intOf v).toNat)
 case atStart=>exact ⟨0,rfl,Nat.zero_le _,ya (Below.refl _ _),ya (fun x hx=>by simp at hx)⟩
 case round =>
  obtain ⟨c,rfl,hc,HW,HA⟩:=hrel
  have HB:=ya (HB3.out.trans (HW.out.mono HB3.out.size))
  obtain ⟨⟨x0,x1,x2,x3,x4⟩,-⟩:=za1 (zaa HW.out HX3.out)
  by_cases hlt:c<gs.length
  case neg =>
   have hce:c=gs.length:=by omega
   subst hce
   have hcd:decide ((gs.length:Int)<(gs.length:Int))=false:=yd (by omega)
   have hcd2:decide (gs.length<gs.length)=false:=yd (by omega)
   go_wp2
   go_ret
   exact ⟨⟨true,rfl,fun _=>HOK2.out HA.out⟩,HB.out⟩
  have hcd:decide ((c:Int)<(gs.length:Int))=true:=yb (by omega)
  have hcd2:decide (c<gs.length)=true:=yb (by omega)
  have hlj:(c:Int)<(gs.length:Int):=by omega
  obtain ⟨-,-,-,b,off,ha,-,-,hat⟩:=(HGA.out wr HB.out).at (by omega)
  subst ha
  obtain ⟨g,hg⟩:∃g,gs[c]?=some g:=⟨_,List.getElem?_eq_getElem hlt⟩
  obtain ⟨v,hv,g0,g1⟩:=hat c g hg
  obtain ⟨ea,ec,rfl,hel,hec,-⟩:=hv.len
  have HA2:=ya (few_upto hg HA.out)
  have he63:(g.es.length:Int)<=9223372036854775807:=by unfold maxLen at hec;omega
  clear hat hv hg HA
  generalize g.es.length=el at *
  by_cases h100:100<el
  ·have hd6:decide (100<el)=true:=yb h100
   have hd7:decide ((100:Int)<el)=true:=yb (by omega)
   go_wp2
   go_ret
   exact ⟨⟨false,rfl,fun h=>(by cases h)⟩,HB.out⟩
  ·have hd6:decide (100<el)=false:=yd h100
   have hd7:decide ((100:Int)<el)=false:=yd (by omega)
   have HA3:=ya (HA2.out (by omega))
   clear HA2
   go_wp2
   go_roundw
   case rel=>exact ⟨c+1,by go_num,by omega,HW,HA3⟩
   case measure=>simp [intOf];omega
theorem check_even {v:PV} (h:zcl v=0) (hk:v.kind=7):v.l.length % 2=0:=by
 unfold zcl at h
 split at h
 ·cases h
 ·rw [zfa] at h
  split at h
  ·rename_i h1;exact absurd h h1
  ·rename_i h1
   have h2:ownC v=0:=by simpa using h1
   obtain ⟨k,n,s,l⟩:=v
   simp only [PV.kind] at hk
   subst hk
   simp only [ownC] at h2
   rw [yg (by decide),yg (by decide),yg (by decide),yg (by decide),yg (by decide),yg (by decide),yf trivial] at h2
   by_cases he:l.length % 2=0
   ·exact he
   ·rw [yf (.inr (.inr he))] at h2;cases h2
theorem secs_upto {l:List Sec} {c:Nat} {s:Sec} {p:Sec->Prop} (hx:l[c]?=some s) (h:∀x∈l.take c,p x) (hp:p s):∀x∈l.take (c+1),p x:=by
 intro x hm
 rw [List.take_add_one,hx] at hm
 rcases List.mem_append.1 hm with h1|h1
 ·exact h x h1
 ·simp at h1;subst h1;exact hp
theorem depth_fewS {s:Sec} (h:zfg s):zaJ s.tr<=1000:=depth_few h.2.1
theorem law_ctables {l:List Sec} {v:Value} (n:Int) (w:World) (h:IsL w anyF l v) (ht:∀s∈l,txM 140737488355328 s.tr) (hn:n<=9223372036854775807) :
  Calls Tryz.prog 7 #[v,.int .i64 n] w (PlEndX w):=by
 have HW:=ya (fun W=>works17 W)
 obtain ⟨a,cap,rfl,g1,g2,g3⟩:=h.len
 have hl63:(l.length:Int)<=9223372036854775807:=by unfold maxLen at g2;omega
 have HL:=ya h
 have HTX:=ya ht
 clear h ht g2 g3
 by_cases hbig:8<l.length
 ·have hb2:decide (8<l.length)=true:=yb hbig
  have hb3:decide ((8:Int)<l.length)=true:=yb (by omega)
  clear hbig HL HTX
  go_enter Tryz.func7,Tryz.ntmps7
  go_wp2_with (go_at_call 19;refine (HW.out _).mono ?_;rintro e w' ⟨rfl,hb⟩)
  go_ret
  exact ⟨rfl,hb⟩
 have hb2:decide (8<l.length)=false:=yd hbig
 have hb3:decide ((8:Int)<l.length)=false:=yd (by omega)
 have hl8:l.length<=8:=by omega
 clear hbig
 go_enter Tryz.func7,Tryz.ntmps7
 go_wp2_with fail
 go_loopw [5] (fun v wr=>∃c:Nat,v=.int .i64 c/\c<=l.length/\Hid (Below w.heap.size w wr)/\Hid (∀s∈l.take c,zfg s/\zd5 s=0)) (fun v _=>l.length-(intOf v).toNat)
 case atStart=>exact ⟨0,rfl,Nat.zero_le _,ya (Below.refl _ _),ya (fun x hx=>by simp at hx)⟩
 case round =>
  obtain ⟨c,rfl,hc,HB,HA⟩:=hrel
  by_cases hlt:c<l.length
  case pos =>
   have hcd:decide ((c:Int)<(l.length:Int))=true:=yb (by omega)
   have hcd2:decide (c<l.length)=true:=yb (by omega)
   have hlj:(c:Int)<(l.length:Int):=by omega
   have hL2:=HL.out.below HB.out
   obtain ⟨-,-,-,b,off,rfl,-,-,hat⟩:=hL2.at (by omega)
   obtain ⟨s,hs⟩:∃s,l[c]?=some s:=⟨_,List.getElem?_eq_getElem hlt⟩
   obtain ⟨gv,sl,hsec,d0,d1,d2,d3,d4⟩:=hat c s hs
   have htx:=HTX.out s (List.mem_of_getElem? hs)
   have HUP:=ya (fun h=>secs_upto hs HA.out h)
   have HFW:=ya (zfz hsec htx)
   have HCK:=ya (fun (ho:zfg s) (W:World) (hb:Below wr.heap.size wr W)=>rcheck15_any (hsec.below hb) (txM_le (by decide) _ htx) (depth_fewS ho))
   obtain ⟨ga,gc,rfl,-,-,-⟩:=hsec.1.len
   obtain ⟨sa,sc,rfl,-,-,-⟩:=hsec.2.len
   clear hL2 hat hs htx hsec HA
   unfold secA at HFW HCK
   generalize zfg s=OK at *
   generalize zd5 s=ck at *
   generalize s.gs.length=gl at *
   generalize s.tr.kind=xk at *
   generalize s.tr.n=xn at *
   generalize mkB s.tr.s=xb at *
   generalize s.tr.l.length=xl at *
   go_wp2_with fail
   refine HFW.out.mono ?_
   rintro e w2 ⟨⟨bo,rfl,hbo⟩,hb⟩
   have HB2:=yl HB hb
   have HBO:=ya hbo
   have HCK2:=ya (fun ho=>HCK.out ho w2 hb)
   have d0:=cell?_keep hb d0
   have d1:=cell?_keep hb d1
   have d2:=cell?_keep hb d2
   have d3:=cell?_keep hb d3
   have d4:=cell?_keep hb d4
   clear hb hbo HFW HCK
   cases bo
   ·clear HUP HBO HCK2
    go_wp2_with (go_at_call 19;refine (HW.out _).mono ?_;rintro e w' ⟨rfl,hb⟩)
    go_ret
    exact ⟨rfl,HB2.out.trans (hb.mono HB2.out.size)⟩
   have HOK:=ya (HBO.out rfl)
   have HC:=ya (HCK2.out HOK.out)
   clear HBO HCK2
   go_wp2_with fail
   refine HC.out.mono ?_
   rintro e w3 ⟨rfl,hb⟩
   have HB3:=yl HB2 hb
   clear hb HC d0 d1 d2 d3 d4
   by_cases hck:ck=0
   ·have e1:(ck==0)=true:=by rw [beq_iff_eq];exact hck
    have e2:(ck != 0)=false:=by simp only [bne,e1,Bool.not_true]
    have HA2:=ya (HUP.out ⟨HOK.out,hck⟩)
    clear HUP HOK hck
    go_wp2
    go_roundw
    case rel=>exact ⟨c+1,by go_num,by omega,HB3,HA2⟩
    case measure=>simp [intOf];omega
   ·have e1:(ck==0)=false:=by rw [ye];exact hck
    have e2:(ck != 0)=true:=by simp only [bne,e1,yi]
    clear HUP HOK hck
    go_wp2_with (go_at_call 19;refine (HW.out _).mono ?_;rintro e w' ⟨rfl,hb⟩)
    go_ret
    exact ⟨rfl,HB3.out.trans (hb.mono HB3.out.size)⟩
  have hce:c=l.length:=by omega
  subst hce
  have hcd:decide ((l.length:Int)<(l.length:Int))=false:=yd (by omega)
  have hcd2:decide (l.length<l.length)=false:=yd (by omega)
  have ha:=HA.out
  rw [List.take_length] at ha
  have hsm:zd0 l:=fun s hs=>check_smallG (ha s hs).2
  have hev:evenL l:=fun s hs hk=>check_even (zd9 (ha s hs).2).2.2.1 hk
  have hL2:=HL.out.below HB.out
  have HTO:=ya (secsTo_any hL2 (by omega))
  have HOF:=ya (fun (W:World) (v':Value) (hv:IsL W anyF l v')=>of_any hv hsm hev)
  have HRO:=ya (fun (W:World) (hb:Below wr.heap.size wr W)=>rof_any (hL2.below hb) hsm hev)
  generalize tabV l=V at *
  obtain ⟨⟨ps,root⟩,z⟩:=V
  unfold OfEnd at HOF HRO
  simp only at HOF HRO
  have hzz:(z==z)=true:=by simp
  clear ha hsm hev HA hL2 HL HTX
  go_wp2_with fail
  refine HTO.out.mono ?_
  rintro e w1 ⟨v',rfl,hv',hb⟩
  obtain ⟨ka,kc,rfl,-,-,-⟩:=hv'.len
  have HO1:=ya (HOF.out _ _ hv')
  have HB1:=ya hb
  clear hb hv' HTO HOF
  go_wp2_with fail
  refine HO1.out.mono ?_
  rintro e w2 ⟨pa,pc,rfl,hrow2,-,hb2'⟩
  have hb2a:=hb2'.alloc hb2'.size (.cells #[.slice pa ps.length pc,.int .i64 root] 74)
  have HT2:=ya (zac (w:=w2) (b:=w2.heap.size) (.cells #[.slice pa ps.length pc,.int .i64 root] 74) rfl)
  have HR2:=ya (hrow2.mono (zag w2 (.cells #[.slice pa ps.length pc,.int .i64 root] 74)))
  have HB2:=yl HB1 hb2a
  have HRS2:=ya (HRO.out _ HB2.out)
  clear hb2' hb2a HO1 HB1 HRO hrow2
  go_upto_region 9 with fail
  generalize w2.heap.size=T at *
  generalize World.alloc _ _=W2 at *
  go_wp2_with fail
  refine HRS2.out.mono ?_
  rintro e w4 ⟨qa,qc,rfl,hrow4,-,hb4'⟩
  have hb4a:=hb4'.alloc hb4'.size (.cells #[.slice qa ps.length qc,.int .i64 root] 78)
  have HQ4:=ya (zac (w:=w4) (b:=w4.heap.size) (.cells #[.slice qa ps.length qc,.int .i64 root] 78) rfl)
  have HS4:=ya (hrow4.mono (zag w4 (.cells #[.slice qa ps.length qc,.int .i64 root] 78)))
  have HT4:=ya (zaa hb4a HT2.out)
  have HR4:=ya (HR2.out.mono hb4a)
  have HB4:=yl HB2 hb4a
  clear hb4' hb4a hrow4 HRS2 HB2 HT2 HR2
  go_upto_region 10 with fail
  generalize w4.heap.size=Q at *
  generalize World.alloc _ _=W4 at *
  obtain ⟨⟨t0,t1⟩,-⟩:=zax HT4.out
  have HF1:=ya (tfind_any HR4.out root n hn)
  have HF2:=ya (fun (W:World) (hb:Below W4.heap.size W4 W)=>rtfind_any (HS4.out.mono hb) root n hn)
  unfold FndEnd at HF1 HF2
  generalize tabF ⟨ps,root⟩ n=FV at *
  obtain ⟨fa,fb⟩:=FV
  simp only at HF1 HF2
  have hff:(fa==fa)=true:=by simp
  have hgg:(fb==fb)=true:=by simp
  go_wp2_with fail
  refine HF1.out.mono ?_
  rintro e w5 ⟨rfl,hb5⟩
  have HF2b:=ya (HF2.out w5 hb5)
  have HB5:=ya hb5
  obtain ⟨⟨q0,q1⟩,-⟩:=zax (zaa hb5 HQ4.out)
  clear hb5 HF1 HF2 t0 t1
  go_wp2_with fail
  refine HF2b.out.mono ?_
  rintro e w6 ⟨rfl,hb6⟩
  have HB6:=yl HB5 hb6
  clear hb6 HF2b HB5 q0 q1
  go_upto_region 12 with fail
  obtain ⟨⟨t0,t1⟩,-⟩:=zax (zaa HB6.out HT4.out)
  obtain ⟨⟨q0,q1⟩,-⟩:=zax (zaa HB6.out HQ4.out)
  have u0:=zaU.cell t0
  have u1:=zaU.cell t1
  have v0:=zaU.cell q0
  have v1:=zaU.cell q1
  have HR6:=ya (HR4.out.mono HB6.out)
  have HS6:=ya (HS4.out.mono HB6.out)
  have HS:=ya (fun p:zaU w6=>tsame_eq (HR6.out.mono p.h) (HS6.out.mono p.h) root)
  have HO1:=ya (fun p:zaU w6=>table_any pa ps.length pc root p.w)
  have HBF:=ya (HB.out.trans ((HB4.out.trans (HB6.out.mono HB4.out.size)).mono HB.out.size))
  clear t0 t1 q0 q1 HR4 HS4 HT4 HQ4 HR6 HS6 HB4 HB6
  generalize ps.length=pl at *
  refine zaW (by kernel_rfl) (by kernel_rfl) ?_
  repeat (go_big_quiet_step ((first
   |(go_at_call 35;with_reducible exact Calls.below_of (HO1.out _))
   |(go_at_call 34;with_reducible exact Calls.below_of (HS.out _))
   |(go_at_call 19;with_reducible exact Calls.below_of (HW.out _)))))
  refine wpQuiet_nil ?_
  rintro _ ⟨⟨w7,hb7⟩,rfl⟩
  go_wp2
  go_ret
  exact ⟨rfl,HBF.out.trans (hb7.mono HBF.out.size)⟩
end Go.Proofs.YtfafdeemfeaedaaGreat
namespace Go.Proofs.YtfafdeemfeaedaaGreat
open Go.ChangeShapes Go.WideShapes Go.RowKit Go.Deep
theorem zgj {α:Type} {C:α->List Value} {sz:Nat} (hC:∀a,(C a).length=sz):∀(l:List α) (j:Nat) (u:Value),(l.flatMap C)[j]?=some u->∃(i k:Nat) (a:α),j=i*sz+k/\k<sz/\l[i]?=some a/\(C a)[k]?=some u
 | [],j,u,h=>by simp at h
 | a::l,j,u,h=>by
  rw [List.flatMap_cons] at h
  by_cases hj:j<sz
  ·rw [List.getElem?_append_left (by rw [hC];exact hj)] at h
   exact ⟨0,j,a,by omega,hj,rfl,h⟩
  ·rw [List.getElem?_append_right (by rw [hC];omega),hC] at h
   obtain ⟨i,k,b,h1,h2,h3,h4⟩:=zgj hC l _ u h
   exact ⟨i+1,k,b,by rw [Nat.succ_mul];omega,h2,h3,h4⟩
theorem zfb {α:Type} {C:α->List Value} {sz:Nat} (hC:∀a,(C a).length=sz):∀l:List α,(l.flatMap C).length=l.length*sz
 | []=>by simp
 | a::l=>by rw [List.flatMap_cons,List.length_append,hC,zfb hC l,List.length_cons,Nat.succ_mul];omega
section
variable {P : Program} {H : Type} {enc : TypeId × Value -> H} {w : World} {base : Nat} {spare : Nat -> Bool} {held : Bool}
theorem zeu {α:Type} [Inhabited α] {T E:TypeId} {sz:Nat} (und:P.underlying T=some (.slice E)) (hE:P.cellsOf E=sz) {C:α->List Value} (hC:∀a,(C a).length=sz) {p:α->Prop} {N fuel:Nat} (hf:fuel<=N+1)
  (elem:∀(m:Nat) (cs:List Value) (x:DataW H×List MemPlace),m<=N->DataW.trod enc P w base spare held m E cs=some x->∃a,cs=C a/\p a)
  {cs:List Value} {x:DataW H×List MemPlace} (h:DataW.trod enc P w base spare held fuel T cs=some x) :
  ∃(l:List α) (ad:Option Addr) (cap:Nat),cs=[.slice ad l.length cap]/\(∀a∈l,p a)/\(0<sz->Row w sz ad l.length cap (l.flatMap C)):=by
 rcases DataW.trod_slice und h with ⟨rfl,_⟩|⟨a,len,cap,elems,rest,m,hm,rfl,_,_,hl,hc,hel,helem,_⟩
 ·exact ⟨[],none,0,rfl,fun _ h=>(by cases h),fun _=>Row.nil w sz⟩
 ·subst hm
  have each:∀i,i<len->∃q:α,p q/\∀k,k<sz->w.cell? (a.add (i*sz+k))=(C q)[k]?:=fun i hi=>by
   have h1:=helem i hi
   rw [List.getElem?_eq_getElem (by omega),hE] at h1
   obtain ⟨cs',h2,h3⟩:=Option.bind_eq_some_iff.1 h1
   obtain ⟨q,rfl,hq⟩:=elem m cs' _ (by omega) h3
   obtain ⟨_,_,hcell⟩:=World.cells?_some h2
   refine ⟨q,hq,fun k hk=>?_⟩
   have:=hcell k hk
   rw [add_add] at this
   exact this
  obtain ⟨f,hf⟩:=choose_lt each
  let L:=(List.range len).map f
  have hL:L.length=len:=by simp [L]
  refine ⟨L,some a,cap,by rw [hL],fun q hq=>?_,fun hsz=>⟨?_,?_,hc,fun h=>(by cases h),fun hn=>?_⟩⟩
  ·obtain ⟨i,hi,rfl⟩:=List.mem_map.1 hq
   exact (hf i (List.mem_range.1 hi)).1
  ·rw [zfb hC]
  ·rw [hL];exact hl
  ·rw [hL] at hn
   have h0:=(hf 0 hn).2 0 hsz
   obtain ⟨u0,h00⟩:∃u0,(C (f 0))[0]?=some u0:=⟨_,List.getElem?_eq_getElem (by rw [hC];exact hsz)⟩
   rw [h00] at h0
   have hb:=World.block_lt_of_cell? w _ h0
   obtain ⟨b,off,spot⟩:=a
   have hspot:spot=none:=by simpa [Addr.add] using World.cell?_spot h0
   subst hspot
   refine ⟨b,off,rfl,by simpa [Addr.add] using hb,fun j u hj=>?_⟩
   obtain ⟨i,k,q,rfl,hk,hq,hu⟩:=zgj hC _ _ _ hj
   have hi:i<len:=by
    have:=(List.getElem?_eq_some_iff.1 hq).1
    rwa [hL] at this
   have hq2:f i=q:=by simpa [L,hi] using hq
   have:=(hf i hi).2 k hk
   rw [hq2,hu,Addr.add_lit] at this
   exact this
end
end Go.Proofs.YtfafdeemfeaedaaGreat
namespace Go.Proofs.YtfafdeemfeaedaaGreat
open Go.ChangeShapes Go.WideShapes Go.Joins Go.RowKit Go.Deep
def zdg (l:List (PV×Value)):List Value:=l.flatMap fun p=>pvC p.1 p.2
theorem cellsP_len (l:List (PV×Value)):(zdg l).length=l.length*4:=by
 induction l with
 | nil=>rfl
 | cons p l ih=>unfold zdg at *;rw [List.flatMap_cons,List.length_append,ih,List.length_cons];simp [pvC];omega
theorem row4 {w:World} {b:Nat}:∀(l:List (PV×Value)) (off:Nat),
  (∀i p,l[i]?=some p->w.cell? ⟨b,off+i*4,none⟩=some (.int .i64 p.1.kind)/\w.cell? ⟨b,off+i*4+1,none⟩=some (.int .i64 p.1.n)/\w.cell? ⟨b,off+i*4+2,none⟩=some (.string (mkB p.1.s))/\w.cell? ⟨b,off+i*4+3,none⟩=some p.2) ->
  ∀j u,(zdg l)[j]?=some u->w.cell? ⟨b,off+j,none⟩=some u
 | [],_,_,j,u,h=>by simp [zdg] at h
 | p::l,off,hc,j,u,h=>by
  have h0:=hc 0 p rfl
  simp only [Nat.zero_mul,Nat.add_zero] at h0
  have e:zdg (p::l)=.int .i64 p.1.kind::.int .i64 p.1.n::.string (mkB p.1.s)::p.2::zdg l:=rfl
  rw [e] at h
  match j,h with
  | 0,h=>simp at h;subst h;exact h0.1
  | 1,h=>simp at h;subst h;exact h0.2.1
  | 2,h=>simp at h;subst h;exact h0.2.2.1
  | 3,h=>simp at h;subst h;exact h0.2.2.2
  | j+4,h =>
   have:=row4 l (off+4) (fun i q hq=>by
    have:=hc (i+1) q hq
    rw [show off+(i+1)*4=off+4+i*4 by omega] at this
    exact this) j u (by simpa using h)
   rw [show off+4+j=off+(j+4) by omega] at this
   exact this
theorem isVs_of {w:World}:∀l:List (PV×Value),(∀p∈l,IsV w anyF p.1 p.2)->IsVs w anyF (l.map (·.1)) (zdg l)
 | [],_=>rfl
 | p::l,h=>⟨p.2,zdg l,rfl,h p (List.mem_cons_self ..),isVs_of l fun q hq=>h q (List.mem_cons_of_mem _ hq)⟩
def grpC (q:Grp×Value):List Value:=[.int .i64 q.1.first,q.2]
theorem isGs_of {w:World}:∀l:List (Grp×Value),(∀q∈l,IsE w anyF q.1.es q.2)->IsGs w anyF (l.map (·.1)) (l.flatMap grpC)
 | [],_=>rfl
 | q::l,h=>⟨q.2,l.flatMap grpC,rfl,h q (List.mem_cons_self ..),isGs_of l fun r hr=>h r (List.mem_cons_of_mem _ hr)⟩
section
variable {H : Type} {enc : TypeId × Value -> H} {w : World} {base : Nat} {spare : Nat -> Bool} {held : Bool}
set_option maxRecDepth 100000 in
theorem ent_cells (m:Nat) (cs:List Value) (x:DataW H×List MemPlace) (h:DataW.trod enc Tryz.prog w base spare held m 44 cs=some x):∃e:Ent,cs=entC e/\True:=by
 have hC:Tryz.prog.cellsOf 44=3:=by kernel_rfl
 obtain ⟨xs,n,rfl,-,hlen,hxl,hf⟩:=DataW.trod_struct Tryz.underlying44 h
 rw [hC] at hlen
 match xs,hxl,cs,hlen with
 | [y0,y1,y2],_,[c0,c1,c2],_ =>
 have k3:Tryz.prog.cellsOf 3=1:=by kernel_rfl
 have k1:Tryz.prog.cellsOf 4=1:=by kernel_rfl
 have g0:DataW.trod enc Tryz.prog w base spare held n 3 ((([c0,c1,c2]:List Value).drop 0).take (Tryz.prog.cellsOf 3))=some y0:=hf 0 _ rfl
 have g1:DataW.trod enc Tryz.prog w base spare held n 3 ((([c0,c1,c2]:List Value).drop 1).take (Tryz.prog.cellsOf 3))=some y1:=hf 1 _ rfl
 have g2:DataW.trod enc Tryz.prog w base spare held n 4 ((([c0,c1,c2]:List Value).drop 2).take (Tryz.prog.cellsOf 4))=some y2:=hf 2 _ rfl
 rw [k3] at g0 g1
 rw [k1] at g2
 obtain ⟨z0,e0,_,_⟩:=DataW.trod_int Tryz.underlying3 g0
 obtain ⟨z1,e1,_,_⟩:=DataW.trod_int Tryz.underlying3 g1
 obtain ⟨z2,e2,_⟩:=DataW.trod_bool Tryz.underlying4 g2
 simp at e0 e1 e2
 subst e0 e1 e2
 exact ⟨⟨z0,z1,z2⟩,rfl,trivial⟩
set_option maxRecDepth 100000 in
theorem grp_cells (m:Nat) (cs:List Value) (x:DataW H×List MemPlace) (h:DataW.trod enc Tryz.prog w base spare held m 42 cs=some x):∃q:Grp×Value,cs=grpC q/\IsE w anyF q.1.es q.2:=by
 have hC:Tryz.prog.cellsOf 42=2:=by kernel_rfl
 obtain ⟨xs,n,rfl,-,hlen,hxl,hf⟩:=DataW.trod_struct Tryz.underlying42 h
 rw [hC] at hlen
 match xs,hxl,cs,hlen with
 | [y0,y1],_,[c0,c1],_ =>
 have k3:Tryz.prog.cellsOf 3=1:=by kernel_rfl
 have k1:Tryz.prog.cellsOf 40=1:=by kernel_rfl
 have g0:DataW.trod enc Tryz.prog w base spare held n 3 ((([c0,c1]:List Value).drop 0).take (Tryz.prog.cellsOf 3))=some y0:=hf 0 _ rfl
 have g1:DataW.trod enc Tryz.prog w base spare held n 40 ((([c0,c1]:List Value).drop 1).take (Tryz.prog.cellsOf 40))=some y1:=hf 1 _ rfl
 rw [k3] at g0
 rw [k1] at g1
 obtain ⟨z0,e0,_,_⟩:=DataW.trod_int Tryz.underlying3 g0
 obtain ⟨l,ad,cap,e1,_,hr⟩:=zeu (α:=Ent) (C:=entC) (p:=fun _=>True) Tryz.underlying40 (show Tryz.prog.cellsOf 44=3 by kernel_rfl) (fun _=>rfl) (Nat.le_succ n) (fun m cs x _ hx=>ent_cells m cs x hx) g1
 simp at e0 e1
 subst e0 e1
 exact ⟨(⟨z0,l⟩,.slice ad l.length cap),rfl,ad,cap,rfl,hr (by decide),fun _ _ _=>trivial⟩
end
theorem txMs_of {M:Nat}:∀ {l:List PV},(∀p∈l,txM M p)->txMs M l
 | [],_=>trivial
 | v::_,h=>⟨h v (List.mem_cons_self ..),txMs_of fun p hp=>h p (List.mem_cons_of_mem _ hp)⟩
theorem all_memW {H:Type} {P:Program} {e:TypeId}:∀ {l:List (DataW H)} {i:Nat} {d:DataW H},l[i]?=some d->∀n∈d.weights P e,n∈DataW.weightsAll P e l
 | [],_,_,h,_,_=>by simp at h
 | x::l,0,d,h,n,hn=>by
  simp at h;subst h
  simp only [DataW.weightsAll]
  exact List.mem_append_left _ hn
 | x::l,i+1,d,h,n,hn=>by
  simp only [DataW.weightsAll]
  exact List.mem_append_right _ (all_memW (i:=i) (by simpa using h) n hn)
theorem zfS {H:Type} {P:Program} {t e:TypeId} (und:P.underlying t=some (.slice e)) {elems rest:List (DataW H)} {i:Nat} {d:DataW H} (h:elems[i]?=some d) (n:Nat) (hn:n∈d.weights P e):n∈(DataW.slice elems rest).weights P t:=by
 simp only [DataW.weights,und]
 exact List.mem_cons_of_mem _ (List.mem_append_left _ (all_memW h n hn))
section
variable {H : Type} {enc : TypeId × Value -> H} {w : World} {base : Nat} {spare : Nat -> Bool} {held : Bool}
set_option maxRecDepth 100000 in
theorem val_cellsM:∀(N fuel:Nat) (cs:List Value) (x:DataW H×List MemPlace),fuel<=N->DataW.trod enc Tryz.prog w base spare held fuel 27 cs=some x->∃(v:PV) (sl:Value),cs=pvC v sl/\IsV w anyF v sl/\(∀M,(∀n∈DataW.weights Tryz.prog 27 x.1,n<=M)->txM M v):=by
 intro N
 induction N with
 | zero =>
  intro fuel cs x hf h
  obtain rfl:fuel=0:=by omega
  simp [DataW.trod] at h
 | succ N ih =>
 intro fuel cs x hfu h
 have hC:Tryz.prog.cellsOf 27=4:=by kernel_rfl
 obtain ⟨xs,n,rfl,rfl,hlen,hxl,hf⟩:=DataW.trod_struct Tryz.underlying27 h
 rw [hC] at hlen
 match xs,hxl,cs,hlen with
 | [y0,y1,y2,y3],_,[c0,c1,c2,c3],_ =>
 have k3:Tryz.prog.cellsOf 3=1:=by kernel_rfl
 have k9:Tryz.prog.cellsOf 9=1:=by kernel_rfl
 have k22:Tryz.prog.cellsOf 25=1:=by kernel_rfl
 have g0:DataW.trod enc Tryz.prog w base spare held n 3 ((([c0,c1,c2,c3]:List Value).drop 0).take (Tryz.prog.cellsOf 3))=some y0:=hf 0 _ rfl
 have g1:DataW.trod enc Tryz.prog w base spare held n 3 ((([c0,c1,c2,c3]:List Value).drop 1).take (Tryz.prog.cellsOf 3))=some y1:=hf 1 _ rfl
 have g2:DataW.trod enc Tryz.prog w base spare held n 9 ((([c0,c1,c2,c3]:List Value).drop 2).take (Tryz.prog.cellsOf 9))=some y2:=hf 2 _ rfl
 have g3:DataW.trod enc Tryz.prog w base spare held n 25 ((([c0,c1,c2,c3]:List Value).drop 3).take (Tryz.prog.cellsOf 25))=some y3:=hf 3 _ rfl
 rw [k3] at g0 g1
 rw [k9] at g2
 rw [k22] at g3
 obtain ⟨z0,e0,_,_⟩:=DataW.trod_int Tryz.underlying3 g0
 obtain ⟨z1,e1,_,_⟩:=DataW.trod_int Tryz.underlying3 g1
 obtain ⟨s,e2,hy2,_⟩:=DataW.trod_string Tryz.underlying9 g2
 simp at e0 e1 e2
 subst e0 e1 e2
 have hws:∀n∈DataW.weights Tryz.prog 9 y2.1,n∈DataW.weights Tryz.prog 27 (DataW.agg ([y0,y1,y2,y3].map (·.1))):=fun n hn=>by
  simp only [DataW.weights,Tryz.underlying27]
  exact DataW.weights_mem_each (j:=2) rfl rfl n hn
 have hwl:∀n∈DataW.weights Tryz.prog 25 y3.1,n∈DataW.weights Tryz.prog 27 (DataW.agg ([y0,y1,y2,y3].map (·.1))):=fun n hn=>by
  simp only [DataW.weights,Tryz.underlying27]
  exact DataW.weights_mem_each (j:=3) rfl rfl n hn
 have hs1:∀M,(∀n∈DataW.weights Tryz.prog 27 (DataW.agg ([y0,y1,y2,y3].map (·.1))),n<=M)->s.data.toList.length<=M:=fun M h=>by
  refine h _ (hws _ ?_)
  rw [hy2]
  simp [DataW.weights]
 clear hws
 rcases DataW.trod_slice Tryz.underlying25 g3 with ⟨e3,_⟩|⟨a,len,cap,elems,rest,m,hm,e3,hy3,_,hl,hc,hel,helem,_⟩
 ·simp at e3
  subst e3
  exact ⟨.mk z0 z1 s.data.toList [],.slice none 0 0,rfl,IsV.leaf w anyF _ rfl,fun M h=>⟨hs1 M h,trivial⟩⟩
 ·simp at e3
  subst e3
  subst hm
  have each:∀i,i<len->∃q:PV×Value,(IsV w anyF q.1 q.2/\(∀M,(∀n∈DataW.weights Tryz.prog 27 (DataW.agg ([y0,y1,y2,y3].map (·.1))),n<=M)->txM M q.1))/\w.cell? (a.add (i*4))=some (.int .i64 q.1.kind)/\w.cell? (a.add (i*4+1))=some (.int .i64 q.1.n)/\w.cell? (a.add (i*4+2))=some (.string (mkB q.1.s))/\w.cell? (a.add (i*4+3))=some q.2:=fun i hi=>by
   have h1:=helem i hi
   have hei:elems[i]?=some (elems[i]'(by omega)):=List.getElem?_eq_getElem (by omega)
   rw [hei,hC] at h1
   obtain ⟨cs',h2,h3⟩:=Option.bind_eq_some_iff.1 h1
   obtain ⟨v,sl,rfl,hv,hvM⟩:=ih m cs' _ (by omega) h3
   have hvM2:∀M,(∀n∈DataW.weights Tryz.prog 27 (DataW.agg ([y0,y1,y2,y3].map (·.1))),n<=M)->txM M v:=fun M h=>hvM M fun n hn=>h n (hwl n (by
    rw [hy3]
    exact zfS Tryz.underlying25 (i:=i) (by rw [List.getElem?_map,hei];rfl) n hn))
   obtain ⟨_,_,hcell⟩:=World.cells?_some h2
   have a0:=hcell 0 (by omega)
   have a1:=hcell 1 (by omega)
   have a2:=hcell 2 (by omega)
   have a3:=hcell 3 (by omega)
   rw [add_add] at a0 a1 a2 a3
   exact ⟨(v,sl),⟨hv,hvM2⟩,by simpa [pvC] using a0,by simpa [pvC] using a1,by simpa [pvC] using a2,by simpa [pvC] using a3⟩
  have:Inhabited (PV×Value):=⟨(PV.none,.slice none 0 0)⟩
  obtain ⟨f,hf⟩:=choose_lt each
  let L:=(List.range len).map f
  have hL:L.length=len:=by simp [L]
  have hv:IsV w anyF (.mk z0 z1 s.data.toList (L.map (·.1))) (.slice (some a) (PV.mk z0 z1 s.data.toList (L.map (·.1))).l.length cap):=by
   refine IsV.mk (cs:=zdg L) ⟨?_,?_,hc,fun h=>(by cases h),fun hn=>?_⟩ (fun _ _ _=>trivial) ?_
   ·rw [cellsP_len];simp [PV.l]
   ·simp only [PV.l,List.length_map,hL];exact hl
   ·simp only [PV.l,List.length_map,hL] at hn
    have h0:=(hf 0 hn).2.1
    have hb:=World.block_lt_of_cell? w _ h0
    obtain ⟨b,off,spot⟩:=a
    have hspot:spot=none:=by simpa [Addr.add] using World.cell?_spot h0
    subst hspot
    refine ⟨b,off,rfl,by simpa [Addr.add] using hb,row4 L off fun i p hp=>?_⟩
    have hi:i<len:=by
     have:=(List.getElem?_eq_some_iff.1 hp).1
     rwa [hL] at this
    have hp2:f i=p:=by
     simpa [L,hi] using hp
    obtain ⟨_,e0,e1,e2,e3⟩:=hf i hi
    rw [hp2] at e0 e1 e2 e3
    rw [Addr.add_lit] at e0 e1 e2 e3
    rw [<-Nat.add_assoc] at e1 e2 e3
    exact ⟨e0,e1,e2,e3⟩
   ·refine isVs_of L fun p hp=>?_
    obtain ⟨i,hi,rfl⟩:=List.mem_map.1 hp
    exact (hf i (List.mem_range.1 hi)).1.1
  refine ⟨_,_,?_,hv,fun M h=>⟨hs1 M h,txMs_of fun p hp=>?_⟩⟩
  rotate_left
  ·obtain ⟨q,hq,rfl⟩:=List.mem_map.1 hp
   obtain ⟨i,hi,rfl⟩:=List.mem_map.1 hq
   exact (hf i (List.mem_range.1 hi)).1.2 M h
  simp only [pvC,PV.kind,PV.n,PV.s,PV.l,List.length_map,hL]
  rfl
end
end Go.Proofs.YtfafdeemfeaedaaGreat
